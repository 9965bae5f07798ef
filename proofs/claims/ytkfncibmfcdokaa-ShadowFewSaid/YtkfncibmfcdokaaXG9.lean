import Derived.Test.YtkfncibmfcdokaaProg
import Derived.Test.YtkfncibmfcdokaaXEq
import Derived.Test.YtkfncibmfcdokaaXLoc
import Derived.Test.YtkfncibmfcdokaaXRange
set_option linter.unusedVariables false
set_option linter.unusedSimpArgs false
namespace Go.Proofs.Ytkfncibmfcdokaa
open Go Go.X

/- pomander/pomanderlaw03.is -/
def W_pomanderlaw03_is (s1 : Option Addr) (l1 : Option Addr) (l1n : Nat) (l1c : Nat) (w : World) (R : Bool → World → Prop) : Prop :=
  ∀ (b4 b3 b2 b1 : Nat) (w6 : World), (w.heap.size ≤ b4 ∧ b4 < w6.heap.size) → (w.heap.size ≤ b3 ∧ b3 < w6.heap.size) → (w.heap.size ≤ b2 ∧ b2 < w6.heap.size) → (w.heap.size ≤ b1 ∧ b1 < w6.heap.size) → Chg [] w w6 → (Calls Try.prog 50 #[.pointer s1] w6 fun e w7 => ∃ (r2 : Value), e = .returned (r2) ∧ (Same w6 w7 [b4, b3, b2, b1] ∧ (∃ (t1 : Bool), (∀ w : World, ((do eqGuard .eql 111 (.tmp 11) (.const (.nilFunc)) (r2) (.nilFunc); binOp .eql 111 (r2) (.nilFunc) : Sem Value)).run Try.prog w = .ok (.bool t1) w) ∧ ((t1 = true → ∀ (w8 : World), Chg [b2] w7 w8 → (R false w8)) ∧ (t1 = false → Calls Try.prog 50 #[.pointer s1] w7 fun e w9 => ∃ (r3 : Value), e = .returned (r3) ∧ (Same w7 w9 [b4, b3, b2, b1] ∧ (∃ (S1 Sp1 : List (Int × Int) → Prop) (keep1 : List Nat), XR.IsFn Try.prog r3 ∧ XR.Iterates Try.prog r3 (fun x : Int × Int => #[.int .i64 x.1, .int .u32 x.2]) S1 Sp1 keep1 w9 ∧ (∀ i_ ∈ keep1, i_ < w9.heap.size) ∧ ∃ (I1 : Int → Bool → List Nat → List (Int × Int) → World → Prop) (X1 : Bool → Int → Bool → List Nat → List (Int × Int) → World → Prop), (∀ (c1 : Int) (c2 : Bool) (pre_ : List (Int × Int)), XR.Stab w9 (fun O_ w_ => I1 c1 c2 O_ pre_ w_)) ∧ (∀ (c3 : Bool) (c4 : Int) (c5 : Bool) (pre_ : List (Int × Int)), XR.Stab w9 (fun O_ w_ => X1 c3 c4 c5 O_ pre_ w_)) ∧ (∀ (O1 : List Nat) (w10 : World), Chg [] w9 w10 → XR.InO w9 O1 w10 → I1 0 true O1 ([]) w10) ∧ (∀ (l2 : Nat) (O1 : List Nat) (pre1 : List (Int × Int)) (x1 : Int) (x2 : Int) (c1 : Int) (c2 : Bool) (w10 : World), XR.InO w9 O1 w10 → l2 ∈ O1 → Sp1 (pre1 ++ [(x1, x2)]) → I1 c1 c2 O1 pre1 w10 → (∀ (w11 : World), Chg [l2] w10 w11 → (∃ (I2 : Int → World → Prop) (m1 : Int → World → Nat), I2 c1 w11 ∧ ∀ (c6 : Int) (w12 : World), I2 c6 w12 → ∃ J1 : Bool → World → Prop, (∀ (b5 : Bool) (w13 : World), J1 b5 w13 → (b5 = true → ∀ (w14 : World), Chg [b3] w13 w14 → ((I2 (IntKind.wrap .i64 (c6 + 1)) w14 ∧ m1 (IntKind.wrap .i64 (c6 + 1)) w14 < m1 c6 w12))) ∧ (b5 = false → ∃ J2 : Bool → World → Prop, (∀ (b6 : Bool) (w15 : World), J2 b6 w15 → ∃ J3 : Bool → World → Prop, (∀ (b7 : Bool) (w16 : World), J3 b7 w16 → ∃ J4 : Bool → World → Prop, (∀ (b8 : Bool) (w17 : World), J4 b8 w17 → ∀ (w19 : World), Chg [b4, b3] w17 w19 → (((decide ((IntKind.wrap .i64 (c6 + 1)) > (l1n : Int))) = true → ∀ (w20 : World), Chg [b2] w19 w20 → ((w11.heap.size ≤ w20.heap.size ∧ X1 false (IntKind.wrap .i64 (c6 + 1)) b8 O1 (pre1 ++ [(x1, x2)]) w20 ∧ Same w11 w20 (keep1 ++ O1)))) ∧ ((decide ((IntKind.wrap .i64 (c6 + 1)) > (l1n : Int))) = false → (w11.heap.size ≤ w19.heap.size ∧ I1 (IntKind.wrap .i64 (c6 + 1)) b8 O1 (pre1 ++ [(x1, x2)]) w19 ∧ Same w11 w19 (keep1 ++ O1))))) ∧ ((b7 = true → ∃ a2 : Addr, l1 = some a2 ∧ (0 : Int) ≤ (if (IntKind.wrap .i64 ((l1n : Int) - 1)) < c6 then (IntKind.wrap .i64 ((l1n : Int) - 1)) else c6) ∧ (if (IntKind.wrap .i64 ((l1n : Int) - 1)) < c6 then (IntKind.wrap .i64 ((l1n : Int) - 1)) else c6) < (l1n : Int) ∧ (∃ (t3 : Int), w16.cell? (a2.add (Int.toNat (if (IntKind.wrap .i64 ((l1n : Int) - 1)) < c6 then (IntKind.wrap .i64 ((l1n : Int) - 1)) else c6) * 1)) = some (.int .u32 t3) ∧ (J4 (t3 == x2) w16))) ∧ (b7 = false → J4 false w16))) ∧ ((b6 = true → J3 (x1 == c6) w15) ∧ (b6 = false → J3 false w15))) ∧ ((c2 = true → J2 (decide (c6 < (l1n : Int))) w13) ∧ (c2 = false → J2 false w13)))) ∧ (((decide (c6 < (l1n : Int))) = true → ∃ a1 : Addr, l1 = some a1 ∧ (0 : Int) ≤ c6 ∧ c6 < (l1n : Int) ∧ (∃ (t2 : Int), w12.cell? (a1.add (Int.toNat c6 * 1)) = some (.int .u32 t2) ∧ (J1 (t2 == 0) w12))) ∧ ((decide (c6 < (l1n : Int))) = false → J1 false w12))))) ∧ (∀ (d1 : Nat) (O2 : List Nat) (xs1 : List (Int × Int)) (c1 : Int) (c2 : Bool) (w21 : World), XR.InO w9 O2 w21 → d1 ∈ O2 → S1 xs1 → I1 c1 c2 O2 xs1 w21 → (∃ (I3 : Int → World → Prop) (m2 : Int → World → Nat), I3 c1 w21 ∧ ∀ (c7 : Int) (w22 : World), I3 c7 w22 → ∃ J5 : Bool → World → Prop, (∀ (b9 : Bool) (w23 : World), J5 b9 w23 → (b9 = true → ∀ (w24 : World), Chg [b3] w23 w24 → ((I3 (IntKind.wrap .i64 (c7 + 1)) w24 ∧ m2 (IntKind.wrap .i64 (c7 + 1)) w24 < m2 c7 w22))) ∧ (b9 = false → ∃ (I4 : Int → Bool → World → Prop) (m3 : Int → Bool → World → Nat), I4 (-1) c2 w23 ∧ ∀ (p1 : Int) (c8 : Bool) (w25 : World), I4 p1 c8 w25 → ((decide (p1 ≤ (IntKind.wrap .i64 (Int.tdiv (l1n : Int) 64)))) = true → ∀ (w26 : World), Chg [] w25 w26 → (∃ J6 : Bool → World → Prop, (∀ (b10 : Bool) (w27 : World), J6 b10 w27 → ∀ (w30 : World), Chg [b4] w27 w30 → ((I4 (IntKind.wrap .i64 (p1 + 1)) b10 w30 ∧ m3 (IntKind.wrap .i64 (p1 + 1)) b10 w30 < m3 p1 c8 w25))) ∧ ((c8 = true → Calls Try.prog 56 #[.pointer s1, .int .i64 p1] w26 fun e w28 => ∃ (r4 : Bool), e = .returned (.bool r4) ∧ (Same w26 w28 [b1, b2, b3, b4, d1] ∧ (Calls Try.prog 84 #[.slice l1 l1n l1c, .int .i64 p1] w28 fun e w29 => ∃ (r5 : Bool), e = .returned (.bool r5) ∧ (Same w28 w29 [b1, b2, b3, b4, d1] ∧ (J6 (r4 == r5) w29))))) ∧ (c8 = false → J6 false w26)))) ∧ ((decide (p1 ≤ (IntKind.wrap .i64 (Int.tdiv (l1n : Int) 64)))) = false → ∀ (w31 : World), Chg [] w25 w31 → (∃ J7 : Bool → World → Prop, (∀ (b11 : Bool) (w32 : World), J7 b11 w32 → ∃ J8 : Bool → World → Prop, (∀ (b12 : Bool) (w33 : World), J8 b12 w33 → ∃ J9 : Bool → World → Prop, (∀ (b13 : Bool) (w36 : World), J9 b13 w36 → ∀ (w38 : World), Chg [b2] w36 w38 → (∀ w39 : World, Chg [d1] w38 w39 → (R b13 w39))) ∧ ((b12 = true → Calls Try.prog 54 #[.pointer s1] w33 fun e w37 => ∃ (r8 : Int), e = .returned (.int .i64 r8) ∧ (Same w33 w37 [b1, b2, b3, b4, d1] ∧ (J9 (r8 == (l1n : Int)) w37))) ∧ (b12 = false → J9 false w33))) ∧ ((b11 = true → Calls Try.prog 55 #[.pointer s1] w32 fun e w34 => ∃ (r6 : Int), e = .returned (.int .i64 r6) ∧ (Same w32 w34 [b1, b2, b3, b4, d1] ∧ (Calls Try.prog 61 #[.slice l1 l1n l1c] w34 fun e w35 => ∃ (r7 : Int), e = .returned (.int .i64 r7) ∧ (Same w34 w35 [b1, b2, b3, b4, d1] ∧ (J8 (r6 == r7) w35))))) ∧ (b11 = false → J8 false w32))) ∧ ((c8 = true → J7 (c7 == (l1n : Int)) w31) ∧ (c8 = false → J7 false w31)))))) ∧ (((decide (c7 < (l1n : Int))) = true → ∃ a3 : Addr, l1 = some a3 ∧ (0 : Int) ≤ c7 ∧ c7 < (l1n : Int) ∧ (∃ (t4 : Int), w22.cell? (a3.add (Int.toNat c7 * 1)) = some (.int .u32 t4) ∧ (J5 (t4 == 0) w22))) ∧ ((decide (c7 < (l1n : Int))) = false → J5 false w22)))) ∧ (∀ (d2 : Nat) (O3 : List Nat) (xs2 : List (Int × Int)) (c3 : Bool) (c4 : Int) (c5 : Bool) (w40 : World), XR.InO w9 O3 w40 → d2 ∈ O3 → Sp1 xs2 → X1 c3 c4 c5 O3 xs2 w40 → (∀ w41 : World, Chg [d2] w40 w41 → (R c3 w41))))))))))
set_option maxRecDepth 100000 in
theorem go_pomanderlaw03_is (s1 : Option Addr) (l1 : Option Addr) (l1n : Nat) (l1c : Nat) (w : World) (R : Bool → World → Prop) (h : W_pomanderlaw03_is s1 l1 l1n l1c w R) : Calls Try.prog 45 #[.pointer s1, .slice l1 l1n l1c] w (fun e w' => ∃ (r1 : Bool), e = .returned (.bool r1) ∧ R r1 w') := by
  unfold W_pomanderlaw03_is at h
  refine XR.enterM (N := 111) Try.func45 rfl rfl ?_
  refine CW.seq ?_
  refine CW.region fun L hL => ?_
  obtain ⟨b1, hb_b1⟩ : ∃ b1, b1 = World.size w := ⟨_, rfl⟩
  obtain ⟨w1, hw_w1⟩ : ∃ w1, w1 = World.alloc w (.cells #[.slice l1 l1n l1c] 31) := ⟨_, rfl⟩
  refine LW.val hL rfl (Wants.free rfl) rfl (boxE hb_b1 hw_w1 (Vl.box (v := .slice l1 l1n l1c) rfl)) ?_
  have hB := Boxes.alloc (cs := [.slice l1 l1n l1c]) (T := 31) (Boxes.nil w) hb_b1 hw_w1
  have hlo_b1 := sil_lo (Chg.refl [] w) hb_b1
  have hc_w1 := sil_alloc (Chg.refl [] w) hw_w1
  obtain ⟨b2, hb_b2⟩ : ∃ b2, b2 = World.size w1 := ⟨_, rfl⟩
  obtain ⟨w2, hw_w2⟩ : ∃ w2, w2 = World.alloc w1 (.cells #[.bool false] 4) := ⟨_, rfl⟩
  refine LW.val hL rfl (Wants.free rfl) rfl (boxE hb_b2 hw_w2 (Vl.alloc (z := .bool false) (by kernel_rfl))) ?_
  replace hB := Boxes.alloc (cs := [.bool false]) (T := 4) hB hb_b2 hw_w2
  have hlo_b2 := sil_lo hc_w1 hb_b2
  have hc_w2 := sil_alloc hc_w1 hw_w2
  refine LW.nil hL rfl ?_
  refine NW.then ?_
  refine CW.seq ?_
  refine CW.region fun L hL => ?_
  obtain ⟨b3, hb_b3⟩ : ∃ b3, b3 = World.size w2 := ⟨_, rfl⟩
  obtain ⟨w3, hw_w3⟩ : ∃ w3, w3 = World.alloc w2 (.cells #[.int .i64 0] 3) := ⟨_, rfl⟩
  refine LW.val hL rfl (Wants.free rfl) rfl (boxE hb_b3 hw_w3 (Vl.alloc (z := .int .i64 0) (by kernel_rfl))) ?_
  replace hB := Boxes.alloc (cs := [.int .i64 0]) (T := 3) hB hb_b3 hw_w3
  have hlo_b3 := sil_lo hc_w2 hb_b3
  have hc_w3 := sil_alloc hc_w2 hw_w3
  obtain ⟨w4, hw_w4⟩ : ∃ x, x = World.setCell w3 (⟨b3, 0, none⟩ : Addr) (.int .i64 0) := ⟨_, rfl⟩
  refine LW.eff hL rfl (Wants.free rfl) rfl (stE hw_w4 (Ef.st rfl rfl rfl (by kernel_rfl) (box_cell (v := .int .i64 0) (hB.at (i := 0) rfl) rfl) (free_of (hB.at (i := 0) rfl) 0))) ?_
  replace hB : Boxes w4 [(b3, [.int .i64 0], 3), (b2, [.bool false], 4), (b1, [.slice l1 l1n l1c], 31)] := Boxes.store1  (i := 0) (o := 0) hB rfl rfl rfl rfl hw_w4
  have hc_w4 := sil_new hc_w3 (sil_c1 hw_w4) hlo_b3
  refine LW.nil hL rfl ?_
  refine NW.then ?_
  refine CW.seq ?_
  refine CW.region fun L hL => ?_
  obtain ⟨b4, hb_b4⟩ : ∃ b4, b4 = World.size w4 := ⟨_, rfl⟩
  obtain ⟨w5, hw_w5⟩ : ∃ w5, w5 = World.alloc w4 (.cells #[.bool false] 4) := ⟨_, rfl⟩
  refine LW.val hL rfl (Wants.free rfl) rfl (boxE hb_b4 hw_w5 (Vl.alloc (z := .bool false) (by kernel_rfl))) ?_
  replace hB := Boxes.alloc (cs := [.bool false]) (T := 4) hB hb_b4 hw_w5
  have hlo_b4 := sil_lo hc_w4 hb_b4
  have hc_w5 := sil_alloc hc_w4 hw_w5
  obtain ⟨w6, hw_w6⟩ : ∃ x, x = World.setCell w5 (⟨b4, 0, none⟩ : Addr) (.bool true) := ⟨_, rfl⟩
  refine LW.eff hL rfl (Wants.free rfl) rfl (stE hw_w6 (Ef.st rfl rfl rfl (by kernel_rfl) (box_cell (v := .bool false) (hB.at (i := 0) rfl) rfl) (free_of (hB.at (i := 0) rfl) 0))) ?_
  replace hB : Boxes w6 [(b4, [.bool true], 4), (b3, [.int .i64 0], 3), (b2, [.bool false], 4), (b1, [.slice l1 l1n l1c], 31)] := Boxes.store1  (i := 0) (o := 0) hB rfl rfl rfl rfl hw_w6
  have hc_w6 := sil_new hc_w5 (sil_c1 hw_w6) hlo_b4
  refine LW.nil hL rfl ?_
  refine NW.then ?_
  refine CW.seq ?_
  refine CW.seq ?_
  refine CW.region fun L hL => ?_
  refine LW.rd hL rfl (Wants.free rfl) rfl (Rd.move (v := .pointer s1) rfl) ?_
  replace h := h b4 b3 b2 b1 w6 ⟨hlo_b4, lt_of_heap (hB.at (i := 0) rfl)⟩ ⟨hlo_b3, lt_of_heap (hB.at (i := 1) rfl)⟩ ⟨hlo_b2, lt_of_heap (hB.at (i := 2) rfl)⟩ ⟨hlo_b1, lt_of_heap (hB.at (i := 3) rfl)⟩ hc_w6
  refine LW.call hL rfl (Wants.free rfl) rfl (Cl.fn (f := 50) rfl Try.func50 (by kernel_rfl) rfl) h (fun e w7 h_ => ?_)
  clear h
  obtain ⟨r2, rfl, h⟩ := h_
  obtain ⟨hsm1, h⟩ := h
  replace hB := Boxes.sameS hB hsm1 (by simp)
  refine ⟨_, rfl, ?_⟩
  obtain ⟨t1, hx1, h⟩ := h
  refine LW.rd hL rfl (Wants.free rfl) rfl (Rd.bin (v := .bool t1) rfl rfl hx1) ?_
  refine LW.nil hL rfl ?_
  refine NW.then ?_
  refine CW.cond rfl (fun hb1 => ?_) (fun hb1 => ?_)
  · replace h := h.1 hb1
    refine CW.seq ?_
    refine CW.region fun L hL => ?_
    obtain ⟨w8, hw_w8⟩ : ∃ x, x = World.setCell w7 (⟨b2, 0, none⟩ : Addr) (.bool false) := ⟨_, rfl⟩
    refine LW.eff hL rfl (Wants.free rfl) rfl (stE hw_w8 (Ef.st rfl rfl rfl (by kernel_rfl) (box_cell (v := .bool false) (hB.at (i := 2) rfl) rfl) (free_of (hB.at (i := 2) rfl) 0))) ?_
    replace hB : Boxes w8 [(b4, [.bool true], 4), (b3, [.int .i64 0], 3), (b2, [.bool false], 4), (b1, [.slice l1 l1n l1c], 31)] := Boxes.store1  (i := 2) (o := 0) hB rfl rfl rfl rfl hw_w8
    have hc_w8 : Chg [b2] w7 w8 := sil_more (Chg.refl [] w7) (sil_c1 hw_w8)
    refine LW.nil hL rfl ?_
    refine NW.then ?_
    replace h := h  w8  hc_w8
    refine CW.ret ?_
    refine RW.then ?_
    exact XR.res0M (vs := [.bool false]) (by exact (ResOK.c rfl (lv1 (by kernel_rfl) (box_cell (Boxes.at (i := 2) hB rfl) rfl)) ResOK.nil)) rfl ⟨false, rfl, h⟩
  · replace h := h.2 hb1
    refine CW.skip ?_
    refine NW.then ?_
    refine CW.seq ?_
    refine CW.seq ?_
    refine CW.region fun L hL => ?_
    refine LW.rd hL rfl (Wants.free rfl) rfl (Rd.move (v := .pointer s1) rfl) ?_
    refine LW.call hL rfl (Wants.free rfl) rfl (Cl.fn (f := 50) rfl Try.func50 (by kernel_rfl) rfl) h (fun e w9 h_ => ?_)
    clear h
    obtain ⟨r3, rfl, h⟩ := h_
    obtain ⟨hsm2, h⟩ := h
    replace hB := Boxes.sameS hB hsm2 (by simp)
    refine ⟨_, rfl, ?_⟩
    refine LW.nil hL rfl ?_
    refine NW.then ?_
    refine CW.block ?_
    obtain ⟨S1, Sp1, keep1, hfn_, hit_, hkp_, I1, X1, hst_I1, hst_X1, h0_, hrd_, hdn_, hso_X1⟩ := h
    refine XR.CW.rangeV (α := Int × Int) (enc := (fun x : Int × Int => #[.int .i64 x.1, .int .u32 x.2])) (S := S1) (Sp := Sp1) (keep := keep1) rfl hfn_ (fun _ => rfl) (by decide) hit_ (fun (O_ : List Nat) (pre_ : List (Int × Int)) (w_ : World) => ∃ (c1 : Int) (c2 : Bool), I1 c1 c2 O_ pre_ w_ ∧ ∃ (u1 : Value), Boxes w_ [(b1, [.slice l1 l1n l1c], 31), (b2, [u1], 4), (b3, [.int .i64 c1], 3), (b4, [.bool c2], 4)]) (fun (c_ : Code) (O_ : List Nat) (pre_ : List (Int × Int)) (w_ : World) => (c_ = Code.ret ∧ ∃ (c3 : Bool) (c4 : Int) (c5 : Bool), X1 c3 c4 c5 O_ pre_ w_ ∧ Boxes w_ [(b1, [.slice l1 l1n l1c], 31), (b2, [.bool c3], 4), (b3, [.int .i64 c4], 3), (b4, [.bool c5], 4)])) ?_ ?_ ?_ hkp_ ?_ ?_ ?_
    · intro pre_ O_ O2_ A_ B_ hi_ hO_ hc_ hO2_ hg_
      have hB0_ := (hB.sel [3, 2, 1, 0] (by decide) rfl)
      obtain ⟨c1, c2, hi_, u1, hB⟩ := hi_
      exact ⟨c1, c2, hst_I1 c1 c2 pre_ O_ O2_ A_ B_ hi_ hO_ hc_ hO2_ hg_, u1, hB.stab hB0_ rfl hO_ hc_⟩
    · intro c_ pre_ O_ O2_ A_ B_ hi_ hO_ hc_ hO2_ hg_
      have hB0_ := (hB.sel [3, 2, 1, 0] (by decide) rfl)
      rcases hi_ with ⟨hcc_, c3, c4, c5, hi_, hB⟩
      · exact ⟨hcc_, c3, c4, c5, hst_X1 c3 c4 c5 pre_ O_ O2_ A_ B_ hi_ hO_ hc_ hO2_ hg_, hB.stab hB0_ rfl hO_ hc_⟩
    · intro O_ A_ hc_ hO_
      exact ⟨0, true, h0_ O_ A_ hc_ hO_, .bool false, Boxes.chg (hB.sel [3, 2, 1, 0] (by decide) rfl) hc_ (by simp)⟩
    · intro l2 O1 pre1 x_ w10 hO_ hl_ hSp_ hi_
      obtain ⟨x1, x2⟩ := x_
      obtain ⟨c1, c2, hi_, u1, hB⟩ := hi_
      have h := hrd_ l2 O1 pre1 x1 x2 c1 c2 w10 hO_ hl_ hSp_ hi_
      refine XR.CW.seq ?_
      refine XR.CW.region fun L hL => ?_
      refine XR.LW.rd hL rfl (Wants.free rfl) rfl (Rd.assign (v := .int .i64 x1) rfl) ?_
      refine XR.LW.nil hL rfl ?_
      refine XR.NW.then ?_
      refine XR.CW.region fun L hL => ?_
      refine XR.LW.rd hL rfl (Wants.free rfl) rfl (Rd.assign (v := .int .u32 x2) rfl) ?_
      refine XR.LW.nil hL rfl ?_
      refine XR.NW.begin (Chg.refl [] w10) (fun w11 hcb_w11 hlp_ hib_ => ?_)
      have hc_w11 : Chg [l2] w10 w11 := sil_more (Chg.refl [] w10) hcb_w11
      replace hB := hB.notloop hlp_ hcb_w11
      replace h := h  w11  hc_w11
      refine XR.CW.block ?_
      refine XR.CW.seq ?_
      refine XR.CW.block ?_
      obtain ⟨I2, m1, hI2, h⟩ := h
      refine XR.CW.loop (S := Int) (fun c6 => [(0, .pointer s1), (3, .pointer (some (⟨b1, 0, none⟩ : Addr))), (4, .pointer (some (⟨b2, 0, none⟩ : Addr))), (5, .pointer (some (⟨b3, 0, none⟩ : Addr))), (6, .pointer (some (⟨b4, 0, none⟩ : Addr))), (7, .int .i64 x1), (8, .int .u32 x2), (15, .int .i64 x1), (16, .int .u32 x2)]) (fun c6 w12 => I2 c6 w12 ∧ Boxes w12 [(b1, [.slice l1 l1n l1c], 31), (b2, [u1], 4), (b3, [.int .i64 c6], 3), (b4, [.bool c2], 4)]) (fun c6 w12 => m1 c6 w12) c1 (by exact ⟨rfl, rfl, rfl, rfl, rfl, rfl, rfl, rfl, rfl, trivial⟩) ⟨hI2, hB⟩ (fun c6 w12 hI2 => ?_)
      obtain ⟨hI2, hB⟩ := hI2
      replace h := h c6 w12 hI2
      refine XR.CW.seq ?_
      refine XR.CW.seq ?_
      refine XR.CW.region fun L hL => ?_
      refine XR.LW.rd hL rfl (Wants.free rfl) rfl (Rd.ld (v := .int .i64 c6) rfl (by kernel_rfl) (eqs (box_cell (hB.at (i := 2) rfl) rfl))) ?_
      refine XR.LW.rd hL rfl (Wants.free rfl) rfl (Rd.ld (v := .slice l1 l1n l1c) rfl (by kernel_rfl) (eqs (box_cell (hB.at (i := 0) rfl) rfl))) ?_
      refine XR.LW.rd hL rfl (Wants.free rfl) rfl (Rd.builtin (v := .int .i64 (l1n : Int)) rfl (fun _ _ => by kernel_rfl)) ?_
      refine XR.LW.rd hL rfl (Wants.free rfl) rfl (Rd.bin (v := .bool (decide (c6 < (l1n : Int)))) rfl rfl (fun w => by kernel_rfl)) ?_
      refine XR.LW.rd hL rfl (Wants.free rfl) rfl (Rd.move (v := .bool (decide (c6 < (l1n : Int)))) rfl) ?_
      obtain ⟨J1, hJ1, h1_J1, h0_J1⟩ := h
      suffices K1 : ∀ (b5 : Bool) (w13 : World), Boxes w13 [(b1, [.slice l1 l1n l1c], 31), (b2, [u1], 4), (b3, [.int .i64 c6], 3), (b4, [.bool c2], 4)] → J1 b5 w13 → L 11 [(0, .pointer s1), (3, .pointer (some (⟨b1, 0, none⟩ : Addr))), (4, .pointer (some (⟨b2, 0, none⟩ : Addr))), (5, .pointer (some (⟨b3, 0, none⟩ : Addr))), (6, .pointer (some (⟨b4, 0, none⟩ : Addr))), (7, .int .i64 x1), (8, .int .u32 x2), (15, .int .i64 x1), (16, .int .u32 x2), (27, .bool b5)] w13 by
        rcases Bool.eq_false_or_eq_true (decide (c6 < (l1n : Int))) with hb2 | hb2
        · have h := h1_J1 hb2
          refine XR.LW.rd hL rfl (Wants.on rfl rfl rfl rfl rfl hb2) rfl (Rd.ld (v := .slice l1 l1n l1c) rfl (by kernel_rfl) (eqs (box_cell (hB.at (i := 0) rfl) rfl))) ?_
          refine XR.LW.rd hL rfl (Wants.on rfl rfl rfl rfl rfl hb2) rfl (Rd.ld (v := .int .i64 c6) rfl (by kernel_rfl) (eqs (box_cell (hB.at (i := 2) rfl) rfl))) ?_
          obtain ⟨a1, he1, hi1, hi2, h⟩ := h
          refine XR.LW.rd hL rfl (Wants.on rfl rfl rfl rfl rfl hb2) rfl (Rd.iaS (q := a1) (sz := 1) (by rw [← he1]; rfl) rfl Try.underlying31 (by kernel_rfl) hi1 hi2) ?_
          obtain ⟨t2, hc1, h⟩ := h
          refine XR.LW.rd hL rfl (Wants.on rfl rfl rfl rfl rfl hb2) rfl (Rd.ld (v := .int .u32 t2) rfl (by kernel_rfl) (eqs hc1)) ?_
          refine XR.LW.rd hL rfl (Wants.on rfl rfl rfl rfl rfl hb2) rfl (Rd.bin (v := .bool (t2 == 0)) rfl rfl (fun w => by kernel_rfl)) ?_
          refine XR.LW.rd hL rfl (Wants.free rfl) rfl (Rd.pickT rfl hb2 rfl) ?_
          exact XR.LW.sub hL (by exact ⟨rfl, rfl, rfl, rfl, rfl, rfl, rfl, rfl, rfl, rfl, trivial⟩) (K1 (t2 == 0) w12 (by exact hB) h)
        · have h := h0_J1 hb2
          refine XR.LW.skip hL rfl (Skips.on rfl rfl rfl rfl rfl hb2) rfl ?_
          refine XR.LW.skip hL rfl (Skips.on rfl rfl rfl rfl rfl hb2) rfl ?_
          refine XR.LW.skip hL rfl (Skips.on rfl rfl rfl rfl rfl hb2) rfl ?_
          refine XR.LW.skip hL rfl (Skips.on rfl rfl rfl rfl rfl hb2) rfl ?_
          refine XR.LW.skip hL rfl (Skips.on rfl rfl rfl rfl rfl hb2) rfl ?_
          refine XR.LW.rd hL rfl (Wants.free rfl) rfl (Rd.pickF rfl hb2 rfl) ?_
          exact XR.LW.sub hL (by exact ⟨rfl, rfl, rfl, rfl, rfl, rfl, rfl, rfl, rfl, rfl, trivial⟩) (K1 false w12 (by exact hB) h)
      intro b5 w13 hB h_
      have h := hJ1 b5 w13 h_; clear h_
      refine XR.LW.nil hL rfl ?_
      refine XR.NW.then ?_
      refine XR.CW.cond rfl (fun hb3 => ?_) (fun hb3 => ?_)
      · replace h := h.1 hb3
        refine XR.CW.skip ?_
        refine XR.NW.then ?_
        refine XR.CW.block ?_
        refine XR.CW.region fun L hL => ?_
        refine XR.LW.rd hL rfl (Wants.free rfl) rfl (Rd.ld (v := .int .i64 c6) rfl (by kernel_rfl) (eqs (box_cell (hB.at (i := 2) rfl) rfl))) ?_
        refine XR.LW.rd hL rfl (Wants.free rfl) rfl (Rd.bin (v := .int .i64 (IntKind.wrap .i64 (c6 + 1))) rfl rfl (fun w => by kernel_rfl)) ?_
        obtain ⟨w14, hw_w14⟩ : ∃ x, x = World.setCell w13 (⟨b3, 0, none⟩ : Addr) (.int .i64 (IntKind.wrap .i64 (c6 + 1))) := ⟨_, rfl⟩
        refine XR.LW.eff hL rfl (Wants.free rfl) rfl (stE hw_w14 (Ef.st rfl rfl rfl (by kernel_rfl) (box_cell (v := .int .i64 c6) (hB.at (i := 2) rfl) rfl) (free_of (hB.at (i := 2) rfl) 0))) ?_
        replace hB : Boxes w14 [(b1, [.slice l1 l1n l1c], 31), (b2, [u1], 4), (b3, [.int .i64 (IntKind.wrap .i64 (c6 + 1))], 3), (b4, [.bool c2], 4)] := Boxes.store1  (i := 2) (o := 0) hB rfl rfl rfl rfl hw_w14
        have hc_w14 : Chg [b3] w13 w14 := sil_more (Chg.refl [] w13) (sil_c1 hw_w14)
        refine XR.LW.nil hL rfl ?_
        refine NW.block ?_
        replace h := h  w14  hc_w14
        exact NW.loop (S := Int) (Ek := fun c6 => [(0, .pointer s1), (3, .pointer (some (⟨b1, 0, none⟩ : Addr))), (4, .pointer (some (⟨b2, 0, none⟩ : Addr))), (5, .pointer (some (⟨b3, 0, none⟩ : Addr))), (6, .pointer (some (⟨b4, 0, none⟩ : Addr))), (7, .int .i64 x1), (8, .int .u32 x2), (15, .int .i64 x1), (16, .int .u32 x2)]) (IntKind.wrap .i64 (c6 + 1)) (by exact ⟨rfl, rfl, rfl, rfl, rfl, rfl, rfl, rfl, rfl, trivial⟩) ⟨⟨h.1, hB⟩, h.2⟩
      · replace h := h.2 hb3
        refine XR.CW.exit ?_
        refine XW.then ?_
        refine XW.then ?_
        refine XW.hit ?_
        refine XR.NW.then ?_
        refine XR.CW.seq ?_
        refine XR.CW.region fun L hL => ?_
        refine XR.LW.rd hL rfl (Wants.free rfl) rfl (Rd.ld (v := .bool c2) rfl (by kernel_rfl) (eqs (box_cell (hB.at (i := 3) rfl) rfl))) ?_
        refine XR.LW.rd hL rfl (Wants.free rfl) rfl (Rd.move (v := .bool c2) rfl) ?_
        obtain ⟨J2, hJ2, h1_J2, h0_J2⟩ := h
        suffices K2 : ∀ (b6 : Bool) (w15 : World), Boxes w15 [(b1, [.slice l1 l1n l1c], 31), (b2, [u1], 4), (b3, [.int .i64 c6], 3), (b4, [.bool c2], 4)] → J2 b6 w15 → L 7 [(0, .pointer s1), (3, .pointer (some (⟨b1, 0, none⟩ : Addr))), (4, .pointer (some (⟨b2, 0, none⟩ : Addr))), (5, .pointer (some (⟨b3, 0, none⟩ : Addr))), (6, .pointer (some (⟨b4, 0, none⟩ : Addr))), (7, .int .i64 x1), (8, .int .u32 x2), (15, .int .i64 x1), (16, .int .u32 x2), (36, .bool b6)] w15 by
          rcases Bool.eq_false_or_eq_true c2 with hb4 | hb4
          · have h := h1_J2 hb4
            refine XR.LW.rd hL rfl (Wants.on rfl rfl rfl rfl rfl hb4) rfl (Rd.ld (v := .int .i64 c6) rfl (by kernel_rfl) (eqs (box_cell (hB.at (i := 2) rfl) rfl))) ?_
            refine XR.LW.rd hL rfl (Wants.on rfl rfl rfl rfl rfl hb4) rfl (Rd.ld (v := .slice l1 l1n l1c) rfl (by kernel_rfl) (eqs (box_cell (hB.at (i := 0) rfl) rfl))) ?_
            refine XR.LW.rd hL rfl (Wants.on rfl rfl rfl rfl rfl hb4) rfl (Rd.builtin (v := .int .i64 (l1n : Int)) rfl (fun _ _ => by kernel_rfl)) ?_
            refine XR.LW.rd hL rfl (Wants.on rfl rfl rfl rfl rfl hb4) rfl (Rd.bin (v := .bool (decide (c6 < (l1n : Int)))) rfl rfl (fun w => by kernel_rfl)) ?_
            refine XR.LW.rd hL rfl (Wants.free rfl) rfl (Rd.pickT rfl hb4 rfl) ?_
            exact XR.LW.sub hL (by exact ⟨rfl, rfl, rfl, rfl, rfl, rfl, rfl, rfl, rfl, rfl, trivial⟩) (K2 (decide (c6 < (l1n : Int))) w13 (by exact hB) h)
          · have h := h0_J2 hb4
            refine XR.LW.skip hL rfl (Skips.on rfl rfl rfl rfl rfl hb4) rfl ?_
            refine XR.LW.skip hL rfl (Skips.on rfl rfl rfl rfl rfl hb4) rfl ?_
            refine XR.LW.skip hL rfl (Skips.on rfl rfl rfl rfl rfl hb4) rfl ?_
            refine XR.LW.skip hL rfl (Skips.on rfl rfl rfl rfl rfl hb4) rfl ?_
            refine XR.LW.rd hL rfl (Wants.free rfl) rfl (Rd.pickF rfl hb4 rfl) ?_
            exact XR.LW.sub hL (by exact ⟨rfl, rfl, rfl, rfl, rfl, rfl, rfl, rfl, rfl, rfl, trivial⟩) (K2 false w13 (by exact hB) h)
        intro b6 w15 hB h_
        have h := hJ2 b6 w15 h_; clear h_
        refine XR.LW.rd hL rfl (Wants.free rfl) rfl (Rd.move (v := .bool b6) rfl) ?_
        obtain ⟨J3, hJ3, h1_J3, h0_J3⟩ := h
        suffices K3 : ∀ (b7 : Bool) (w16 : World), Boxes w16 [(b1, [.slice l1 l1n l1c], 31), (b2, [u1], 4), (b3, [.int .i64 c6], 3), (b4, [.bool c2], 4)] → J3 b7 w16 → L 12 [(0, .pointer s1), (3, .pointer (some (⟨b1, 0, none⟩ : Addr))), (4, .pointer (some (⟨b2, 0, none⟩ : Addr))), (5, .pointer (some (⟨b3, 0, none⟩ : Addr))), (6, .pointer (some (⟨b4, 0, none⟩ : Addr))), (8, .int .u32 x2), (15, .int .i64 x1), (16, .int .u32 x2), (41, .bool b7)] w16 by
          rcases Bool.eq_false_or_eq_true b6 with hb5 | hb5
          · have h := h1_J3 hb5
            refine XR.LW.rd hL rfl (Wants.on rfl rfl rfl rfl rfl hb5) rfl (Rd.move (v := .int .i64 x1) rfl) ?_
            refine XR.LW.rd hL rfl (Wants.on rfl rfl rfl rfl rfl hb5) rfl (Rd.ld (v := .int .i64 c6) rfl (by kernel_rfl) (eqs (box_cell (hB.at (i := 2) rfl) rfl))) ?_
            refine XR.LW.rd hL rfl (Wants.on rfl rfl rfl rfl rfl hb5) rfl (Rd.bin (v := .bool (x1 == c6)) rfl rfl (fun w => by kernel_rfl)) ?_
            refine XR.LW.rd hL rfl (Wants.free rfl) rfl (Rd.pickT rfl hb5 rfl) ?_
            exact XR.LW.sub hL (by exact ⟨rfl, rfl, rfl, rfl, rfl, rfl, rfl, rfl, rfl, trivial⟩) (K3 (x1 == c6) w15 (by exact hB) h)
          · have h := h0_J3 hb5
            refine XR.LW.skip hL rfl (Skips.on rfl rfl rfl rfl rfl hb5) rfl ?_
            refine XR.LW.skip hL rfl (Skips.on rfl rfl rfl rfl rfl hb5) rfl ?_
            refine XR.LW.skip hL rfl (Skips.on rfl rfl rfl rfl rfl hb5) rfl ?_
            refine XR.LW.rd hL rfl (Wants.free rfl) rfl (Rd.pickF rfl hb5 rfl) ?_
            exact XR.LW.sub hL (by exact ⟨rfl, rfl, rfl, rfl, rfl, rfl, rfl, rfl, rfl, trivial⟩) (K3 false w15 (by exact hB) h)
        intro b7 w16 hB h_
        have h := hJ3 b7 w16 h_; clear h_
        refine XR.LW.rd hL rfl (Wants.free rfl) rfl (Rd.move (v := .bool b7) rfl) ?_
        obtain ⟨J4, hJ4, h1_J4, h0_J4⟩ := h
        suffices K4 : ∀ (b8 : Bool) (w17 : World), Boxes w17 [(b1, [.slice l1 l1n l1c], 31), (b2, [u1], 4), (b3, [.int .i64 c6], 3), (b4, [.bool c2], 4)] → J4 b8 w17 → L 24 [(0, .pointer s1), (3, .pointer (some (⟨b1, 0, none⟩ : Addr))), (4, .pointer (some (⟨b2, 0, none⟩ : Addr))), (5, .pointer (some (⟨b3, 0, none⟩ : Addr))), (6, .pointer (some (⟨b4, 0, none⟩ : Addr))), (15, .int .i64 x1), (16, .int .u32 x2), (53, .bool b8)] w17 by
          rcases Bool.eq_false_or_eq_true b7 with hb6 | hb6
          · have h := h1_J4 hb6
            refine XR.LW.rd hL rfl (Wants.on rfl rfl rfl rfl rfl hb6) rfl (Rd.ld (v := .slice l1 l1n l1c) rfl (by kernel_rfl) (eqs (box_cell (hB.at (i := 0) rfl) rfl))) ?_
            refine XR.LW.rd hL rfl (Wants.on rfl rfl rfl rfl rfl hb6) rfl (Rd.ld (v := .int .i64 c6) rfl (by kernel_rfl) (eqs (box_cell (hB.at (i := 2) rfl) rfl))) ?_
            refine XR.LW.rd hL rfl (Wants.on rfl rfl rfl rfl rfl hb6) rfl (Rd.ld (v := .slice l1 l1n l1c) rfl (by kernel_rfl) (eqs (box_cell (hB.at (i := 0) rfl) rfl))) ?_
            refine XR.LW.rd hL rfl (Wants.on rfl rfl rfl rfl rfl hb6) rfl (Rd.builtin (v := .int .i64 (l1n : Int)) rfl (fun _ _ => by kernel_rfl)) ?_
            refine XR.LW.rd hL rfl (Wants.on rfl rfl rfl rfl rfl hb6) rfl (Rd.bin (v := .int .i64 (IntKind.wrap .i64 ((l1n : Int) - 1))) rfl rfl (fun w => by kernel_rfl)) ?_
            refine XR.LW.rd hL rfl (Wants.on rfl rfl rfl rfl rfl hb6) rfl (Rd.builtin (v := .int .i64 (if (IntKind.wrap .i64 ((l1n : Int) - 1)) < c6 then (IntKind.wrap .i64 ((l1n : Int) - 1)) else c6)) rfl (fun _ _ => valB (minI _ _ _ _ _ _))) ?_
            obtain ⟨a2, he2, hi3, hi4, h⟩ := h
            refine XR.LW.rd hL rfl (Wants.on rfl rfl rfl rfl rfl hb6) rfl (Rd.iaS (q := a2) (sz := 1) (by rw [← he2]; rfl) rfl Try.underlying31 (by kernel_rfl) hi3 hi4) ?_
            obtain ⟨t3, hc2, h⟩ := h
            refine XR.LW.rd hL rfl (Wants.on rfl rfl rfl rfl rfl hb6) rfl (Rd.ld (v := .int .u32 t3) rfl (by kernel_rfl) (eqs hc2)) ?_
            refine XR.LW.rd hL rfl (Wants.on rfl rfl rfl rfl rfl hb6) rfl (Rd.move (v := .int .u32 x2) rfl) ?_
            refine XR.LW.rd hL rfl (Wants.on rfl rfl rfl rfl rfl hb6) rfl (Rd.bin (v := .bool (t3 == x2)) rfl rfl (fun w => by kernel_rfl)) ?_
            refine XR.LW.rd hL rfl (Wants.free rfl) rfl (Rd.pickT rfl hb6 rfl) ?_
            exact XR.LW.sub hL (by exact ⟨rfl, rfl, rfl, rfl, rfl, rfl, rfl, rfl, trivial⟩) (K4 (t3 == x2) w16 (by exact hB) h)
          · have h := h0_J4 hb6
            refine XR.LW.skip hL rfl (Skips.on rfl rfl rfl rfl rfl hb6) rfl ?_
            refine XR.LW.skip hL rfl (Skips.on rfl rfl rfl rfl rfl hb6) rfl ?_
            refine XR.LW.skip hL rfl (Skips.on rfl rfl rfl rfl rfl hb6) rfl ?_
            refine XR.LW.skip hL rfl (Skips.on rfl rfl rfl rfl rfl hb6) rfl ?_
            refine XR.LW.skip hL rfl (Skips.on rfl rfl rfl rfl rfl hb6) rfl ?_
            refine XR.LW.skip hL rfl (Skips.on rfl rfl rfl rfl rfl hb6) rfl ?_
            refine XR.LW.skip hL rfl (Skips.on rfl rfl rfl rfl rfl hb6) rfl ?_
            refine XR.LW.skip hL rfl (Skips.on rfl rfl rfl rfl rfl hb6) rfl ?_
            refine XR.LW.skip hL rfl (Skips.on rfl rfl rfl rfl rfl hb6) rfl ?_
            refine XR.LW.skip hL rfl (Skips.on rfl rfl rfl rfl rfl hb6) rfl ?_
            refine XR.LW.rd hL rfl (Wants.free rfl) rfl (Rd.pickF rfl hb6 rfl) ?_
            exact XR.LW.sub hL (by exact ⟨rfl, rfl, rfl, rfl, rfl, rfl, rfl, rfl, trivial⟩) (K4 false w16 (by exact hB) h)
        intro b8 w17 hB h_
        have h := hJ4 b8 w17 h_; clear h_
        obtain ⟨w18, hw_w18⟩ : ∃ x, x = World.setCell w17 (⟨b4, 0, none⟩ : Addr) (.bool b8) := ⟨_, rfl⟩
        refine XR.LW.eff hL rfl (Wants.free rfl) rfl (stE hw_w18 (Ef.st rfl rfl rfl (by kernel_rfl) (box_cell (v := .bool c2) (hB.at (i := 3) rfl) rfl) (free_of (hB.at (i := 3) rfl) 0))) ?_
        replace hB : Boxes w18 [(b1, [.slice l1 l1n l1c], 31), (b2, [u1], 4), (b3, [.int .i64 c6], 3), (b4, [.bool b8], 4)] := Boxes.store1  (i := 3) (o := 0) hB rfl rfl rfl rfl hw_w18
        have hc_w18 : Chg [b4] w17 w18 := sil_more (Chg.refl [] w17) (sil_c1 hw_w18)
        refine XR.LW.nil hL rfl ?_
        refine XR.NW.then ?_
        refine XR.CW.seq ?_
        refine XR.CW.region fun L hL => ?_
        refine XR.LW.rd hL rfl (Wants.free rfl) rfl (Rd.ld (v := .int .i64 c6) rfl (by kernel_rfl) (eqs (box_cell (hB.at (i := 2) rfl) rfl))) ?_
        refine XR.LW.rd hL rfl (Wants.free rfl) rfl (Rd.bin (v := .int .i64 (IntKind.wrap .i64 (c6 + 1))) rfl rfl (fun w => by kernel_rfl)) ?_
        obtain ⟨w19, hw_w19⟩ : ∃ x, x = World.setCell w18 (⟨b3, 0, none⟩ : Addr) (.int .i64 (IntKind.wrap .i64 (c6 + 1))) := ⟨_, rfl⟩
        refine XR.LW.eff hL rfl (Wants.free rfl) rfl (stE hw_w19 (Ef.st rfl rfl rfl (by kernel_rfl) (box_cell (v := .int .i64 c6) (hB.at (i := 2) rfl) rfl) (free_of (hB.at (i := 2) rfl) 0))) ?_
        replace hB : Boxes w19 [(b1, [.slice l1 l1n l1c], 31), (b2, [u1], 4), (b3, [.int .i64 (IntKind.wrap .i64 (c6 + 1))], 3), (b4, [.bool b8], 4)] := Boxes.store1  (i := 2) (o := 0) hB rfl rfl rfl rfl hw_w19
        have hc_w19 : Chg [b4, b3] w17 w19 := sil_more hc_w18 (sil_c1 hw_w19)
        refine XR.LW.nil hL rfl ?_
        refine XR.NW.then ?_
        refine XR.CW.seq ?_
        refine XR.CW.region fun L hL => ?_
        refine XR.LW.rd hL rfl (Wants.free rfl) rfl (Rd.ld (v := .int .i64 (IntKind.wrap .i64 (c6 + 1))) rfl (by kernel_rfl) (eqs (box_cell (hB.at (i := 2) rfl) rfl))) ?_
        refine XR.LW.rd hL rfl (Wants.free rfl) rfl (Rd.ld (v := .slice l1 l1n l1c) rfl (by kernel_rfl) (eqs (box_cell (hB.at (i := 0) rfl) rfl))) ?_
        refine XR.LW.rd hL rfl (Wants.free rfl) rfl (Rd.builtin (v := .int .i64 (l1n : Int)) rfl (fun _ _ => by kernel_rfl)) ?_
        refine XR.LW.rd hL rfl (Wants.free rfl) rfl (Rd.bin (v := .bool (decide ((IntKind.wrap .i64 (c6 + 1)) > (l1n : Int)))) rfl rfl (fun w => by kernel_rfl)) ?_
        refine XR.LW.nil hL rfl ?_
        refine XR.NW.then ?_
        replace h := h  w19  hc_w19
        refine XR.CW.cond rfl (fun hb7 => ?_) (fun hb7 => ?_)
        · replace h := h.1 hb7
          refine XR.CW.seq ?_
          refine XR.CW.region fun L hL => ?_
          obtain ⟨w20, hw_w20⟩ : ∃ x, x = World.setCell w19 (⟨b2, 0, none⟩ : Addr) (.bool false) := ⟨_, rfl⟩
          refine XR.LW.eff hL rfl (Wants.free rfl) rfl (stE hw_w20 (Ef.st rfl rfl rfl (by kernel_rfl) (box_cell (v := u1) (hB.at (i := 1) rfl) rfl) (free_of (hB.at (i := 1) rfl) 0))) ?_
          replace hB : Boxes w20 [(b1, [.slice l1 l1n l1c], 31), (b2, [.bool false], 4), (b3, [.int .i64 (IntKind.wrap .i64 (c6 + 1))], 3), (b4, [.bool b8], 4)] := Boxes.store1  (i := 1) (o := 0) hB rfl rfl rfl rfl hw_w20
          have hc_w20 : Chg [b2] w19 w20 := sil_more (Chg.refl [] w19) (sil_c1 hw_w20)
          refine XR.LW.nil hL rfl ?_
          refine XR.NW.then ?_
          refine XR.CW.ret ?_
          refine RW.block ?_
          replace h := h  w20  hc_w20
          exact fun a_ ha_ => ⟨h.1, (⟨rfl, false, IntKind.wrap .i64 (c6 + 1), b8, h.2.1, hB⟩), h.2.2⟩
        · replace h := h.2 hb7
          refine XR.CW.skip ?_
          refine NW.block ?_
          exact fun a_ ha_ => ⟨h.1, ⟨IntKind.wrap .i64 (c6 + 1), b8, h.2.1, u1, hB⟩, h.2.2⟩
    · intro d1 O2 xs1 w21 hO_ hd_ hdh_ hS_ hi_
      obtain ⟨c1, c2, hi_, u1, hB⟩ := hi_
      have h := hdn_ d1 O2 xs1 c1 c2 w21 hO_ hd_ hS_ hi_
      have hK := XR.Marks.cons (XR.Marks.nil _) hdh_ (by simp)
      refine NW.block ?_
      refine NW.then ?_
      refine CW.seq ?_
      refine CW.block ?_
      obtain ⟨I3, m2, hI3, h⟩ := h
      refine CW.loop (S := Int) (fun c7 => [(0, .pointer s1), (3, .pointer (some (⟨b1, 0, none⟩ : Addr))), (4, .pointer (some (⟨b2, 0, none⟩ : Addr))), (5, .pointer (some (⟨b3, 0, none⟩ : Addr))), (6, .pointer (some (⟨b4, 0, none⟩ : Addr)))]) (fun c7 w22 => I3 c7 w22 ∧ XR.Marks w22 [d1] ∧ Boxes w22 [(b1, [.slice l1 l1n l1c], 31), (b2, [u1], 4), (b3, [.int .i64 c7], 3), (b4, [.bool c2], 4)]) (fun c7 w22 => m2 c7 w22) c1 (by exact ⟨rfl, rfl, rfl, rfl, rfl, trivial⟩) ⟨hI3, hK, hB⟩ (fun c7 w22 hI3 => ?_)
      obtain ⟨hI3, hK, hB⟩ := hI3
      replace h := h c7 w22 hI3
      refine CW.seq ?_
      refine CW.seq ?_
      refine CW.region fun L hL => ?_
      refine LW.rd hL rfl (Wants.free rfl) rfl (Rd.ld (v := .int .i64 c7) rfl (by kernel_rfl) (eqs (box_cell (hB.at (i := 2) rfl) rfl))) ?_
      refine LW.rd hL rfl (Wants.free rfl) rfl (Rd.ld (v := .slice l1 l1n l1c) rfl (by kernel_rfl) (eqs (box_cell (hB.at (i := 0) rfl) rfl))) ?_
      refine LW.rd hL rfl (Wants.free rfl) rfl (Rd.builtin (v := .int .i64 (l1n : Int)) rfl (fun _ _ => by kernel_rfl)) ?_
      refine LW.rd hL rfl (Wants.free rfl) rfl (Rd.bin (v := .bool (decide (c7 < (l1n : Int)))) rfl rfl (fun w => by kernel_rfl)) ?_
      refine LW.rd hL rfl (Wants.free rfl) rfl (Rd.move (v := .bool (decide (c7 < (l1n : Int)))) rfl) ?_
      obtain ⟨J5, hJ5, h1_J5, h0_J5⟩ := h
      suffices K5 : ∀ (b9 : Bool) (w23 : World), XR.Marks w23 [d1] → Boxes w23 [(b1, [.slice l1 l1n l1c], 31), (b2, [u1], 4), (b3, [.int .i64 c7], 3), (b4, [.bool c2], 4)] → J5 b9 w23 → L 11 [(0, .pointer s1), (3, .pointer (some (⟨b1, 0, none⟩ : Addr))), (4, .pointer (some (⟨b2, 0, none⟩ : Addr))), (5, .pointer (some (⟨b3, 0, none⟩ : Addr))), (6, .pointer (some (⟨b4, 0, none⟩ : Addr))), (70, .bool b9)] w23 by
        rcases Bool.eq_false_or_eq_true (decide (c7 < (l1n : Int))) with hb8 | hb8
        · have h := h1_J5 hb8
          refine LW.rd hL rfl (Wants.on rfl rfl rfl rfl rfl hb8) rfl (Rd.ld (v := .slice l1 l1n l1c) rfl (by kernel_rfl) (eqs (box_cell (hB.at (i := 0) rfl) rfl))) ?_
          refine LW.rd hL rfl (Wants.on rfl rfl rfl rfl rfl hb8) rfl (Rd.ld (v := .int .i64 c7) rfl (by kernel_rfl) (eqs (box_cell (hB.at (i := 2) rfl) rfl))) ?_
          obtain ⟨a3, he3, hi5, hi6, h⟩ := h
          refine LW.rd hL rfl (Wants.on rfl rfl rfl rfl rfl hb8) rfl (Rd.iaS (q := a3) (sz := 1) (by rw [← he3]; rfl) rfl Try.underlying31 (by kernel_rfl) hi5 hi6) ?_
          obtain ⟨t4, hc3, h⟩ := h
          refine LW.rd hL rfl (Wants.on rfl rfl rfl rfl rfl hb8) rfl (Rd.ld (v := .int .u32 t4) rfl (by kernel_rfl) (eqs hc3)) ?_
          refine LW.rd hL rfl (Wants.on rfl rfl rfl rfl rfl hb8) rfl (Rd.bin (v := .bool (t4 == 0)) rfl rfl (fun w => by kernel_rfl)) ?_
          refine LW.rd hL rfl (Wants.free rfl) rfl (Rd.pickT rfl hb8 rfl) ?_
          exact LW.sub hL (by exact ⟨rfl, rfl, rfl, rfl, rfl, rfl, trivial⟩) (K5 (t4 == 0) w22 hK (by exact hB) h)
        · have h := h0_J5 hb8
          refine LW.skip hL rfl (Skips.on rfl rfl rfl rfl rfl hb8) rfl ?_
          refine LW.skip hL rfl (Skips.on rfl rfl rfl rfl rfl hb8) rfl ?_
          refine LW.skip hL rfl (Skips.on rfl rfl rfl rfl rfl hb8) rfl ?_
          refine LW.skip hL rfl (Skips.on rfl rfl rfl rfl rfl hb8) rfl ?_
          refine LW.skip hL rfl (Skips.on rfl rfl rfl rfl rfl hb8) rfl ?_
          refine LW.rd hL rfl (Wants.free rfl) rfl (Rd.pickF rfl hb8 rfl) ?_
          exact LW.sub hL (by exact ⟨rfl, rfl, rfl, rfl, rfl, rfl, trivial⟩) (K5 false w22 hK (by exact hB) h)
      intro b9 w23 hK hB h_
      have h := hJ5 b9 w23 h_; clear h_
      refine LW.nil hL rfl ?_
      refine NW.then ?_
      refine CW.cond rfl (fun hb9 => ?_) (fun hb9 => ?_)
      · replace h := h.1 hb9
        refine CW.skip ?_
        refine NW.then ?_
        refine CW.block ?_
        refine CW.region fun L hL => ?_
        refine LW.rd hL rfl (Wants.free rfl) rfl (Rd.ld (v := .int .i64 c7) rfl (by kernel_rfl) (eqs (box_cell (hB.at (i := 2) rfl) rfl))) ?_
        refine LW.rd hL rfl (Wants.free rfl) rfl (Rd.bin (v := .int .i64 (IntKind.wrap .i64 (c7 + 1))) rfl rfl (fun w => by kernel_rfl)) ?_
        obtain ⟨w24, hw_w24⟩ : ∃ x, x = World.setCell w23 (⟨b3, 0, none⟩ : Addr) (.int .i64 (IntKind.wrap .i64 (c7 + 1))) := ⟨_, rfl⟩
        refine LW.eff hL rfl (Wants.free rfl) rfl (stE hw_w24 (Ef.st rfl rfl rfl (by kernel_rfl) (box_cell (v := .int .i64 c7) (hB.at (i := 2) rfl) rfl) (free_of (hB.at (i := 2) rfl) 0))) ?_
        replace hK := XR.Marks.set hK (hB.at (i := 2) rfl) (sil_c1 hw_w24)
        replace hB : Boxes w24 [(b1, [.slice l1 l1n l1c], 31), (b2, [u1], 4), (b3, [.int .i64 (IntKind.wrap .i64 (c7 + 1))], 3), (b4, [.bool c2], 4)] := Boxes.store1  (i := 2) (o := 0) hB rfl rfl rfl rfl hw_w24
        have hc_w24 : Chg [b3] w23 w24 := sil_more (Chg.refl [] w23) (sil_c1 hw_w24)
        refine LW.nil hL rfl ?_
        refine NW.block ?_
        replace h := h  w24  hc_w24
        exact NW.loop (S := Int) (Ek := fun c7 => [(0, .pointer s1), (3, .pointer (some (⟨b1, 0, none⟩ : Addr))), (4, .pointer (some (⟨b2, 0, none⟩ : Addr))), (5, .pointer (some (⟨b3, 0, none⟩ : Addr))), (6, .pointer (some (⟨b4, 0, none⟩ : Addr)))]) (IntKind.wrap .i64 (c7 + 1)) (by exact ⟨rfl, rfl, rfl, rfl, rfl, trivial⟩) ⟨⟨h.1, hK, hB⟩, h.2⟩
      · replace h := h.2 hb9
        refine CW.exit ?_
        refine XW.then ?_
        refine XW.then ?_
        refine XW.hit ?_
        refine NW.then ?_
        refine CW.seq ?_
        refine CW.seq ?_
        refine CW.region fun L hL => ?_
        refine LW.rd hL rfl (Wants.free rfl) rfl (Rd.assign (v := .int .i64 (-1)) rfl) ?_
        refine LW.nil hL rfl ?_
        refine NW.then ?_
        refine CW.block ?_
        obtain ⟨I4, m3, hI4, h⟩ := h
        refine CW.loop (S := Int × Bool) (fun s4 => [(0, .pointer s1), (3, .pointer (some (⟨b1, 0, none⟩ : Addr))), (4, .pointer (some (⟨b2, 0, none⟩ : Addr))), (5, .pointer (some (⟨b3, 0, none⟩ : Addr))), (6, .pointer (some (⟨b4, 0, none⟩ : Addr))), (9, .int .i64 s4.1)]) (fun s4 w25 => I4 s4.1 s4.2 w25 ∧ XR.Marks w25 [d1] ∧ Boxes w25 [(b1, [.slice l1 l1n l1c], 31), (b2, [u1], 4), (b3, [.int .i64 c7], 3), (b4, [.bool s4.2], 4)]) (fun s4 w25 => m3 s4.1 s4.2 w25) ((-1), c2) (by exact ⟨rfl, rfl, rfl, rfl, rfl, rfl, trivial⟩) ⟨hI4, hK, hB⟩ (fun s4 w25 hI4 => ?_)
        obtain ⟨hI4, hK, hB⟩ := hI4
        obtain ⟨p1, c8⟩ := s4; replace h := h p1 c8 w25 hI4
        refine CW.seq ?_
        refine CW.seq ?_
        refine CW.region fun L hL => ?_
        refine LW.rd hL rfl (Wants.free rfl) rfl (Rd.move (v := .int .i64 p1) rfl) ?_
        refine LW.rd hL rfl (Wants.free rfl) rfl (Rd.ld (v := .slice l1 l1n l1c) rfl (by kernel_rfl) (eqs (box_cell (hB.at (i := 0) rfl) rfl))) ?_
        refine LW.rd hL rfl (Wants.free rfl) rfl (Rd.builtin (v := .int .i64 (l1n : Int)) rfl (fun _ _ => by kernel_rfl)) ?_
        refine LW.rd hL rfl (Wants.free rfl) rfl (Rd.bin (v := .int .i64 (IntKind.wrap .i64 (Int.tdiv (l1n : Int) 64))) rfl rfl (fun w => by kernel_rfl)) ?_
        refine LW.rd hL rfl (Wants.free rfl) rfl (Rd.bin (v := .bool (decide (p1 ≤ (IntKind.wrap .i64 (Int.tdiv (l1n : Int) 64))))) rfl rfl (fun w => by kernel_rfl)) ?_
        refine LW.nil hL rfl ?_
        refine NW.then ?_
        refine CW.cond rfl (fun hb10 => ?_) (fun hb10 => ?_)
        · replace h := h.1 hb10
          refine CW.skip ?_
          refine NW.then ?_
          refine CW.seq ?_
          refine CW.block ?_
          obtain ⟨w26, hw_w26⟩ : ∃ x, x = World.drew w25 := ⟨_, rfl⟩
          have hc_w26 := sil_drew (Chg.refl [] w25) hw_w26
          replace hB := hB.drew hw_w26
          replace hK := XR.Marks.drew hK hw_w26
          refine CW.drawn (fun w => Boxes w [(b4, [.bool c8], 4), (b1, [.slice l1 l1n l1c], 31)]) 10 (by kernel_rfl) fun H hH => ?_
          rw [← hw_w26]
          have hS1 : Boxes w26 [(b4, [.bool c8], 4), (b1, [.slice l1 l1n l1c], 31)] := (hB.sel [3, 0] (by decide) rfl)
          refine HW.take (i := 0) hH rfl (by kernel_rfl) (by kernel_rfl) (Wants.free rfl) rfl (fun _ => hS1) (Rd.ld (v := .bool c8) rfl (by kernel_rfl) (fun w h => box_cell (Boxes.at (i := 0) h rfl) rfl)) ?_
          refine HW.pure (i := 1) hH rfl (by kernel_rfl) (Wants.free rfl) rfl (fun _ => hS1) (Rd.move (v := .bool c8) rfl) ?_
          replace h := h  w26  hc_w26
          obtain ⟨J6, hJ6, h1_J6, h0_J6⟩ := h
          suffices K6 : ∀ (b10 : Bool) (w27 : World), (Boxes w27 [(b4, [.bool c8], 4), (b1, [.slice l1 l1n l1c], 31)]) → XR.Marks w27 [d1] → Boxes w27 [(b1, [.slice l1 l1n l1c], 31), (b2, [u1], 4), (b3, [.int .i64 c7], 3), (b4, [.bool c8], 4)] → J6 b10 w27 → H 1 #[true, true, true, true, true, true, true, true, true, true, false] [(0, .pointer s1), (3, .pointer (some (⟨b1, 0, none⟩ : Addr))), (4, .pointer (some (⟨b2, 0, none⟩ : Addr))), (5, .pointer (some (⟨b3, 0, none⟩ : Addr))), (6, .pointer (some (⟨b4, 0, none⟩ : Addr))), (9, .int .i64 p1), (89, .bool b10)] w27 by
            rcases Bool.eq_false_or_eq_true c8 with hb11 | hb11
            · have h := h1_J6 hb11
              refine HW.pure (i := 2) hH rfl (by kernel_rfl) (Wants.on rfl rfl rfl rfl rfl hb11) rfl (fun _ => hS1) (Rd.move (v := .pointer s1) rfl) ?_
              refine HW.pure (i := 3) hH rfl (by kernel_rfl) (Wants.on rfl rfl rfl rfl rfl hb11) rfl (fun _ => hS1) (Rd.move (v := .int .i64 p1) rfl) ?_
              refine HW.take (i := 5) hH rfl (by kernel_rfl) (by kernel_rfl) (Wants.on rfl rfl rfl rfl rfl hb11) rfl (fun _ => hS1) (Rd.ld (v := .slice l1 l1n l1c) rfl (by kernel_rfl) (fun w h => box_cell (Boxes.at (i := 1) h rfl) rfl)) ?_
              refine HW.pure (i := 6) hH rfl (by kernel_rfl) (Wants.on rfl rfl rfl rfl rfl hb11) rfl (fun _ => hS1) (Rd.move (v := .int .i64 p1) rfl) ?_
              refine HW.call (i := 4) hH (by kernel_rfl) rfl (Wants.on rfl rfl rfl rfl rfl hb11) rfl (Cl.fn (f := 56) rfl Try.func56 (by kernel_rfl) rfl) h (fun e w28 h_ => ?_)
              clear h
              obtain ⟨r4, rfl, h⟩ := h_
              obtain ⟨hsm3, h⟩ := h
              replace hB := Boxes.sameS hB hsm3 (by simp)
              replace hK := XR.Marks.same hK hsm3 (by simp)
              have hS2 : Boxes w28 [(b4, [.bool c8], 4), (b1, [.slice l1 l1n l1c], 31)] := (hB.sel [3, 0] (by decide) rfl)
              refine ⟨_, rfl, (fun _ => hS2), ?_⟩
              refine HW.call (i := 7) hH (by kernel_rfl) rfl (Wants.on rfl rfl rfl rfl rfl hb11) rfl (Cl.fn (f := 84) rfl Try.func84 (by kernel_rfl) rfl) h (fun e w29 h_ => ?_)
              clear h
              obtain ⟨r5, rfl, h⟩ := h_
              obtain ⟨hsm4, h⟩ := h
              replace hB := Boxes.sameS hB hsm4 (by simp)
              replace hK := XR.Marks.same hK hsm4 (by simp)
              have hS3 : Boxes w29 [(b4, [.bool c8], 4), (b1, [.slice l1 l1n l1c], 31)] := (hB.sel [3, 0] (by decide) rfl)
              refine ⟨_, rfl, (fun _ => hS3), ?_⟩
              refine HW.pure (i := 8) hH rfl (by kernel_rfl) (Wants.on rfl rfl rfl rfl rfl hb11) rfl (fun _ => hS3) (Rd.bin (v := .bool (r4 == r5)) rfl rfl (fun w => by kernel_rfl)) ?_
              refine HW.pure (i := 9) hH rfl (by kernel_rfl) (Wants.free rfl) rfl (fun _ => hS3) (Rd.pickT rfl hb11 rfl) ?_
              exact HW.sub hH (by exact ⟨rfl, rfl, rfl, rfl, rfl, rfl, rfl, trivial⟩) (K6 (r4 == r5) w29 hS3 hK (by exact hB) h)
            · have h := h0_J6 hb11
              refine HW.skip (i := 2) hH rfl (by kernel_rfl) (Skips.on rfl rfl rfl rfl rfl hb11) rfl (fun _ => hS1) ?_
              refine HW.skip (i := 3) hH rfl (by kernel_rfl) (Skips.on rfl rfl rfl rfl rfl hb11) rfl (fun _ => hS1) ?_
              refine HW.skip (i := 4) hH rfl (by kernel_rfl) (Skips.on rfl rfl rfl rfl rfl hb11) rfl (fun _ => hS1) ?_
              refine HW.skip (i := 5) hH rfl (by kernel_rfl) (Skips.on rfl rfl rfl rfl rfl hb11) rfl (fun _ => hS1) ?_
              refine HW.skip (i := 6) hH rfl (by kernel_rfl) (Skips.on rfl rfl rfl rfl rfl hb11) rfl (fun _ => hS1) ?_
              refine HW.skip (i := 7) hH rfl (by kernel_rfl) (Skips.on rfl rfl rfl rfl rfl hb11) rfl (fun _ => hS1) ?_
              refine HW.skip (i := 8) hH rfl (by kernel_rfl) (Skips.on rfl rfl rfl rfl rfl hb11) rfl (fun _ => hS1) ?_
              refine HW.pure (i := 9) hH rfl (by kernel_rfl) (Wants.free rfl) rfl (fun _ => hS1) (Rd.pickF rfl hb11 rfl) ?_
              exact HW.sub hH (by exact ⟨rfl, rfl, rfl, rfl, rfl, rfl, rfl, trivial⟩) (K6 false w26 hS1 hK (by exact hB) h)
          intro b10 w27 hS4 hK hB h_
          have h := hJ6 b10 w27 h_; clear h_
          obtain ⟨w30, hw_w30⟩ : ∃ x, x = World.setCell w27 (⟨b4, 0, none⟩ : Addr) (.bool b10) := ⟨_, rfl⟩
          refine HW.eff (i := 10) hH (by kernel_rfl) rfl (Wants.free rfl) rfl (stE hw_w30 (Ef.st rfl rfl rfl (by kernel_rfl) (box_cell (v := .bool c8) (hB.at (i := 3) rfl) rfl) (free_of (hB.at (i := 3) rfl) 0))) (fun hc => by cases hc) ?_
          replace hK := XR.Marks.set hK (hB.at (i := 3) rfl) (sil_c1 hw_w30)
          replace hB : Boxes w30 [(b1, [.slice l1 l1n l1c], 31), (b2, [u1], 4), (b3, [.int .i64 c7], 3), (b4, [.bool b10], 4)] := Boxes.store1  (i := 3) (o := 0) hB rfl rfl rfl rfl hw_w30
          have hc_w30 : Chg [b4] w27 w30 := sil_more (Chg.refl [] w27) (sil_c1 hw_w30)
          refine HW.done hH (by kernel_rfl) ?_
          refine NW.block ?_
          refine NW.then ?_
          refine CW.region fun L hL => ?_
          refine LW.rd hL rfl (Wants.free rfl) rfl (Rd.move (v := .int .i64 p1) rfl) ?_
          refine LW.rd hL rfl (Wants.free rfl) rfl (Rd.bin (v := .int .i64 (IntKind.wrap .i64 (p1 + 1))) rfl rfl (fun w => by kernel_rfl)) ?_
          refine LW.rd hL rfl (Wants.free rfl) rfl (Rd.assign (v := .int .i64 (IntKind.wrap .i64 (p1 + 1))) rfl) ?_
          refine LW.nil hL rfl ?_
          replace h := h  w30  hc_w30
          exact NW.loop (S := Int × Bool) (Ek := fun s4 => [(0, .pointer s1), (3, .pointer (some (⟨b1, 0, none⟩ : Addr))), (4, .pointer (some (⟨b2, 0, none⟩ : Addr))), (5, .pointer (some (⟨b3, 0, none⟩ : Addr))), (6, .pointer (some (⟨b4, 0, none⟩ : Addr))), (9, .int .i64 s4.1)]) (IntKind.wrap .i64 (p1 + 1), b10) (by exact ⟨rfl, rfl, rfl, rfl, rfl, rfl, trivial⟩) ⟨⟨h.1, hK, hB⟩, h.2⟩
        · replace h := h.2 hb10
          refine CW.exit ?_
          refine XW.then ?_
          refine XW.then ?_
          refine XW.hit ?_
          refine NW.then ?_
          refine CW.seq ?_
          obtain ⟨w31, hw_w31⟩ : ∃ x, x = World.drew w25 := ⟨_, rfl⟩
          have hc_w31 := sil_drew (Chg.refl [] w25) hw_w31
          replace hB := hB.drew hw_w31
          replace hK := XR.Marks.drew hK hw_w31
          refine CW.drawn (fun w => Boxes w [(b4, [.bool c8], 4), (b3, [.int .i64 c7], 3), (b1, [.slice l1 l1n l1c], 31)]) 21 (by kernel_rfl) fun H hH => ?_
          rw [← hw_w31]
          have hS5 : Boxes w31 [(b4, [.bool c8], 4), (b3, [.int .i64 c7], 3), (b1, [.slice l1 l1n l1c], 31)] := (hB.sel [3, 2, 0] (by decide) rfl)
          refine HW.take (i := 0) hH rfl (by kernel_rfl) (by kernel_rfl) (Wants.free rfl) rfl (fun _ => hS5) (Rd.ld (v := .bool c8) rfl (by kernel_rfl) (fun w h => box_cell (Boxes.at (i := 0) h rfl) rfl)) ?_
          refine HW.pure (i := 1) hH rfl (by kernel_rfl) (Wants.free rfl) rfl (fun _ => hS5) (Rd.move (v := .bool c8) rfl) ?_
          replace h := h  w31  hc_w31
          obtain ⟨J7, hJ7, h1_J7, h0_J7⟩ := h
          suffices K7 : ∀ (b11 : Bool) (w32 : World), (Boxes w32 [(b4, [.bool c8], 4), (b3, [.int .i64 c7], 3), (b1, [.slice l1 l1n l1c], 31)]) → XR.Marks w32 [d1] → Boxes w32 [(b1, [.slice l1 l1n l1c], 31), (b2, [u1], 4), (b3, [.int .i64 c7], 3), (b4, [.bool c8], 4)] → J7 b11 w32 → H 15 #[true, true, true, true, true, true, true, false, false, false, false, false, false, false, false, false, false, false, false, false, false, false] [(0, .pointer s1), (3, .pointer (some (⟨b1, 0, none⟩ : Addr))), (4, .pointer (some (⟨b2, 0, none⟩ : Addr))), (96, .bool b11)] w32 by
            rcases Bool.eq_false_or_eq_true c8 with hb12 | hb12
            · have h := h1_J7 hb12
              refine HW.take (i := 2) hH rfl (by kernel_rfl) (by kernel_rfl) (Wants.on rfl rfl rfl rfl rfl hb12) rfl (fun _ => hS5) (Rd.ld (v := .int .i64 c7) rfl (by kernel_rfl) (fun w h => box_cell (Boxes.at (i := 1) h rfl) rfl)) ?_
              refine HW.take (i := 3) hH rfl (by kernel_rfl) (by kernel_rfl) (Wants.on rfl rfl rfl rfl rfl hb12) rfl (fun _ => hS5) (Rd.ld (v := .slice l1 l1n l1c) rfl (by kernel_rfl) (fun w h => box_cell (Boxes.at (i := 2) h rfl) rfl)) ?_
              refine HW.pure (i := 4) hH rfl (by kernel_rfl) (Wants.on rfl rfl rfl rfl rfl hb12) rfl (fun _ => hS5) (Rd.builtin (v := .int .i64 (l1n : Int)) rfl (fun _ _ => by kernel_rfl)) ?_
              refine HW.pure (i := 5) hH rfl (by kernel_rfl) (Wants.on rfl rfl rfl rfl rfl hb12) rfl (fun _ => hS5) (Rd.bin (v := .bool (c7 == (l1n : Int))) rfl rfl (fun w => by kernel_rfl)) ?_
              refine HW.pure (i := 6) hH rfl (by kernel_rfl) (Wants.free rfl) rfl (fun _ => hS5) (Rd.pickT rfl hb12 rfl) ?_
              exact HW.sub hH (by exact ⟨rfl, rfl, rfl, rfl, trivial⟩) (K7 (c7 == (l1n : Int)) w31 hS5 hK (by exact hB) h)
            · have h := h0_J7 hb12
              refine HW.skip (i := 2) hH rfl (by kernel_rfl) (Skips.on rfl rfl rfl rfl rfl hb12) rfl (fun _ => hS5) ?_
              refine HW.skip (i := 3) hH rfl (by kernel_rfl) (Skips.on rfl rfl rfl rfl rfl hb12) rfl (fun _ => hS5) ?_
              refine HW.skip (i := 4) hH rfl (by kernel_rfl) (Skips.on rfl rfl rfl rfl rfl hb12) rfl (fun _ => hS5) ?_
              refine HW.skip (i := 5) hH rfl (by kernel_rfl) (Skips.on rfl rfl rfl rfl rfl hb12) rfl (fun _ => hS5) ?_
              refine HW.pure (i := 6) hH rfl (by kernel_rfl) (Wants.free rfl) rfl (fun _ => hS5) (Rd.pickF rfl hb12 rfl) ?_
              exact HW.sub hH (by exact ⟨rfl, rfl, rfl, rfl, trivial⟩) (K7 false w31 hS5 hK (by exact hB) h)
          intro b11 w32 hS6 hK hB h_
          have h := hJ7 b11 w32 h_; clear h_
          refine HW.pure (i := 7) hH rfl (by kernel_rfl) (Wants.free rfl) rfl (fun _ => hS6) (Rd.move (v := .bool b11) rfl) ?_
          obtain ⟨J8, hJ8, h1_J8, h0_J8⟩ := h
          suffices K8 : ∀ (b12 : Bool) (w33 : World), (Boxes w33 [(b4, [.bool c8], 4), (b3, [.int .i64 c7], 3), (b1, [.slice l1 l1n l1c], 31)]) → XR.Marks w33 [d1] → Boxes w33 [(b1, [.slice l1 l1n l1c], 31), (b2, [u1], 4), (b3, [.int .i64 c7], 3), (b4, [.bool c8], 4)] → J8 b12 w33 → H 8 #[true, true, true, true, true, true, true, true, true, true, true, true, true, true, false, false, false, false, false, false, false, false] [(0, .pointer s1), (3, .pointer (some (⟨b1, 0, none⟩ : Addr))), (4, .pointer (some (⟨b2, 0, none⟩ : Addr))), (103, .bool b12)] w33 by
            rcases Bool.eq_false_or_eq_true b11 with hb13 | hb13
            · have h := h1_J8 hb13
              refine HW.pure (i := 8) hH rfl (by kernel_rfl) (Wants.on rfl rfl rfl rfl rfl hb13) rfl (fun _ => hS6) (Rd.move (v := .pointer s1) rfl) ?_
              refine HW.take (i := 10) hH rfl (by kernel_rfl) (by kernel_rfl) (Wants.on rfl rfl rfl rfl rfl hb13) rfl (fun _ => hS6) (Rd.ld (v := .slice l1 l1n l1c) rfl (by kernel_rfl) (fun w h => box_cell (Boxes.at (i := 2) h rfl) rfl)) ?_
              refine HW.call (i := 9) hH (by kernel_rfl) rfl (Wants.on rfl rfl rfl rfl rfl hb13) rfl (Cl.fn (f := 55) rfl Try.func55 (by kernel_rfl) rfl) h (fun e w34 h_ => ?_)
              clear h
              obtain ⟨r6, rfl, h⟩ := h_
              obtain ⟨hsm5, h⟩ := h
              replace hB := Boxes.sameS hB hsm5 (by simp)
              replace hK := XR.Marks.same hK hsm5 (by simp)
              have hS7 : Boxes w34 [(b4, [.bool c8], 4), (b3, [.int .i64 c7], 3), (b1, [.slice l1 l1n l1c], 31)] := (hB.sel [3, 2, 0] (by decide) rfl)
              refine ⟨_, rfl, (fun _ => hS7), ?_⟩
              refine HW.call (i := 11) hH (by kernel_rfl) rfl (Wants.on rfl rfl rfl rfl rfl hb13) rfl (Cl.fn (f := 61) rfl Try.func61 (by kernel_rfl) rfl) h (fun e w35 h_ => ?_)
              clear h
              obtain ⟨r7, rfl, h⟩ := h_
              obtain ⟨hsm6, h⟩ := h
              replace hB := Boxes.sameS hB hsm6 (by simp)
              replace hK := XR.Marks.same hK hsm6 (by simp)
              have hS8 : Boxes w35 [(b4, [.bool c8], 4), (b3, [.int .i64 c7], 3), (b1, [.slice l1 l1n l1c], 31)] := (hB.sel [3, 2, 0] (by decide) rfl)
              refine ⟨_, rfl, (fun _ => hS8), ?_⟩
              refine HW.pure (i := 12) hH rfl (by kernel_rfl) (Wants.on rfl rfl rfl rfl rfl hb13) rfl (fun _ => hS8) (Rd.bin (v := .bool (r6 == r7)) rfl rfl (fun w => by kernel_rfl)) ?_
              refine HW.pure (i := 13) hH rfl (by kernel_rfl) (Wants.free rfl) rfl (fun _ => hS8) (Rd.pickT rfl hb13 rfl) ?_
              exact HW.sub hH (by exact ⟨rfl, rfl, rfl, rfl, trivial⟩) (K8 (r6 == r7) w35 hS8 hK (by exact hB) h)
            · have h := h0_J8 hb13
              refine HW.skip (i := 8) hH rfl (by kernel_rfl) (Skips.on rfl rfl rfl rfl rfl hb13) rfl (fun _ => hS6) ?_
              refine HW.skip (i := 9) hH rfl (by kernel_rfl) (Skips.on rfl rfl rfl rfl rfl hb13) rfl (fun _ => hS6) ?_
              refine HW.skip (i := 10) hH rfl (by kernel_rfl) (Skips.on rfl rfl rfl rfl rfl hb13) rfl (fun _ => hS6) ?_
              refine HW.skip (i := 11) hH rfl (by kernel_rfl) (Skips.on rfl rfl rfl rfl rfl hb13) rfl (fun _ => hS6) ?_
              refine HW.skip (i := 12) hH rfl (by kernel_rfl) (Skips.on rfl rfl rfl rfl rfl hb13) rfl (fun _ => hS6) ?_
              refine HW.pure (i := 13) hH rfl (by kernel_rfl) (Wants.free rfl) rfl (fun _ => hS6) (Rd.pickF rfl hb13 rfl) ?_
              exact HW.sub hH (by exact ⟨rfl, rfl, rfl, rfl, trivial⟩) (K8 false w32 hS6 hK (by exact hB) h)
          intro b12 w33 hS9 hK hB h_
          have h := hJ8 b12 w33 h_; clear h_
          refine HW.pure (i := 14) hH rfl (by kernel_rfl) (Wants.free rfl) rfl (fun _ => hS9) (Rd.move (v := .bool b12) rfl) ?_
          obtain ⟨J9, hJ9, h1_J9, h0_J9⟩ := h
          suffices K9 : ∀ (b13 : Bool) (w36 : World), (Boxes w36 [(b4, [.bool c8], 4), (b3, [.int .i64 c7], 3), (b1, [.slice l1 l1n l1c], 31)]) → XR.Marks w36 [d1] → Boxes w36 [(b1, [.slice l1 l1n l1c], 31), (b2, [u1], 4), (b3, [.int .i64 c7], 3), (b4, [.bool c8], 4)] → J9 b13 w36 → H 1 #[true, true, true, true, true, true, true, true, true, true, true, true, true, true, true, true, true, true, true, true, true, false] [(4, .pointer (some (⟨b2, 0, none⟩ : Addr))), (110, .bool b13)] w36 by
            rcases Bool.eq_false_or_eq_true b12 with hb14 | hb14
            · have h := h1_J9 hb14
              refine HW.pure (i := 15) hH rfl (by kernel_rfl) (Wants.on rfl rfl rfl rfl rfl hb14) rfl (fun _ => hS9) (Rd.move (v := .pointer s1) rfl) ?_
              refine HW.take (i := 17) hH rfl (by kernel_rfl) (by kernel_rfl) (Wants.on rfl rfl rfl rfl rfl hb14) rfl (fun _ => hS9) (Rd.ld (v := .slice l1 l1n l1c) rfl (by kernel_rfl) (fun w h => box_cell (Boxes.at (i := 2) h rfl) rfl)) ?_
              refine HW.pure (i := 18) hH rfl (by kernel_rfl) (Wants.on rfl rfl rfl rfl rfl hb14) rfl (fun _ => hS9) (Rd.builtin (v := .int .i64 (l1n : Int)) rfl (fun _ _ => by kernel_rfl)) ?_
              refine HW.call (i := 16) hH (by kernel_rfl) rfl (Wants.on rfl rfl rfl rfl rfl hb14) rfl (Cl.fn (f := 54) rfl Try.func54 (by kernel_rfl) rfl) h (fun e w37 h_ => ?_)
              clear h
              obtain ⟨r8, rfl, h⟩ := h_
              obtain ⟨hsm7, h⟩ := h
              replace hB := Boxes.sameS hB hsm7 (by simp)
              replace hK := XR.Marks.same hK hsm7 (by simp)
              have hS10 : Boxes w37 [(b4, [.bool c8], 4), (b3, [.int .i64 c7], 3), (b1, [.slice l1 l1n l1c], 31)] := (hB.sel [3, 2, 0] (by decide) rfl)
              refine ⟨_, rfl, (fun _ => hS10), ?_⟩
              refine HW.pure (i := 19) hH rfl (by kernel_rfl) (Wants.on rfl rfl rfl rfl rfl hb14) rfl (fun _ => hS10) (Rd.bin (v := .bool (r8 == (l1n : Int))) rfl rfl (fun w => by kernel_rfl)) ?_
              refine HW.pure (i := 20) hH rfl (by kernel_rfl) (Wants.free rfl) rfl (fun _ => hS10) (Rd.pickT rfl hb14 rfl) ?_
              exact HW.sub hH (by exact ⟨rfl, rfl, trivial⟩) (K9 (r8 == (l1n : Int)) w37 hS10 hK (by exact hB) h)
            · have h := h0_J9 hb14
              refine HW.skip (i := 15) hH rfl (by kernel_rfl) (Skips.on rfl rfl rfl rfl rfl hb14) rfl (fun _ => hS9) ?_
              refine HW.skip (i := 16) hH rfl (by kernel_rfl) (Skips.on rfl rfl rfl rfl rfl hb14) rfl (fun _ => hS9) ?_
              refine HW.skip (i := 17) hH rfl (by kernel_rfl) (Skips.on rfl rfl rfl rfl rfl hb14) rfl (fun _ => hS9) ?_
              refine HW.skip (i := 18) hH rfl (by kernel_rfl) (Skips.on rfl rfl rfl rfl rfl hb14) rfl (fun _ => hS9) ?_
              refine HW.skip (i := 19) hH rfl (by kernel_rfl) (Skips.on rfl rfl rfl rfl rfl hb14) rfl (fun _ => hS9) ?_
              refine HW.pure (i := 20) hH rfl (by kernel_rfl) (Wants.free rfl) rfl (fun _ => hS9) (Rd.pickF rfl hb14 rfl) ?_
              exact HW.sub hH (by exact ⟨rfl, rfl, trivial⟩) (K9 false w33 hS9 hK (by exact hB) h)
          intro b13 w36 hS11 hK hB h_
          have h := hJ9 b13 w36 h_; clear h_
          obtain ⟨w38, hw_w38⟩ : ∃ x, x = World.setCell w36 (⟨b2, 0, none⟩ : Addr) (.bool b13) := ⟨_, rfl⟩
          refine HW.eff (i := 21) hH (by kernel_rfl) rfl (Wants.free rfl) rfl (stE hw_w38 (Ef.st rfl rfl rfl (by kernel_rfl) (box_cell (v := u1) (hB.at (i := 1) rfl) rfl) (free_of (hB.at (i := 1) rfl) 0))) (fun hc => by cases hc) ?_
          replace hK := XR.Marks.set hK (hB.at (i := 1) rfl) (sil_c1 hw_w38)
          replace hB : Boxes w38 [(b1, [.slice l1 l1n l1c], 31), (b2, [.bool b13], 4), (b3, [.int .i64 c7], 3), (b4, [.bool c8], 4)] := Boxes.store1  (i := 1) (o := 0) hB rfl rfl rfl rfl hw_w38
          have hc_w38 : Chg [b2] w36 w38 := sil_more (Chg.refl [] w36) (sil_c1 hw_w38)
          refine HW.done hH (by kernel_rfl) ?_
          refine NW.then ?_
          replace h := h  w38  hc_w38
          refine CW.ret ?_
          exact XR.resM (ms := [d1]) (vs := [.bool b13]) hK rfl (fun w_ hc_ => ⟨(ResOK.c rfl (lv1 (by kernel_rfl) (box_cell (Boxes.at (i := 1) (hB.marks hK hc_) rfl) rfl)) ResOK.nil), b13, rfl, h w_ hc_⟩)
    · intro d2 c_ O3 xs2 w40 hO_ hd_ hdh_ hS_ hi_
      rcases hi_ with ⟨rfl, c3, c4, c5, hi_, hB⟩
      · have h := hso_X1 d2 O3 xs2 c3 c4 c5 w40 hO_ hd_ hS_ hi_
        have hK := XR.Marks.cons (XR.Marks.nil _) hdh_ (by simp)
        refine CW.ret ?_
        refine RW.block ?_
        refine RW.then ?_
        exact XR.resM (ms := [d2]) (vs := [.bool c3]) hK rfl (fun w_ hc_ => ⟨(ResOK.c rfl (lv1 (by kernel_rfl) (box_cell (Boxes.at (i := 1) (hB.marks hK hc_) rfl) rfl)) ResOK.nil), c3, rfl, h w_ hc_⟩)

/- pomander/pomanderlaw03.works -/
def W_pomanderlaw03_works  (w : World) (R : Bool → World → Prop) : Prop :=
  Calls Try.prog 51 #[.int .i64 2] w fun e w1 => ∃ (r2 : Option Addr) (r3 : Int), e = .returned (.tuple #[.pointer r2, .int .i64 r3]) ∧ (Calls Try.prog 52 #[.pointer r2, .int .i64 70, .int .u32 5] w1 fun e w2 => ∃ (r4 : Int), e = .returned (.int .i64 r4) ∧ (Calls Try.prog 42 #[.pointer r2, .int .i64 70] w2 fun e w3 => ∃ (r5 : Int) (r6 : Int), e = .returned (.tuple #[.int .u32 r5, .int .i64 r6]) ∧ (Calls Try.prog 55 #[.pointer r2] w3 fun e w4 => ∃ (r7 : Int), e = .returned (.int .i64 r7) ∧ (Calls Try.prog 46 #[.pointer r2, .int .i64 60, .int .i64 20] w4 fun e w5 => ∃ (r8 : Int) (r9 : Int), e = .returned (.tuple #[.int .u32 r8, .int .i64 r9]) ∧ (Calls Try.prog 52 #[.pointer r2, .int .i64 70, .int .u32 0] w5 fun e w6 => ∃ (r10 : Int), e = .returned (.int .i64 r10) ∧ (Calls Try.prog 44 #[.int .i64 r3] w6 fun e w7 => ∃ (r11 : Int), e = .returned (.int .i64 r11) ∧ (Calls Try.prog 44 #[.int .i64 r4] w7 fun e w8 => ∃ (r12 : Int), e = .returned (.int .i64 r12) ∧ (Calls Try.prog 44 #[.int .i64 r6] w8 fun e w9 => ∃ (r13 : Int), e = .returned (.int .i64 r13) ∧ (Calls Try.prog 44 #[.int .i64 r9] w9 fun e w10 => ∃ (r14 : Int), e = .returned (.int .i64 r14) ∧ (Calls Try.prog 44 #[.int .i64 r10] w10 fun e w11 => ∃ (r15 : Int), e = .returned (.int .i64 r15) ∧ (∃ J1 : Bool → World → Prop, (∀ (b1 : Bool) (w12 : World), J1 b1 w12 → R b1 w12) ∧ ((((((IntKind.wrap .i64 ((IntKind.wrap .i64 ((IntKind.wrap .i64 ((IntKind.wrap .i64 (r11 + r12)) + r13)) + r14)) + r15)) == 0 && r5 == 5) && r7 == 1) && r8 == 5) = true → Calls Try.prog 55 #[.pointer r2] w11 fun e w13 => ∃ (r16 : Int), e = .returned (.int .i64 r16) ∧ (J1 (r16 == 0) w13)) ∧ (((((IntKind.wrap .i64 ((IntKind.wrap .i64 ((IntKind.wrap .i64 ((IntKind.wrap .i64 (r11 + r12)) + r13)) + r14)) + r15)) == 0 && r5 == 5) && r7 == 1) && r8 == 5) = false → J1 false w11)))))))))))))
set_option maxRecDepth 100000 in
theorem go_pomanderlaw03_works  (w : World) (R : Bool → World → Prop) (h : W_pomanderlaw03_works  w R) : Calls Try.prog 40 #[] w (fun e w' => ∃ (r1 : Bool), e = .returned (.bool r1) ∧ R r1 w') := by
  unfold W_pomanderlaw03_works at h
  refine enter (N := 62) Try.func40 rfl rfl ?_
  refine CW.seq ?_
  refine CW.region fun L hL => ?_
  refine LW.rd hL rfl (Wants.free rfl) rfl (Rd.assign (v := .bool false) rfl) ?_
  refine LW.nil hL rfl ?_
  refine NW.then ?_
  refine CW.seq ?_
  refine CW.region fun L hL => ?_
  refine LW.call hL rfl (Wants.free rfl) rfl (Cl.fn (f := 51) rfl Try.func51 (by kernel_rfl) rfl) h (fun e w1 h_ => ?_)
  clear h
  obtain ⟨r2, r3, rfl, h⟩ := h_
  refine ⟨_, rfl, ?_⟩
  refine LW.rd hL rfl (Wants.free rfl) rfl (Rd.move (v := .tuple #[.pointer r2, .int .i64 r3]) rfl) ?_
  refine LW.rd hL rfl (Wants.free rfl) rfl (Rd.extract (v := .pointer r2) rfl rfl) ?_
  refine LW.rd hL rfl (Wants.free rfl) rfl (Rd.extract (v := .int .i64 r3) rfl rfl) ?_
  refine LW.rd hL rfl (Wants.free rfl) rfl (Rd.assign (v := .pointer r2) rfl) ?_
  refine LW.rd hL rfl (Wants.free rfl) rfl (Rd.assign (v := .int .i64 r3) rfl) ?_
  refine LW.nil hL rfl ?_
  refine NW.then ?_
  refine CW.seq ?_
  refine CW.region fun L hL => ?_
  refine LW.rd hL rfl (Wants.free rfl) rfl (Rd.move (v := .pointer r2) rfl) ?_
  refine LW.call hL rfl (Wants.free rfl) rfl (Cl.fn (f := 52) rfl Try.func52 (by kernel_rfl) rfl) h (fun e w2 h_ => ?_)
  clear h
  obtain ⟨r4, rfl, h⟩ := h_
  refine ⟨_, rfl, ?_⟩
  refine LW.rd hL rfl (Wants.free rfl) rfl (Rd.assign (v := .int .i64 r4) rfl) ?_
  refine LW.nil hL rfl ?_
  refine NW.then ?_
  refine CW.seq ?_
  refine CW.region fun L hL => ?_
  refine LW.rd hL rfl (Wants.free rfl) rfl (Rd.move (v := .pointer r2) rfl) ?_
  refine LW.call hL rfl (Wants.free rfl) rfl (Cl.fn (f := 42) rfl Try.func42 (by kernel_rfl) rfl) h (fun e w3 h_ => ?_)
  clear h
  obtain ⟨r5, r6, rfl, h⟩ := h_
  refine ⟨_, rfl, ?_⟩
  refine LW.rd hL rfl (Wants.free rfl) rfl (Rd.move (v := .tuple #[.int .u32 r5, .int .i64 r6]) rfl) ?_
  refine LW.rd hL rfl (Wants.free rfl) rfl (Rd.extract (v := .int .u32 r5) rfl rfl) ?_
  refine LW.rd hL rfl (Wants.free rfl) rfl (Rd.extract (v := .int .i64 r6) rfl rfl) ?_
  refine LW.rd hL rfl (Wants.free rfl) rfl (Rd.assign (v := .int .u32 r5) rfl) ?_
  refine LW.rd hL rfl (Wants.free rfl) rfl (Rd.assign (v := .int .i64 r6) rfl) ?_
  refine LW.nil hL rfl ?_
  refine NW.then ?_
  refine CW.seq ?_
  refine CW.region fun L hL => ?_
  refine LW.rd hL rfl (Wants.free rfl) rfl (Rd.move (v := .pointer r2) rfl) ?_
  refine LW.call hL rfl (Wants.free rfl) rfl (Cl.fn (f := 55) rfl Try.func55 (by kernel_rfl) rfl) h (fun e w4 h_ => ?_)
  clear h
  obtain ⟨r7, rfl, h⟩ := h_
  refine ⟨_, rfl, ?_⟩
  refine LW.rd hL rfl (Wants.free rfl) rfl (Rd.assign (v := .int .i64 r7) rfl) ?_
  refine LW.nil hL rfl ?_
  refine NW.then ?_
  refine CW.seq ?_
  refine CW.region fun L hL => ?_
  refine LW.rd hL rfl (Wants.free rfl) rfl (Rd.move (v := .pointer r2) rfl) ?_
  refine LW.call hL rfl (Wants.free rfl) rfl (Cl.fn (f := 46) rfl Try.func46 (by kernel_rfl) rfl) h (fun e w5 h_ => ?_)
  clear h
  obtain ⟨r8, r9, rfl, h⟩ := h_
  refine ⟨_, rfl, ?_⟩
  refine LW.rd hL rfl (Wants.free rfl) rfl (Rd.move (v := .tuple #[.int .u32 r8, .int .i64 r9]) rfl) ?_
  refine LW.rd hL rfl (Wants.free rfl) rfl (Rd.extract (v := .int .u32 r8) rfl rfl) ?_
  refine LW.rd hL rfl (Wants.free rfl) rfl (Rd.extract (v := .int .i64 r9) rfl rfl) ?_
  refine LW.rd hL rfl (Wants.free rfl) rfl (Rd.assign (v := .int .u32 r8) rfl) ?_
  refine LW.rd hL rfl (Wants.free rfl) rfl (Rd.assign (v := .int .i64 r9) rfl) ?_
  refine LW.nil hL rfl ?_
  refine NW.then ?_
  refine CW.seq ?_
  refine CW.region fun L hL => ?_
  refine LW.rd hL rfl (Wants.free rfl) rfl (Rd.move (v := .pointer r2) rfl) ?_
  refine LW.call hL rfl (Wants.free rfl) rfl (Cl.fn (f := 52) rfl Try.func52 (by kernel_rfl) rfl) h (fun e w6 h_ => ?_)
  clear h
  obtain ⟨r10, rfl, h⟩ := h_
  refine ⟨_, rfl, ?_⟩
  refine LW.rd hL rfl (Wants.free rfl) rfl (Rd.assign (v := .int .i64 r10) rfl) ?_
  refine LW.nil hL rfl ?_
  refine NW.then ?_
  refine CW.seq ?_
  refine CW.region fun L hL => ?_
  refine LW.rd hL rfl (Wants.free rfl) rfl (Rd.move (v := .int .i64 r3) rfl) ?_
  refine LW.call hL rfl (Wants.free rfl) rfl (Cl.fn (f := 44) rfl Try.func44 (by kernel_rfl) rfl) h (fun e w7 h_ => ?_)
  clear h
  obtain ⟨r11, rfl, h⟩ := h_
  refine ⟨_, rfl, ?_⟩
  refine LW.rd hL rfl (Wants.free rfl) rfl (Rd.move (v := .int .i64 r4) rfl) ?_
  refine LW.call hL rfl (Wants.free rfl) rfl (Cl.fn (f := 44) rfl Try.func44 (by kernel_rfl) rfl) h (fun e w8 h_ => ?_)
  clear h
  obtain ⟨r12, rfl, h⟩ := h_
  refine ⟨_, rfl, ?_⟩
  refine LW.rd hL rfl (Wants.free rfl) rfl (Rd.bin (v := .int .i64 (IntKind.wrap .i64 (r11 + r12))) rfl rfl (fun w => by kernel_rfl)) ?_
  refine LW.rd hL rfl (Wants.free rfl) rfl (Rd.move (v := .int .i64 r6) rfl) ?_
  refine LW.call hL rfl (Wants.free rfl) rfl (Cl.fn (f := 44) rfl Try.func44 (by kernel_rfl) rfl) h (fun e w9 h_ => ?_)
  clear h
  obtain ⟨r13, rfl, h⟩ := h_
  refine ⟨_, rfl, ?_⟩
  refine LW.rd hL rfl (Wants.free rfl) rfl (Rd.bin (v := .int .i64 (IntKind.wrap .i64 ((IntKind.wrap .i64 (r11 + r12)) + r13))) rfl rfl (fun w => by kernel_rfl)) ?_
  refine LW.rd hL rfl (Wants.free rfl) rfl (Rd.move (v := .int .i64 r9) rfl) ?_
  refine LW.call hL rfl (Wants.free rfl) rfl (Cl.fn (f := 44) rfl Try.func44 (by kernel_rfl) rfl) h (fun e w10 h_ => ?_)
  clear h
  obtain ⟨r14, rfl, h⟩ := h_
  refine ⟨_, rfl, ?_⟩
  refine LW.rd hL rfl (Wants.free rfl) rfl (Rd.bin (v := .int .i64 (IntKind.wrap .i64 ((IntKind.wrap .i64 ((IntKind.wrap .i64 (r11 + r12)) + r13)) + r14))) rfl rfl (fun w => by kernel_rfl)) ?_
  refine LW.rd hL rfl (Wants.free rfl) rfl (Rd.move (v := .int .i64 r10) rfl) ?_
  refine LW.call hL rfl (Wants.free rfl) rfl (Cl.fn (f := 44) rfl Try.func44 (by kernel_rfl) rfl) h (fun e w11 h_ => ?_)
  clear h
  obtain ⟨r15, rfl, h⟩ := h_
  refine ⟨_, rfl, ?_⟩
  refine LW.rd hL rfl (Wants.free rfl) rfl (Rd.bin (v := .int .i64 (IntKind.wrap .i64 ((IntKind.wrap .i64 ((IntKind.wrap .i64 ((IntKind.wrap .i64 (r11 + r12)) + r13)) + r14)) + r15))) rfl rfl (fun w => by kernel_rfl)) ?_
  refine LW.rd hL rfl (Wants.free rfl) rfl (Rd.bin (v := .bool ((IntKind.wrap .i64 ((IntKind.wrap .i64 ((IntKind.wrap .i64 ((IntKind.wrap .i64 (r11 + r12)) + r13)) + r14)) + r15)) == 0)) rfl rfl (fun w => by kernel_rfl)) ?_
  refine LW.rd hL rfl (Wants.free rfl) rfl (Rd.move (v := .bool ((IntKind.wrap .i64 ((IntKind.wrap .i64 ((IntKind.wrap .i64 ((IntKind.wrap .i64 (r11 + r12)) + r13)) + r14)) + r15)) == 0)) rfl) ?_
  suffices K1 : L 19 [(0, .bool false), (1, .pointer r2), (6, .int .i64 r7), (7, .int .u32 r8), (48, .bool ((IntKind.wrap .i64 ((IntKind.wrap .i64 ((IntKind.wrap .i64 ((IntKind.wrap .i64 (r11 + r12)) + r13)) + r14)) + r15)) == 0 && r5 == 5))] w11 by
    rcases Bool.eq_false_or_eq_true ((IntKind.wrap .i64 ((IntKind.wrap .i64 ((IntKind.wrap .i64 ((IntKind.wrap .i64 (r11 + r12)) + r13)) + r14)) + r15)) == 0) with hb2 | hb2
    · skip
      refine LW.rd hL rfl (Wants.on rfl rfl rfl rfl rfl hb2) rfl (Rd.move (v := .int .u32 r5) rfl) ?_
      refine LW.rd hL rfl (Wants.on rfl rfl rfl rfl rfl hb2) rfl (Rd.bin (v := .bool (r5 == 5)) rfl rfl (fun w => by kernel_rfl)) ?_
      refine LW.rd hL rfl (Wants.free rfl) rfl (Rd.pickT rfl hb2 rfl) ?_
      exact LW.sub hL (by exact ⟨rfl, rfl, rfl, rfl, (by rw [hb2]; rfl), trivial⟩) K1
    · skip
      refine LW.skip hL rfl (Skips.on rfl rfl rfl rfl rfl hb2) rfl ?_
      refine LW.skip hL rfl (Skips.on rfl rfl rfl rfl rfl hb2) rfl ?_
      refine LW.rd hL rfl (Wants.free rfl) rfl (Rd.pickF rfl hb2 rfl) ?_
      exact LW.sub hL (by exact ⟨rfl, rfl, rfl, rfl, (by rw [hb2]; rfl), trivial⟩) K1
  refine LW.rd hL rfl (Wants.free rfl) rfl (Rd.move (v := .bool ((IntKind.wrap .i64 ((IntKind.wrap .i64 ((IntKind.wrap .i64 ((IntKind.wrap .i64 (r11 + r12)) + r13)) + r14)) + r15)) == 0 && r5 == 5)) rfl) ?_
  suffices K2 : L 23 [(0, .bool false), (1, .pointer r2), (7, .int .u32 r8), (52, .bool (((IntKind.wrap .i64 ((IntKind.wrap .i64 ((IntKind.wrap .i64 ((IntKind.wrap .i64 (r11 + r12)) + r13)) + r14)) + r15)) == 0 && r5 == 5) && r7 == 1))] w11 by
    rcases Bool.eq_false_or_eq_true ((IntKind.wrap .i64 ((IntKind.wrap .i64 ((IntKind.wrap .i64 ((IntKind.wrap .i64 (r11 + r12)) + r13)) + r14)) + r15)) == 0 && r5 == 5) with hb4 | hb4
    · skip
      refine LW.rd hL rfl (Wants.on rfl rfl rfl rfl rfl hb4) rfl (Rd.move (v := .int .i64 r7) rfl) ?_
      refine LW.rd hL rfl (Wants.on rfl rfl rfl rfl rfl hb4) rfl (Rd.bin (v := .bool (r7 == 1)) rfl rfl (fun w => by kernel_rfl)) ?_
      refine LW.rd hL rfl (Wants.free rfl) rfl (Rd.pickT rfl hb4 rfl) ?_
      exact LW.sub hL (by exact ⟨rfl, rfl, rfl, (by rw [hb4]; rfl), trivial⟩) K2
    · skip
      refine LW.skip hL rfl (Skips.on rfl rfl rfl rfl rfl hb4) rfl ?_
      refine LW.skip hL rfl (Skips.on rfl rfl rfl rfl rfl hb4) rfl ?_
      refine LW.rd hL rfl (Wants.free rfl) rfl (Rd.pickF rfl hb4 rfl) ?_
      exact LW.sub hL (by exact ⟨rfl, rfl, rfl, (by rw [hb4]; rfl), trivial⟩) K2
  refine LW.rd hL rfl (Wants.free rfl) rfl (Rd.move (v := .bool (((IntKind.wrap .i64 ((IntKind.wrap .i64 ((IntKind.wrap .i64 ((IntKind.wrap .i64 (r11 + r12)) + r13)) + r14)) + r15)) == 0 && r5 == 5) && r7 == 1)) rfl) ?_
  suffices K3 : L 27 [(0, .bool false), (1, .pointer r2), (56, .bool ((((IntKind.wrap .i64 ((IntKind.wrap .i64 ((IntKind.wrap .i64 ((IntKind.wrap .i64 (r11 + r12)) + r13)) + r14)) + r15)) == 0 && r5 == 5) && r7 == 1) && r8 == 5))] w11 by
    rcases Bool.eq_false_or_eq_true (((IntKind.wrap .i64 ((IntKind.wrap .i64 ((IntKind.wrap .i64 ((IntKind.wrap .i64 (r11 + r12)) + r13)) + r14)) + r15)) == 0 && r5 == 5) && r7 == 1) with hb6 | hb6
    · skip
      refine LW.rd hL rfl (Wants.on rfl rfl rfl rfl rfl hb6) rfl (Rd.move (v := .int .u32 r8) rfl) ?_
      refine LW.rd hL rfl (Wants.on rfl rfl rfl rfl rfl hb6) rfl (Rd.bin (v := .bool (r8 == 5)) rfl rfl (fun w => by kernel_rfl)) ?_
      refine LW.rd hL rfl (Wants.free rfl) rfl (Rd.pickT rfl hb6 rfl) ?_
      exact LW.sub hL (by exact ⟨rfl, rfl, (by rw [hb6]; rfl), trivial⟩) K3
    · skip
      refine LW.skip hL rfl (Skips.on rfl rfl rfl rfl rfl hb6) rfl ?_
      refine LW.skip hL rfl (Skips.on rfl rfl rfl rfl rfl hb6) rfl ?_
      refine LW.rd hL rfl (Wants.free rfl) rfl (Rd.pickF rfl hb6 rfl) ?_
      exact LW.sub hL (by exact ⟨rfl, rfl, (by rw [hb6]; rfl), trivial⟩) K3
  refine LW.rd hL rfl (Wants.free rfl) rfl (Rd.move (v := .bool ((((IntKind.wrap .i64 ((IntKind.wrap .i64 ((IntKind.wrap .i64 ((IntKind.wrap .i64 (r11 + r12)) + r13)) + r14)) + r15)) == 0 && r5 == 5) && r7 == 1) && r8 == 5)) rfl) ?_
  obtain ⟨J1, hJ1, h1_J1, h0_J1⟩ := h
  suffices K4 : ∀ (b1 : Bool) (w12 : World), J1 b1 w12 → L 32 [(0, .bool false), (61, .bool b1)] w12 by
    rcases Bool.eq_false_or_eq_true ((((IntKind.wrap .i64 ((IntKind.wrap .i64 ((IntKind.wrap .i64 ((IntKind.wrap .i64 (r11 + r12)) + r13)) + r14)) + r15)) == 0 && r5 == 5) && r7 == 1) && r8 == 5) with hb7 | hb7
    · have h := h1_J1 hb7
      refine LW.rd hL rfl (Wants.on rfl rfl rfl rfl rfl hb7) rfl (Rd.move (v := .pointer r2) rfl) ?_
      refine LW.call hL rfl (Wants.on rfl rfl rfl rfl rfl hb7) rfl (Cl.fn (f := 55) rfl Try.func55 (by kernel_rfl) rfl) h (fun e w13 h_ => ?_)
      clear h
      obtain ⟨r16, rfl, h⟩ := h_
      refine ⟨_, rfl, ?_⟩
      refine LW.rd hL rfl (Wants.on rfl rfl rfl rfl rfl hb7) rfl (Rd.bin (v := .bool (r16 == 0)) rfl rfl (fun w => by kernel_rfl)) ?_
      refine LW.rd hL rfl (Wants.free rfl) rfl (Rd.pickT rfl hb7 rfl) ?_
      exact LW.sub hL (by exact ⟨rfl, rfl, trivial⟩) (K4 (r16 == 0) w13 h)
    · have h := h0_J1 hb7
      refine LW.skip hL rfl (Skips.on rfl rfl rfl rfl rfl hb7) rfl ?_
      refine LW.skip hL rfl (Skips.on rfl rfl rfl rfl rfl hb7) rfl ?_
      refine LW.skip hL rfl (Skips.on rfl rfl rfl rfl rfl hb7) rfl ?_
      refine LW.rd hL rfl (Wants.free rfl) rfl (Rd.pickF rfl hb7 rfl) ?_
      exact LW.sub hL (by exact ⟨rfl, rfl, trivial⟩) (K4 false w11 h)
  intro b1 w12 h_
  have h := hJ1 b1 w12 h_; clear h_
  refine LW.rd hL rfl (Wants.free rfl) rfl (Rd.assign (v := .bool b1) rfl) ?_
  refine LW.nil hL rfl ?_
  refine NW.then ?_
  refine CW.ret ?_
  exact res1 rfl rfl ⟨b1, rfl, h⟩

/- pomander/pomanderlaw03.played -/
def W_pomanderlaw03_played (pages1 : Int) (script1 : Option Addr) (script1n : Nat) (script1c : Nat) (w : World) (R : (Option Addr) → (Option Addr) → Nat → Nat → Bool → World → Prop) : Prop :=
  Calls Try.prog 51 #[.int .i64 pages1] w fun e w1 => ∃ (r4 : Option Addr) (r5 : Int), e = .returned (.tuple #[.pointer r4, .int .i64 r5]) ∧ (Calls Try.prog 58 #[.int .i64 pages1] w1 fun e w2 => ∃ (r6 : Option Addr) (r6n : Nat) (r6c : Nat), e = .returned (.slice r6 r6n r6c) ∧ (∃ (I1 : (Option Addr) → (Option Addr) → Nat → Nat → Bool → (Option Addr) → Nat → Nat → Int → World → Prop) (m1 : (Option Addr) → (Option Addr) → Nat → Nat → Bool → (Option Addr) → Nat → Nat → Int → World → Nat), I1 none none 0 0 false r6 r6n r6c 0 w2 ∧ ∀ (x1 : Option Addr) (x2 : Option Addr) (x2n : Nat) (x2c : Nat) (x3 : Bool) (l1 : Option Addr) (l1n : Nat) (l1c : Nat) (i1 : Int) (w3 : World), I1 x1 x2 x2n x2c x3 l1 l1n l1c i1 w3 → ((decide (i1 < (script1n : Int))) = true → ∃ J1 : (Option Addr) → (Option Addr) → Nat → Nat → Bool → (Option Addr) → Nat → Nat → World → Prop, (∀ (x4 : Option Addr) (x5 : Option Addr) (x5n : Nat) (x5c : Nat) (x6 : Bool) (l2 : Option Addr) (l2n : Nat) (l2c : Nat) (w4 : World), J1 x4 x5 x5n x5c x6 l2 l2n l2c w4 → (I1 x4 x5 x5n x5c x6 l2 l2n l2c (IntKind.wrap .i64 (i1 + 1)) w4 ∧ m1 x4 x5 x5n x5c x6 l2 l2n l2c (IntKind.wrap .i64 (i1 + 1)) w4 < m1 x1 x2 x2n x2c x3 l1 l1n l1c i1 w3)) ∧ (∃ a1 : Addr, script1 = some a1 ∧ (0 : Int) ≤ i1 ∧ i1 < (script1n : Int) ∧ (∃ (t1 : Int) (t2 : Int) (t3 : Int) (t4 : Int), CellsAt w3 (a1.add (Int.toNat i1 * 4)) 0 [.int .i64 t1, .int .i64 t2, .int .i64 t3, .int .u32 t4] ∧ (∀ (b1 : Nat) (w6 : World), (w3.heap.size ≤ b1 ∧ b1 < w6.heap.size) → Chg [] w3 w6 → (((t1 == 0) = true → Calls Try.prog 59 #[.slice l1 l1n l1c, .int .i64 t2, .int .u32 t4] w6 fun e w7 => ∃ (r7 : Option Addr) (r7n : Nat) (r7c : Nat) (r8 : Int), e = .returned (.tuple #[.slice r7 r7n r7c, .int .i64 r8]) ∧ (Same w6 w7 [b1] ∧ (Calls Try.prog 52 #[.pointer r4, .int .i64 t2, .int .u32 t4] w7 fun e w8 => ∃ (r9 : Int), e = .returned (.int .i64 r9) ∧ (Same w7 w8 [b1] ∧ (Calls Try.prog 44 #[.int .i64 r9] w8 fun e w9 => ∃ (r10 : Int), e = .returned (.int .i64 r10) ∧ (Same w8 w9 [b1] ∧ (((!(r10 == r8)) = true → R r4 r7 r7n r7c false w9) ∧ ((!(r10 == r8)) = false → J1 x1 x2 x2n x2c x3 r7 r7n r7c w9)))))))) ∧ ((t1 == 0) = false → Calls Try.prog 48 #[.slice l1 l1n l1c, .int .i64 t2, .int .i64 t3, .int .u32 t4] w6 fun e w10 => ∃ (r11 : Option Addr) (r11n : Nat) (r11c : Nat) (r12 : Int), e = .returned (.tuple #[.slice r11 r11n r11c, .int .i64 r12]) ∧ (Same w6 w10 [b1] ∧ (Calls Try.prog 49 #[.pointer r4, .int .i64 t2, .int .i64 t3, .int .u32 t4] w10 fun e w11 => ∃ (r13 : Int), e = .returned (.int .i64 r13) ∧ (Calls Try.prog 44 #[.int .i64 r13] w11 fun e w12 => ∃ (r14 : Int), e = .returned (.int .i64 r14) ∧ (((!(r14 == r12)) = true → R r4 r11 r11n r11c false w12) ∧ ((!(r14 == r12)) = false → J1 x1 x2 x2n x2c x3 r11 r11n r11c w12))))))))))) ∧ ((decide (i1 < (script1n : Int))) = false → Calls Try.prog 44 #[.int .i64 r5] w3 fun e w13 => ∃ (r15 : Int), e = .returned (.int .i64 r15) ∧ (R r4 l1 l1n l1c (r15 == 0) w13))))
set_option maxRecDepth 100000 in
theorem go_pomanderlaw03_played (pages1 : Int) (script1 : Option Addr) (script1n : Nat) (script1c : Nat) (w : World) (R : (Option Addr) → (Option Addr) → Nat → Nat → Bool → World → Prop) (h : W_pomanderlaw03_played pages1 script1 script1n script1c w R) : Calls Try.prog 41 #[.int .i64 pages1, .slice script1 script1n script1c] w (fun e w' => ∃ (r1 : Option Addr) (r2 : Option Addr) (r2n : Nat) (r2c : Nat) (r3 : Bool), e = .returned (.tuple #[.pointer r1, .slice r2 r2n r2c, .bool r3]) ∧ R r1 r2 r2n r2c r3 w') := by
  unfold W_pomanderlaw03_played at h
  refine enter (N := 87) Try.func41 rfl rfl ?_
  refine CW.seq ?_
  refine CW.region fun L hL => ?_
  refine LW.rd hL rfl (Wants.free rfl) rfl (Rd.assign (v := .pointer none) rfl) ?_
  refine LW.rd hL rfl (Wants.free rfl) rfl (Rd.assign (v := .slice none 0 0) rfl) ?_
  refine LW.rd hL rfl (Wants.free rfl) rfl (Rd.assign (v := .bool false) rfl) ?_
  refine LW.nil hL rfl ?_
  refine NW.then ?_
  refine CW.seq ?_
  refine CW.region fun L hL => ?_
  refine LW.rd hL rfl (Wants.free rfl) rfl (Rd.move (v := .int .i64 pages1) rfl) ?_
  refine LW.call hL rfl (Wants.free rfl) rfl (Cl.fn (f := 51) rfl Try.func51 (by kernel_rfl) rfl) h (fun e w1 h_ => ?_)
  clear h
  obtain ⟨r4, r5, rfl, h⟩ := h_
  refine ⟨_, rfl, ?_⟩
  refine LW.rd hL rfl (Wants.free rfl) rfl (Rd.move (v := .tuple #[.pointer r4, .int .i64 r5]) rfl) ?_
  refine LW.rd hL rfl (Wants.free rfl) rfl (Rd.extract (v := .pointer r4) rfl rfl) ?_
  refine LW.rd hL rfl (Wants.free rfl) rfl (Rd.extract (v := .int .i64 r5) rfl rfl) ?_
  refine LW.rd hL rfl (Wants.free rfl) rfl (Rd.assign (v := .pointer r4) rfl) ?_
  refine LW.rd hL rfl (Wants.free rfl) rfl (Rd.assign (v := .int .i64 r5) rfl) ?_
  refine LW.nil hL rfl ?_
  refine NW.then ?_
  refine CW.seq ?_
  refine CW.region fun L hL => ?_
  refine LW.rd hL rfl (Wants.free rfl) rfl (Rd.move (v := .int .i64 pages1) rfl) ?_
  refine LW.call hL rfl (Wants.free rfl) rfl (Cl.fn (f := 58) rfl Try.func58 (by kernel_rfl) rfl) h (fun e w2 h_ => ?_)
  clear h
  obtain ⟨r6, r6n, r6c, rfl, h⟩ := h_
  refine ⟨_, rfl, ?_⟩
  refine LW.rd hL rfl (Wants.free rfl) rfl (Rd.assign (v := .slice r6 r6n r6c) rfl) ?_
  refine LW.nil hL rfl ?_
  refine NW.then ?_
  refine CW.seq ?_
  refine CW.seq ?_
  refine CW.region fun L hL => ?_
  refine LW.rd hL rfl (Wants.free rfl) rfl (Rd.assign (v := .int .i64 0) rfl) ?_
  refine LW.nil hL rfl ?_
  refine NW.then ?_
  refine CW.block ?_
  obtain ⟨I1, m1, hI1, h⟩ := h
  refine CW.loop (S := (Option Addr) × (Option Addr) × Nat × Nat × Bool × (Option Addr) × Nat × Nat × Int) (fun s1 => [(1, .slice script1 script1n script1c), (7, .pointer r4), (8, .int .i64 r5), (4, .pointer s1.1), (5, .slice s1.2.1 s1.2.2.1 s1.2.2.2.1), (6, .bool s1.2.2.2.2.1), (9, .slice s1.2.2.2.2.2.1 s1.2.2.2.2.2.2.1 s1.2.2.2.2.2.2.2.1), (10, .int .i64 s1.2.2.2.2.2.2.2.2)]) (fun s1 w3 => I1 s1.1 s1.2.1 s1.2.2.1 s1.2.2.2.1 s1.2.2.2.2.1 s1.2.2.2.2.2.1 s1.2.2.2.2.2.2.1 s1.2.2.2.2.2.2.2.1 s1.2.2.2.2.2.2.2.2 w3) (fun s1 w3 => m1 s1.1 s1.2.1 s1.2.2.1 s1.2.2.2.1 s1.2.2.2.2.1 s1.2.2.2.2.2.1 s1.2.2.2.2.2.2.1 s1.2.2.2.2.2.2.2.1 s1.2.2.2.2.2.2.2.2 w3) (none, none, 0, 0, false, r6, r6n, r6c, 0) (by exact ⟨rfl, rfl, rfl, rfl, rfl, rfl, rfl, rfl, trivial⟩) hI1 (fun s1 w3 hI1 => ?_)
  obtain ⟨x1, x2, x2n, x2c, x3, l1, l1n, l1c, i1⟩ := s1; replace h := h x1 x2 x2n x2c x3 l1 l1n l1c i1 w3 hI1
  refine CW.seq ?_
  refine CW.seq ?_
  refine CW.region fun L hL => ?_
  refine LW.rd hL rfl (Wants.free rfl) rfl (Rd.move (v := .int .i64 i1) rfl) ?_
  refine LW.rd hL rfl (Wants.free rfl) rfl (Rd.move (v := .slice script1 script1n script1c) rfl) ?_
  refine LW.rd hL rfl (Wants.free rfl) rfl (Rd.builtin (v := .int .i64 (script1n : Int)) rfl (fun _ _ => by kernel_rfl)) ?_
  refine LW.rd hL rfl (Wants.free rfl) rfl (Rd.bin (v := .bool (decide (i1 < (script1n : Int)))) rfl rfl (fun w => by kernel_rfl)) ?_
  refine LW.nil hL rfl ?_
  refine NW.then ?_
  refine CW.cond rfl (fun hb1 => ?_) (fun hb1 => ?_)
  · replace h := h.1 hb1
    refine CW.skip ?_
    refine NW.then ?_
    obtain ⟨J1, hJ1, h⟩ := h
    refine CW.cut (S := (Option Addr) × (Option Addr) × Nat × Nat × Bool × (Option Addr) × Nat × Nat) (fun s2 => [(1, .slice script1 script1n script1c), (7, .pointer r4), (8, .int .i64 r5), (10, .int .i64 i1), (4, .pointer s2.1), (5, .slice s2.2.1 s2.2.2.1 s2.2.2.2.1), (6, .bool s2.2.2.2.2.1), (9, .slice s2.2.2.2.2.2.1 s2.2.2.2.2.2.2.1 s2.2.2.2.2.2.2.2)]) (fun s2 w4 => J1 s2.1 s2.2.1 s2.2.2.1 s2.2.2.2.1 s2.2.2.2.2.1 s2.2.2.2.2.2.1 s2.2.2.2.2.2.2.1 s2.2.2.2.2.2.2.2 w4) (fun s2 w4 h_ => ?_) ?_
    · obtain ⟨x4, x5, x5n, x5c, x6, l2, l2n, l2c⟩ := s2; replace h := hJ1 x4 x5 x5n x5c x6 l2 l2n l2c w4 h_; clear h_
      refine CW.region fun L hL => ?_
      refine LW.rd hL rfl (Wants.free rfl) rfl (Rd.move (v := .int .i64 i1) rfl) ?_
      refine LW.rd hL rfl (Wants.free rfl) rfl (Rd.bin (v := .int .i64 (IntKind.wrap .i64 (i1 + 1))) rfl rfl (fun w => by kernel_rfl)) ?_
      refine LW.rd hL rfl (Wants.free rfl) rfl (Rd.assign (v := .int .i64 (IntKind.wrap .i64 (i1 + 1))) rfl) ?_
      refine LW.nil hL rfl ?_
      exact NW.loop (S := (Option Addr) × (Option Addr) × Nat × Nat × Bool × (Option Addr) × Nat × Nat × Int) (Ek := fun s1 => [(1, .slice script1 script1n script1c), (7, .pointer r4), (8, .int .i64 r5), (4, .pointer s1.1), (5, .slice s1.2.1 s1.2.2.1 s1.2.2.2.1), (6, .bool s1.2.2.2.2.1), (9, .slice s1.2.2.2.2.2.1 s1.2.2.2.2.2.2.1 s1.2.2.2.2.2.2.2.1), (10, .int .i64 s1.2.2.2.2.2.2.2.2)]) (x4, x5, x5n, x5c, x6, l2, l2n, l2c, IntKind.wrap .i64 (i1 + 1)) (by exact ⟨rfl, rfl, rfl, rfl, rfl, rfl, rfl, rfl, trivial⟩) h
    · skip
      refine CW.block ?_
      refine CW.seq ?_
      refine CW.region fun L hL => ?_
      refine LW.rd hL rfl (Wants.free rfl) rfl (Rd.move (v := .slice script1 script1n script1c) rfl) ?_
      refine LW.rd hL rfl (Wants.free rfl) rfl (Rd.move (v := .int .i64 i1) rfl) ?_
      obtain ⟨a1, he1, hi1, hi2, h⟩ := h
      refine LW.rd hL rfl (Wants.free rfl) rfl (Rd.iaS (q := a1) (sz := 4) (by rw [← he1]; rfl) rfl Try.underlying95 (by kernel_rfl) hi1 hi2) ?_
      obtain ⟨t1, t2, t3, t4, hc1, h⟩ := h
      refine LW.rd hL rfl (Wants.free rfl) rfl (Rd.ldN (cs := [.int .i64 t1, .int .i64 t2, .int .i64 t3, .int .u32 t4]) rfl (by kernel_rfl) (by kernel_rfl) (cellsS hc1)) ?_
      obtain ⟨b1, hb_b1⟩ : ∃ b1, b1 = World.size w3 := ⟨_, rfl⟩
      obtain ⟨w5, hw_w5⟩ : ∃ w5, w5 = World.alloc w3 (.cells #[.int .i64 0, .int .i64 0, .int .i64 0, .int .u32 0] 94) := ⟨_, rfl⟩
      refine LW.val hL rfl (Wants.free rfl) rfl (boxE hb_b1 hw_w5 (Vl.alloc (z := .agg #[.int .i64 0, .int .i64 0, .int .i64 0, .int .u32 0]) (by kernel_rfl))) ?_
      have hB := Boxes.alloc (cs := [.int .i64 0, .int .i64 0, .int .i64 0, .int .u32 0]) (T := 94) (Boxes.nil w3) hb_b1 hw_w5
      have hlo_b1 := sil_lo (Chg.refl [] w3) hb_b1
      have hc_w5 := sil_alloc (Chg.refl [] w3) hw_w5
      obtain ⟨w6, hw_w6⟩ : ∃ x, x = setCells w5 (⟨b1, 0, none⟩ : Addr) 0 [.int .i64 t1, .int .i64 t2, .int .i64 t3, .int .u32 t4] := ⟨_, rfl⟩
      refine LW.eff hL rfl (Wants.free rfl) rfl (stNE hw_w6 (Ef.stN (cs := [.int .i64 t1, .int .i64 t2, .int .i64 t3, .int .u32 t4]) rfl rfl (by kernel_rfl) (List.forall_mem_cons.2 ⟨rfl, (List.forall_mem_cons.2 ⟨rfl, (List.forall_mem_cons.2 ⟨rfl, (List.forall_mem_cons.2 ⟨rfl, (List.forall_mem_nil _)⟩)⟩)⟩)⟩) (has_of (hB.at (i := 0) rfl) (by simp)) (free_of' (hB.at (i := 0) rfl)))) ?_
      replace hB : Boxes w6 [(b1, [.int .i64 t1, .int .i64 t2, .int .i64 t3, .int .u32 t4], 94)] := Boxes.store (vs := [.int .i64 t1, .int .i64 t2, .int .i64 t3, .int .u32 t4]) (i := 0) (o := 0) hB rfl rfl rfl rfl hw_w6
      have hc_w6 := sil_new hc_w5 (sil_cN hw_w6) hlo_b1
      refine LW.nil hL rfl ?_
      refine NW.then ?_
      refine CW.seq ?_
      refine CW.seq ?_
      refine CW.region fun L hL => ?_
      refine LW.rd hL rfl (Wants.free rfl) rfl (Rd.fa (v := .pointer (some (⟨b1, 0, none⟩ : Addr))) rfl (fun _ => by kernel_rfl)) ?_
      refine LW.rd hL rfl (Wants.free rfl) rfl (Rd.ld (v := .int .i64 t1) rfl (by kernel_rfl) (eqs (box_cell (hB.at (i := 0) rfl) rfl))) ?_
      refine LW.rd hL rfl (Wants.free rfl) rfl (Rd.bin (v := .bool (t1 == 0)) rfl rfl (fun w => by kernel_rfl)) ?_
      refine LW.nil hL rfl ?_
      refine NW.then ?_
      replace h := h b1 w6 ⟨hlo_b1, lt_of_heap (hB.at (i := 0) rfl)⟩ hc_w6
      refine CW.cond rfl (fun hb2 => ?_) (fun hb2 => ?_)
      · replace h := h.1 hb2
        refine CW.seq ?_
        refine CW.region fun L hL => ?_
        refine LW.rd hL rfl (Wants.free rfl) rfl (Rd.move (v := .slice l1 l1n l1c) rfl) ?_
        refine LW.rd hL rfl (Wants.free rfl) rfl (Rd.fa (v := .pointer (some (⟨b1, 1, none⟩ : Addr))) rfl (fun _ => by kernel_rfl)) ?_
        refine LW.rd hL rfl (Wants.free rfl) rfl (Rd.ld (v := .int .i64 t2) rfl (by kernel_rfl) (eqs (box_cell (hB.at (i := 0) rfl) rfl))) ?_
        refine LW.rd hL rfl (Wants.free rfl) rfl (Rd.fa (v := .pointer (some (⟨b1, 3, none⟩ : Addr))) rfl (fun _ => by kernel_rfl)) ?_
        refine LW.rd hL rfl (Wants.free rfl) rfl (Rd.ld (v := .int .u32 t4) rfl (by kernel_rfl) (eqs (box_cell (hB.at (i := 0) rfl) rfl))) ?_
        refine LW.call hL rfl (Wants.free rfl) rfl (Cl.fn (f := 59) rfl Try.func59 (by kernel_rfl) rfl) h (fun e w7 h_ => ?_)
        clear h
        obtain ⟨r7, r7n, r7c, r8, rfl, h⟩ := h_
        obtain ⟨hsm1, h⟩ := h
        replace hB := Boxes.sameS hB hsm1 (by simp)
        refine ⟨_, rfl, ?_⟩
        refine LW.rd hL rfl (Wants.free rfl) rfl (Rd.move (v := .tuple #[.slice r7 r7n r7c, .int .i64 r8]) rfl) ?_
        refine LW.rd hL rfl (Wants.free rfl) rfl (Rd.extract (v := .slice r7 r7n r7c) rfl rfl) ?_
        refine LW.rd hL rfl (Wants.free rfl) rfl (Rd.extract (v := .int .i64 r8) rfl rfl) ?_
        refine LW.rd hL rfl (Wants.free rfl) rfl (Rd.assign (v := .slice r7 r7n r7c) rfl) ?_
        refine LW.rd hL rfl (Wants.free rfl) rfl (Rd.assign (v := .int .i64 r8) rfl) ?_
        refine LW.nil hL rfl ?_
        refine NW.then ?_
        refine CW.seq ?_
        refine CW.region fun L hL => ?_
        refine LW.rd hL rfl (Wants.free rfl) rfl (Rd.move (v := .slice r7 r7n r7c) rfl) ?_
        refine LW.rd hL rfl (Wants.free rfl) rfl (Rd.assign (v := .slice r7 r7n r7c) rfl) ?_
        refine LW.nil hL rfl ?_
        refine NW.then ?_
        refine CW.seq ?_
        refine CW.seq ?_
        refine CW.region fun L hL => ?_
        refine LW.rd hL rfl (Wants.free rfl) rfl (Rd.move (v := .pointer r4) rfl) ?_
        refine LW.rd hL rfl (Wants.free rfl) rfl (Rd.fa (v := .pointer (some (⟨b1, 1, none⟩ : Addr))) rfl (fun _ => by kernel_rfl)) ?_
        refine LW.rd hL rfl (Wants.free rfl) rfl (Rd.ld (v := .int .i64 t2) rfl (by kernel_rfl) (eqs (box_cell (hB.at (i := 0) rfl) rfl))) ?_
        refine LW.rd hL rfl (Wants.free rfl) rfl (Rd.fa (v := .pointer (some (⟨b1, 3, none⟩ : Addr))) rfl (fun _ => by kernel_rfl)) ?_
        refine LW.rd hL rfl (Wants.free rfl) rfl (Rd.ld (v := .int .u32 t4) rfl (by kernel_rfl) (eqs (box_cell (hB.at (i := 0) rfl) rfl))) ?_
        refine LW.call hL rfl (Wants.free rfl) rfl (Cl.fn (f := 52) rfl Try.func52 (by kernel_rfl) rfl) h (fun e w8 h_ => ?_)
        clear h
        obtain ⟨r9, rfl, h⟩ := h_
        obtain ⟨hsm2, h⟩ := h
        replace hB := Boxes.sameS hB hsm2 (by simp)
        refine ⟨_, rfl, ?_⟩
        refine LW.call hL rfl (Wants.free rfl) rfl (Cl.fn (f := 44) rfl Try.func44 (by kernel_rfl) rfl) h (fun e w9 h_ => ?_)
        clear h
        obtain ⟨r10, rfl, h⟩ := h_
        obtain ⟨hsm3, h⟩ := h
        replace hB := Boxes.sameS hB hsm3 (by simp)
        refine ⟨_, rfl, ?_⟩
        refine LW.rd hL rfl (Wants.free rfl) rfl (Rd.move (v := .int .i64 r8) rfl) ?_
        refine LW.rd hL rfl (Wants.free rfl) rfl (Rd.bin (v := .bool (!(r10 == r8))) rfl rfl (fun w => by kernel_rfl)) ?_
        refine LW.nil hL rfl ?_
        refine NW.then ?_
        refine CW.cond rfl (fun hb3 => ?_) (fun hb3 => ?_)
        · replace h := h.1 hb3
          refine CW.seq ?_
          refine CW.region fun L hL => ?_
          refine LW.rd hL rfl (Wants.free rfl) rfl (Rd.move (v := .pointer r4) rfl) ?_
          refine LW.rd hL rfl (Wants.free rfl) rfl (Rd.move (v := .slice r7 r7n r7c) rfl) ?_
          refine LW.rd hL rfl (Wants.free rfl) rfl (Rd.assign (v := .pointer r4) rfl) ?_
          refine LW.rd hL rfl (Wants.free rfl) rfl (Rd.assign (v := .slice r7 r7n r7c) rfl) ?_
          refine LW.rd hL rfl (Wants.free rfl) rfl (Rd.assign (v := .bool false) rfl) ?_
          refine LW.nil hL rfl ?_
          refine NW.then ?_
          refine CW.ret ?_
          refine RW.then ?_
          refine RW.then ?_
          refine RW.block ?_
          refine RW.then ?_
          refine RW.then ?_
          refine RW.block ?_
          refine RW.then ?_
          exact res3 rfl rfl rfl rfl ⟨r4, r7, r7n, r7c, false, rfl, h⟩
        · replace h := h.2 hb3
          refine CW.skip ?_
          refine NW.then ?_
          refine CW.exit ?_
          refine XW.then ?_
          refine XW.hit ?_
          exact NW.cut (S := (Option Addr) × (Option Addr) × Nat × Nat × Bool × (Option Addr) × Nat × Nat) (Ek := fun s2 => [(1, .slice script1 script1n script1c), (7, .pointer r4), (8, .int .i64 r5), (10, .int .i64 i1), (4, .pointer s2.1), (5, .slice s2.2.1 s2.2.2.1 s2.2.2.2.1), (6, .bool s2.2.2.2.2.1), (9, .slice s2.2.2.2.2.2.1 s2.2.2.2.2.2.2.1 s2.2.2.2.2.2.2.2)]) (x1, x2, x2n, x2c, x3, r7, r7n, r7c) (by exact ⟨rfl, rfl, rfl, rfl, rfl, rfl, rfl, rfl, trivial⟩) h
      · replace h := h.2 hb2
        refine CW.skip ?_
        refine NW.then ?_
        refine CW.seq ?_
        refine CW.region fun L hL => ?_
        refine LW.rd hL rfl (Wants.free rfl) rfl (Rd.move (v := .slice l1 l1n l1c) rfl) ?_
        refine LW.rd hL rfl (Wants.free rfl) rfl (Rd.fa (v := .pointer (some (⟨b1, 1, none⟩ : Addr))) rfl (fun _ => by kernel_rfl)) ?_
        refine LW.rd hL rfl (Wants.free rfl) rfl (Rd.ld (v := .int .i64 t2) rfl (by kernel_rfl) (eqs (box_cell (hB.at (i := 0) rfl) rfl))) ?_
        refine LW.rd hL rfl (Wants.free rfl) rfl (Rd.fa (v := .pointer (some (⟨b1, 2, none⟩ : Addr))) rfl (fun _ => by kernel_rfl)) ?_
        refine LW.rd hL rfl (Wants.free rfl) rfl (Rd.ld (v := .int .i64 t3) rfl (by kernel_rfl) (eqs (box_cell (hB.at (i := 0) rfl) rfl))) ?_
        refine LW.rd hL rfl (Wants.free rfl) rfl (Rd.fa (v := .pointer (some (⟨b1, 3, none⟩ : Addr))) rfl (fun _ => by kernel_rfl)) ?_
        refine LW.rd hL rfl (Wants.free rfl) rfl (Rd.ld (v := .int .u32 t4) rfl (by kernel_rfl) (eqs (box_cell (hB.at (i := 0) rfl) rfl))) ?_
        refine LW.call hL rfl (Wants.free rfl) rfl (Cl.fn (f := 48) rfl Try.func48 (by kernel_rfl) rfl) h (fun e w10 h_ => ?_)
        clear h
        obtain ⟨r11, r11n, r11c, r12, rfl, h⟩ := h_
        obtain ⟨hsm4, h⟩ := h
        replace hB := Boxes.sameS hB hsm4 (by simp)
        refine ⟨_, rfl, ?_⟩
        refine LW.rd hL rfl (Wants.free rfl) rfl (Rd.move (v := .tuple #[.slice r11 r11n r11c, .int .i64 r12]) rfl) ?_
        refine LW.rd hL rfl (Wants.free rfl) rfl (Rd.extract (v := .slice r11 r11n r11c) rfl rfl) ?_
        refine LW.rd hL rfl (Wants.free rfl) rfl (Rd.extract (v := .int .i64 r12) rfl rfl) ?_
        refine LW.rd hL rfl (Wants.free rfl) rfl (Rd.assign (v := .slice r11 r11n r11c) rfl) ?_
        refine LW.rd hL rfl (Wants.free rfl) rfl (Rd.assign (v := .int .i64 r12) rfl) ?_
        refine LW.nil hL rfl ?_
        refine NW.then ?_
        refine CW.seq ?_
        refine CW.region fun L hL => ?_
        refine LW.rd hL rfl (Wants.free rfl) rfl (Rd.move (v := .slice r11 r11n r11c) rfl) ?_
        refine LW.rd hL rfl (Wants.free rfl) rfl (Rd.assign (v := .slice r11 r11n r11c) rfl) ?_
        refine LW.nil hL rfl ?_
        refine NW.then ?_
        refine CW.seq ?_
        refine CW.region fun L hL => ?_
        refine LW.rd hL rfl (Wants.free rfl) rfl (Rd.move (v := .pointer r4) rfl) ?_
        refine LW.rd hL rfl (Wants.free rfl) rfl (Rd.fa (v := .pointer (some (⟨b1, 1, none⟩ : Addr))) rfl (fun _ => by kernel_rfl)) ?_
        refine LW.rd hL rfl (Wants.free rfl) rfl (Rd.ld (v := .int .i64 t2) rfl (by kernel_rfl) (eqs (box_cell (hB.at (i := 0) rfl) rfl))) ?_
        refine LW.rd hL rfl (Wants.free rfl) rfl (Rd.fa (v := .pointer (some (⟨b1, 2, none⟩ : Addr))) rfl (fun _ => by kernel_rfl)) ?_
        refine LW.rd hL rfl (Wants.free rfl) rfl (Rd.ld (v := .int .i64 t3) rfl (by kernel_rfl) (eqs (box_cell (hB.at (i := 0) rfl) rfl))) ?_
        refine LW.rd hL rfl (Wants.free rfl) rfl (Rd.fa (v := .pointer (some (⟨b1, 3, none⟩ : Addr))) rfl (fun _ => by kernel_rfl)) ?_
        refine LW.rd hL rfl (Wants.free rfl) rfl (Rd.ld (v := .int .u32 t4) rfl (by kernel_rfl) (eqs (box_cell (hB.at (i := 0) rfl) rfl))) ?_
        refine LW.call hL rfl (Wants.free rfl) rfl (Cl.fn (f := 49) rfl Try.func49 (by kernel_rfl) rfl) h (fun e w11 h_ => ?_)
        clear h
        obtain ⟨r13, rfl, h⟩ := h_
        refine ⟨_, rfl, ?_⟩
        refine LW.call hL rfl (Wants.free rfl) rfl (Cl.fn (f := 44) rfl Try.func44 (by kernel_rfl) rfl) h (fun e w12 h_ => ?_)
        clear h
        obtain ⟨r14, rfl, h⟩ := h_
        refine ⟨_, rfl, ?_⟩
        refine LW.rd hL rfl (Wants.free rfl) rfl (Rd.move (v := .int .i64 r12) rfl) ?_
        refine LW.rd hL rfl (Wants.free rfl) rfl (Rd.bin (v := .bool (!(r14 == r12))) rfl rfl (fun w => by kernel_rfl)) ?_
        refine LW.nil hL rfl ?_
        refine NW.then ?_
        refine CW.cond rfl (fun hb4 => ?_) (fun hb4 => ?_)
        · replace h := h.1 hb4
          refine CW.seq ?_
          refine CW.region fun L hL => ?_
          refine LW.rd hL rfl (Wants.free rfl) rfl (Rd.move (v := .pointer r4) rfl) ?_
          refine LW.rd hL rfl (Wants.free rfl) rfl (Rd.move (v := .slice r11 r11n r11c) rfl) ?_
          refine LW.rd hL rfl (Wants.free rfl) rfl (Rd.assign (v := .pointer r4) rfl) ?_
          refine LW.rd hL rfl (Wants.free rfl) rfl (Rd.assign (v := .slice r11 r11n r11c) rfl) ?_
          refine LW.rd hL rfl (Wants.free rfl) rfl (Rd.assign (v := .bool false) rfl) ?_
          refine LW.nil hL rfl ?_
          refine NW.then ?_
          refine CW.ret ?_
          refine RW.block ?_
          refine RW.then ?_
          refine RW.then ?_
          refine RW.block ?_
          refine RW.then ?_
          exact res3 rfl rfl rfl rfl ⟨r4, r11, r11n, r11c, false, rfl, h⟩
        · replace h := h.2 hb4
          refine CW.skip ?_
          refine NW.block ?_
          exact NW.cut (S := (Option Addr) × (Option Addr) × Nat × Nat × Bool × (Option Addr) × Nat × Nat) (Ek := fun s2 => [(1, .slice script1 script1n script1c), (7, .pointer r4), (8, .int .i64 r5), (10, .int .i64 i1), (4, .pointer s2.1), (5, .slice s2.2.1 s2.2.2.1 s2.2.2.2.1), (6, .bool s2.2.2.2.2.1), (9, .slice s2.2.2.2.2.2.1 s2.2.2.2.2.2.2.1 s2.2.2.2.2.2.2.2)]) (x1, x2, x2n, x2c, x3, r11, r11n, r11c) (by exact ⟨rfl, rfl, rfl, rfl, rfl, rfl, rfl, rfl, trivial⟩) h
  · replace h := h.2 hb1
    refine CW.exit ?_
    refine XW.then ?_
    refine XW.then ?_
    refine XW.hit ?_
    refine NW.then ?_
    refine CW.seq ?_
    refine CW.region fun L hL => ?_
    refine LW.rd hL rfl (Wants.free rfl) rfl (Rd.move (v := .pointer r4) rfl) ?_
    refine LW.rd hL rfl (Wants.free rfl) rfl (Rd.move (v := .slice l1 l1n l1c) rfl) ?_
    refine LW.rd hL rfl (Wants.free rfl) rfl (Rd.move (v := .int .i64 r5) rfl) ?_
    refine LW.call hL rfl (Wants.free rfl) rfl (Cl.fn (f := 44) rfl Try.func44 (by kernel_rfl) rfl) h (fun e w13 h_ => ?_)
    clear h
    obtain ⟨r15, rfl, h⟩ := h_
    refine ⟨_, rfl, ?_⟩
    refine LW.rd hL rfl (Wants.free rfl) rfl (Rd.bin (v := .bool (r15 == 0)) rfl rfl (fun w => by kernel_rfl)) ?_
    refine LW.rd hL rfl (Wants.free rfl) rfl (Rd.assign (v := .pointer r4) rfl) ?_
    refine LW.rd hL rfl (Wants.free rfl) rfl (Rd.assign (v := .slice l1 l1n l1c) rfl) ?_
    refine LW.rd hL rfl (Wants.free rfl) rfl (Rd.assign (v := .bool (r15 == 0)) rfl) ?_
    refine LW.nil hL rfl ?_
    refine NW.then ?_
    refine CW.ret ?_
    exact res3 rfl rfl rfl rfl ⟨r4, l1, l1n, l1c, r15 == 0, rfl, h⟩

end Go.Proofs.Ytkfncibmfcdokaa
