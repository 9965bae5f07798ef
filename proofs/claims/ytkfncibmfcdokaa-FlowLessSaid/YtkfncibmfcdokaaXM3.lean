/- Texts of the claim, merged: XG9 XIs XFt2. -/
import Derived.Test.YtkfncibmfcdokaaXM2
import Derived.Test.YtkfncibmfcdokaaProg

/- XG9 -/
section
set_option linter.unusedVariables false
set_option linter.unusedSimpArgs false
namespace Go.Proofs.Ytkfncibmfcdokaa
open Go Go.X

/- pomander/pomanderlaw03.is -/
def W_pomanderlaw03_is (s1 : Option Addr) (l1 : Option Addr) (l1n : Nat) (l1c : Nat) (w : World) (R : Bool → World → Prop) : Prop :=
  ∀ (b4 b3 b2 b1 : Nat) (w6 : World), (w.heap.size ≤ b4 ∧ b4 < w6.heap.size) → (w.heap.size ≤ b3 ∧ b3 < w6.heap.size) → (w.heap.size ≤ b2 ∧ b2 < w6.heap.size) → (w.heap.size ≤ b1 ∧ b1 < w6.heap.size) → Chg [] w w6 → (Calls Try.prog 50 #[.pointer s1] w6 fun e w7 => ∃ (r2 : Value), e = .returned (r2) ∧ (Same w6 w7 [b4, b3, b2, b1] ∧ (∃ (t1 : Bool), (∀ w : World, ((do eqGuard .eql 111 (.tmp 11) (.const (.nilFunc)) (r2) (.nilFunc); binOp .eql 111 (r2) (.nilFunc) : Sem Value)).run Try.prog w = .ok (.bool t1) w) ∧ ((t1 = true → ∀ (w8 : World), Chg [b2] w7 w8 → (R false w8)) ∧ (t1 = false → Calls Try.prog 50 #[.pointer s1] w7 fun e w9 => ∃ (r3 : Value), e = .returned (r3) ∧ (Same w7 w9 [b4, b3, b2, b1] ∧ (∃ (S1 Sp1 : List (Int × Int) → Prop) (keep1 : List Nat), XR.IsFn Try.prog r3 ∧ XR.Iterates Try.prog r3 (fun x : Int × Int => #[.int .i64 x.1, .int .u32 x.2]) S1 Sp1 keep1 w9 ∧ (∀ i_ ∈ keep1, i_ < w9.heap.size) ∧ ∃ (I1 : Int → Bool → List Nat → List (Int × Int) → World → Prop) (X1 : Bool → Int → Bool → List Nat → List (Int × Int) → World → Prop), (∀ (c1 : Int) (c2 : Bool) (pre_ : List (Int × Int)), XR.Stab w9 (fun O_ w_ => I1 c1 c2 O_ pre_ w_)) ∧ (∀ (c3 : Bool) (c4 : Int) (c5 : Bool) (pre_ : List (Int × Int)), XR.Stab w9 (fun O_ w_ => X1 c3 c4 c5 O_ pre_ w_)) ∧ (∀ (O1 : List Nat) (w10 : World), Chg [] w9 w10 → XR.InO w9 O1 w10 → I1 0 true O1 ([]) w10) ∧ (∀ (l2 : Nat) (O1 : List Nat) (pre1 : List (Int × Int)) (x1 : Int) (x2 : Int) (c1 : Int) (c2 : Bool) (w10 : World), XR.InO w9 O1 w10 → l2 ∈ O1 → Sp1 (pre1 ++ [(x1, x2)]) → I1 c1 c2 O1 pre1 w10 → (∀ (w11 : World), Chg [l2] w10 w11 → (∃ (I2 : Int → World → Prop) (m1 : Int → World → Nat), I2 c1 w11 ∧ ∀ (c6 : Int) (w12 : World), I2 c6 w12 → ∃ J1 : Bool → World → Prop, (∀ (b5 : Bool) (w13 : World), J1 b5 w13 → (b5 = true → ∀ (w14 : World), Chg [b3] w13 w14 → ((I2 (IntKind.wrap .i64 (c6 + 1)) w14 ∧ m1 (IntKind.wrap .i64 (c6 + 1)) w14 < m1 c6 w12))) ∧ (b5 = false → ∃ J2 : Bool → World → Prop, (∀ (b6 : Bool) (w15 : World), J2 b6 w15 → ∃ J3 : Bool → World → Prop, (∀ (b7 : Bool) (w16 : World), J3 b7 w16 → ∃ J4 : Bool → World → Prop, (∀ (b8 : Bool) (w17 : World), J4 b8 w17 → ∀ (w19 : World), Chg [b4, b3] w17 w19 → (((decide ((IntKind.wrap .i64 (c6 + 1)) > (l1n : Int))) = true → ∀ (w20 : World), Chg [b2] w19 w20 → ((w11.heap.size ≤ w20.heap.size ∧ X1 false (IntKind.wrap .i64 (c6 + 1)) b8 O1 (pre1 ++ [(x1, x2)]) w20 ∧ Same w11 w20 (keep1 ++ O1)))) ∧ ((decide ((IntKind.wrap .i64 (c6 + 1)) > (l1n : Int))) = false → (w11.heap.size ≤ w19.heap.size ∧ I1 (IntKind.wrap .i64 (c6 + 1)) b8 O1 (pre1 ++ [(x1, x2)]) w19 ∧ Same w11 w19 (keep1 ++ O1))))) ∧ ((b7 = true → ∃ a2 : Addr, l1 = some a2 ∧ (0 : Int) ≤ (if (IntKind.wrap .i64 ((l1n : Int) - 1)) < c6 then (IntKind.wrap .i64 ((l1n : Int) - 1)) else c6) ∧ (if (IntKind.wrap .i64 ((l1n : Int) - 1)) < c6 then (IntKind.wrap .i64 ((l1n : Int) - 1)) else c6) < (l1n : Int) ∧ (∃ (t3 : Int), w16.cell? (a2.add (Int.toNat (if (IntKind.wrap .i64 ((l1n : Int) - 1)) < c6 then (IntKind.wrap .i64 ((l1n : Int) - 1)) else c6) * 1)) = some (.int .u32 t3) ∧ (J4 (t3 == x2) w16))) ∧ (b7 = false → J4 false w16))) ∧ ((b6 = true → J3 (x1 == c6) w15) ∧ (b6 = false → J3 false w15))) ∧ ((c2 = true → J2 (decide (c6 < (l1n : Int))) w13) ∧ (c2 = false → J2 false w13)))) ∧ (((decide (c6 < (l1n : Int))) = true → ∃ a1 : Addr, l1 = some a1 ∧ (0 : Int) ≤ c6 ∧ c6 < (l1n : Int) ∧ (∃ (t2 : Int), w12.cell? (a1.add (Int.toNat c6 * 1)) = some (.int .u32 t2) ∧ (J1 (t2 == 0) w12))) ∧ ((decide (c6 < (l1n : Int))) = false → J1 false w12))))) ∧ (∀ (d1 : Nat) (O2 : List Nat) (xs1 : List (Int × Int)) (c1 : Int) (c2 : Bool) (w21 : World), XR.InO w9 O2 w21 → d1 ∈ O2 → S1 xs1 → I1 c1 c2 O2 xs1 w21 → (∃ (I3 : Int → World → Prop) (m2 : Int → World → Nat), I3 c1 w21 ∧ ∀ (c7 : Int) (w22 : World), I3 c7 w22 → ∃ J5 : Bool → World → Prop, (∀ (b9 : Bool) (w23 : World), J5 b9 w23 → (b9 = true → ∀ (w24 : World), Chg [b3] w23 w24 → ((I3 (IntKind.wrap .i64 (c7 + 1)) w24 ∧ m2 (IntKind.wrap .i64 (c7 + 1)) w24 < m2 c7 w22))) ∧ (b9 = false → ∃ (I4 : Int → Bool → World → Prop) (m3 : Int → Bool → World → Nat), I4 (-1) c2 w23 ∧ ∀ (p1 : Int) (c8 : Bool) (w25 : World), I4 p1 c8 w25 → ((decide (p1 ≤ (IntKind.wrap .i64 (Int.tdiv (l1n : Int) 64)))) = true → ∀ (w26 : World), Chg [] w25 w26 → (∃ J6 : Bool → World → Prop, (∀ (b10 : Bool) (w27 : World), J6 b10 w27 → ∀ (w30 : World), Chg [b4] w27 w30 → ((I4 (IntKind.wrap .i64 (p1 + 1)) b10 w30 ∧ m3 (IntKind.wrap .i64 (p1 + 1)) b10 w30 < m3 p1 c8 w25))) ∧ ((c8 = true → Calls Try.prog 56 #[.pointer s1, .int .i64 p1] w26 fun e w28 => ∃ (r4 : Bool), e = .returned (.bool r4) ∧ (Same w26 w28 [b1, b2, b3, b4, d1] ∧ (Calls Try.prog 84 #[.slice l1 l1n l1c, .int .i64 p1] w28 fun e w29 => ∃ (r5 : Bool), e = .returned (.bool r5) ∧ (Same w28 w29 [b1, b2, b3, b4, d1] ∧ (J6 (r4 == r5) w29))))) ∧ (c8 = false → J6 false w26)))) ∧ ((decide (p1 ≤ (IntKind.wrap .i64 (Int.tdiv (l1n : Int) 64)))) = false → ∀ (w31 : World), Chg [] w25 w31 → (∃ J7 : Bool → World → Prop, (∀ (b11 : Bool) (w32 : World), J7 b11 w32 → ∃ J8 : Bool → World → Prop, (∀ (b12 : Bool) (w33 : World), J8 b12 w33 → ∃ J9 : Bool → World → Prop, (∀ (b13 : Bool) (w36 : World), J9 b13 w36 → ∀ (w38 : World), Chg [b2] w36 w38 → (∀ w39 : World, Chg [d1] w38 w39 → (R b13 w39))) ∧ ((b12 = true → Calls Try.prog 54 #[.pointer s1] w33 fun e w37 => ∃ (r8 : Int), e = .returned (.int .i64 r8) ∧ (Same w33 w37 [b1, b2, b3, b4, d1] ∧ (J9 (r8 == (l1n : Int)) w37))) ∧ (b12 = false → J9 false w33))) ∧ ((b11 = true → Calls Try.prog 55 #[.pointer s1] w32 fun e w34 => ∃ (r6 : Int), e = .returned (.int .i64 r6) ∧ (Same w32 w34 [b1, b2, b3, b4, d1] ∧ (Calls Try.prog 61 #[.slice l1 l1n l1c] w34 fun e w35 => ∃ (r7 : Int), e = .returned (.int .i64 r7) ∧ (Same w34 w35 [b1, b2, b3, b4, d1] ∧ (J8 (r6 == r7) w35))))) ∧ (b11 = false → J8 false w32))) ∧ ((c8 = true → J7 (c7 == (l1n : Int)) w31) ∧ (c8 = false → J7 false w31)))))) ∧ (((decide (c7 < (l1n : Int))) = true → ∃ a3 : Addr, l1 = some a3 ∧ (0 : Int) ≤ c7 ∧ c7 < (l1n : Int) ∧ (∃ (t4 : Int), w22.cell? (a3.add (Int.toNat c7 * 1)) = some (.int .u32 t4) ∧ (J5 (t4 == 0) w22))) ∧ ((decide (c7 < (l1n : Int))) = false → J5 false w22)))) ∧ (∀ (d2 : Nat) (O3 : List Nat) (xs2 : List (Int × Int)) (c3 : Bool) (c4 : Int) (c5 : Bool) (w40 : World), XR.InO w9 O3 w40 → d2 ∈ O3 → Sp1 xs2 → X1 c3 c4 c5 O3 xs2 w40 → (∀ w41 : World, Chg [d2] w40 w41 → (R c3 w41))))))))))
set_option maxRecDepth 100000 in
theorem go_pomanderlaw03_is (s1 : Option Addr) (l1 : Option Addr) (l1n : Nat) (l1c : Nat) (w : World) (R : Bool → World → Prop) (h : W_pomanderlaw03_is s1 l1 l1n l1c w R) : Calls Try.prog 45 #[.pointer s1, .slice l1 l1n l1c] w (fun e w' => ∃ (r1 : Bool), e = .returned (.bool r1) ∧ R r1 w') := by
  unfold W_pomanderlaw03_is at h
  refine XR.enterM (N := 111) Try.func45 rfl rfl ?_
  refine CW.seq ?_
  refine CW.region fun L hL => ?_
  obtain ⟨b1, hb_b1⟩ : ∃ b1, b1 = World.size w := ⟨_, rfl⟩
  obtain ⟨w1, hw_w1⟩ : ∃ w1, w1 = World.alloc w (.cells #[.slice l1 l1n l1c] 31) := ⟨_, rfl⟩
  refine LW.val hL rfl (Wants.free rfl) rfl (boxE hb_b1 hw_w1 (Vl.box (v := .slice l1 l1n l1c) rfl)) ?_
  have hB := Boxes.alloc (cs := [.slice l1 l1n l1c]) (T := 31) (Boxes.nil w) hb_b1 hw_w1
  have hlo_b1 := sil_lo (Chg.refl [] w) hb_b1
  have hc_w1 := sil_alloc (Chg.refl [] w) hw_w1
  obtain ⟨b2, hb_b2⟩ : ∃ b2, b2 = World.size w1 := ⟨_, rfl⟩
  obtain ⟨w2, hw_w2⟩ : ∃ w2, w2 = World.alloc w1 (.cells #[.bool false] 4) := ⟨_, rfl⟩
  refine LW.val hL rfl (Wants.free rfl) rfl (boxE hb_b2 hw_w2 (Vl.alloc (z := .bool false) (by kernel_rfl))) ?_
  replace hB := Boxes.alloc (cs := [.bool false]) (T := 4) hB hb_b2 hw_w2
  have hlo_b2 := sil_lo hc_w1 hb_b2
  have hc_w2 := sil_alloc hc_w1 hw_w2
  refine LW.nil hL rfl ?_
  refine NW.then ?_
  refine CW.seq ?_
  refine CW.region fun L hL => ?_
  obtain ⟨b3, hb_b3⟩ : ∃ b3, b3 = World.size w2 := ⟨_, rfl⟩
  obtain ⟨w3, hw_w3⟩ : ∃ w3, w3 = World.alloc w2 (.cells #[.int .i64 0] 3) := ⟨_, rfl⟩
  refine LW.val hL rfl (Wants.free rfl) rfl (boxE hb_b3 hw_w3 (Vl.alloc (z := .int .i64 0) (by kernel_rfl))) ?_
  replace hB := Boxes.alloc (cs := [.int .i64 0]) (T := 3) hB hb_b3 hw_w3
  have hlo_b3 := sil_lo hc_w2 hb_b3
  have hc_w3 := sil_alloc hc_w2 hw_w3
  obtain ⟨w4, hw_w4⟩ : ∃ x, x = World.setCell w3 (⟨b3, 0, none⟩ : Addr) (.int .i64 0) := ⟨_, rfl⟩
  refine LW.eff hL rfl (Wants.free rfl) rfl (stE hw_w4 (Ef.st rfl rfl rfl (by kernel_rfl) (box_cell (v := .int .i64 0) (hB.at (i := 0) rfl) rfl) (free_of (hB.at (i := 0) rfl) 0))) ?_
  replace hB : Boxes w4 [(b3, [.int .i64 0], 3), (b2, [.bool false], 4), (b1, [.slice l1 l1n l1c], 31)] := Boxes.store1  (i := 0) (o := 0) hB rfl rfl rfl rfl hw_w4
  have hc_w4 := sil_new hc_w3 (sil_c1 hw_w4) hlo_b3
  refine LW.nil hL rfl ?_
  refine NW.then ?_
  refine CW.seq ?_
  refine CW.region fun L hL => ?_
  obtain ⟨b4, hb_b4⟩ : ∃ b4, b4 = World.size w4 := ⟨_, rfl⟩
  obtain ⟨w5, hw_w5⟩ : ∃ w5, w5 = World.alloc w4 (.cells #[.bool false] 4) := ⟨_, rfl⟩
  refine LW.val hL rfl (Wants.free rfl) rfl (boxE hb_b4 hw_w5 (Vl.alloc (z := .bool false) (by kernel_rfl))) ?_
  replace hB := Boxes.alloc (cs := [.bool false]) (T := 4) hB hb_b4 hw_w5
  have hlo_b4 := sil_lo hc_w4 hb_b4
  have hc_w5 := sil_alloc hc_w4 hw_w5
  obtain ⟨w6, hw_w6⟩ : ∃ x, x = World.setCell w5 (⟨b4, 0, none⟩ : Addr) (.bool true) := ⟨_, rfl⟩
  refine LW.eff hL rfl (Wants.free rfl) rfl (stE hw_w6 (Ef.st rfl rfl rfl (by kernel_rfl) (box_cell (v := .bool false) (hB.at (i := 0) rfl) rfl) (free_of (hB.at (i := 0) rfl) 0))) ?_
  replace hB : Boxes w6 [(b4, [.bool true], 4), (b3, [.int .i64 0], 3), (b2, [.bool false], 4), (b1, [.slice l1 l1n l1c], 31)] := Boxes.store1  (i := 0) (o := 0) hB rfl rfl rfl rfl hw_w6
  have hc_w6 := sil_new hc_w5 (sil_c1 hw_w6) hlo_b4
  refine LW.nil hL rfl ?_
  refine NW.then ?_
  refine CW.seq ?_
  refine CW.seq ?_
  refine CW.region fun L hL => ?_
  refine LW.rd hL rfl (Wants.free rfl) rfl (Rd.move (v := .pointer s1) rfl) ?_
  replace h := h b4 b3 b2 b1 w6 ⟨hlo_b4, lt_of_heap (hB.at (i := 0) rfl)⟩ ⟨hlo_b3, lt_of_heap (hB.at (i := 1) rfl)⟩ ⟨hlo_b2, lt_of_heap (hB.at (i := 2) rfl)⟩ ⟨hlo_b1, lt_of_heap (hB.at (i := 3) rfl)⟩ hc_w6
  refine LW.call hL rfl (Wants.free rfl) rfl (Cl.fn (f := 50) rfl Try.func50 (by kernel_rfl) rfl) h (fun e w7 h_ => ?_)
  clear h
  obtain ⟨r2, rfl, h⟩ := h_
  obtain ⟨hsm1, h⟩ := h
  replace hB := Boxes.sameS hB hsm1 (by simp)
  refine ⟨_, rfl, ?_⟩
  obtain ⟨t1, hx1, h⟩ := h
  refine LW.rd hL rfl (Wants.free rfl) rfl (Rd.bin (v := .bool t1) rfl rfl hx1) ?_
  refine LW.nil hL rfl ?_
  refine NW.then ?_
  refine CW.cond rfl (fun hb1 => ?_) (fun hb1 => ?_)
  · replace h := h.1 hb1
    refine CW.seq ?_
    refine CW.region fun L hL => ?_
    obtain ⟨w8, hw_w8⟩ : ∃ x, x = World.setCell w7 (⟨b2, 0, none⟩ : Addr) (.bool false) := ⟨_, rfl⟩
    refine LW.eff hL rfl (Wants.free rfl) rfl (stE hw_w8 (Ef.st rfl rfl rfl (by kernel_rfl) (box_cell (v := .bool false) (hB.at (i := 2) rfl) rfl) (free_of (hB.at (i := 2) rfl) 0))) ?_
    replace hB : Boxes w8 [(b4, [.bool true], 4), (b3, [.int .i64 0], 3), (b2, [.bool false], 4), (b1, [.slice l1 l1n l1c], 31)] := Boxes.store1  (i := 2) (o := 0) hB rfl rfl rfl rfl hw_w8
    have hc_w8 : Chg [b2] w7 w8 := sil_more (Chg.refl [] w7) (sil_c1 hw_w8)
    refine LW.nil hL rfl ?_
    refine NW.then ?_
    replace h := h  w8  hc_w8
    refine CW.ret ?_
    refine RW.then ?_
    exact XR.res0M (vs := [.bool false]) (by exact (ResOK.c rfl (lv1 (by kernel_rfl) (box_cell (Boxes.at (i := 2) hB rfl) rfl)) ResOK.nil)) rfl ⟨false, rfl, h⟩
  · replace h := h.2 hb1
    refine CW.skip ?_
    refine NW.then ?_
    refine CW.seq ?_
    refine CW.seq ?_
    refine CW.region fun L hL => ?_
    refine LW.rd hL rfl (Wants.free rfl) rfl (Rd.move (v := .pointer s1) rfl) ?_
    refine LW.call hL rfl (Wants.free rfl) rfl (Cl.fn (f := 50) rfl Try.func50 (by kernel_rfl) rfl) h (fun e w9 h_ => ?_)
    clear h
    obtain ⟨r3, rfl, h⟩ := h_
    obtain ⟨hsm2, h⟩ := h
    replace hB := Boxes.sameS hB hsm2 (by simp)
    refine ⟨_, rfl, ?_⟩
    refine LW.nil hL rfl ?_
    refine NW.then ?_
    refine CW.block ?_
    obtain ⟨S1, Sp1, keep1, hfn_, hit_, hkp_, I1, X1, hst_I1, hst_X1, h0_, hrd_, hdn_, hso_X1⟩ := h
    refine XR.CW.rangeV (α := Int × Int) (enc := (fun x : Int × Int => #[.int .i64 x.1, .int .u32 x.2])) (S := S1) (Sp := Sp1) (keep := keep1) rfl hfn_ (fun _ => rfl) (by decide) hit_ (fun (O_ : List Nat) (pre_ : List (Int × Int)) (w_ : World) => ∃ (c1 : Int) (c2 : Bool), I1 c1 c2 O_ pre_ w_ ∧ ∃ (u1 : Value), Boxes w_ [(b1, [.slice l1 l1n l1c], 31), (b2, [u1], 4), (b3, [.int .i64 c1], 3), (b4, [.bool c2], 4)]) (fun (c_ : Code) (O_ : List Nat) (pre_ : List (Int × Int)) (w_ : World) => (c_ = Code.ret ∧ ∃ (c3 : Bool) (c4 : Int) (c5 : Bool), X1 c3 c4 c5 O_ pre_ w_ ∧ Boxes w_ [(b1, [.slice l1 l1n l1c], 31), (b2, [.bool c3], 4), (b3, [.int .i64 c4], 3), (b4, [.bool c5], 4)])) ?_ ?_ ?_ hkp_ ?_ ?_ ?_
    · intro pre_ O_ O2_ A_ B_ hi_ hO_ hc_ hO2_ hg_
      have hB0_ := (hB.sel [3, 2, 1, 0] (by decide) rfl)
      obtain ⟨c1, c2, hi_, u1, hB⟩ := hi_
      exact ⟨c1, c2, hst_I1 c1 c2 pre_ O_ O2_ A_ B_ hi_ hO_ hc_ hO2_ hg_, u1, hB.stab hB0_ rfl hO_ hc_⟩
    · intro c_ pre_ O_ O2_ A_ B_ hi_ hO_ hc_ hO2_ hg_
      have hB0_ := (hB.sel [3, 2, 1, 0] (by decide) rfl)
      rcases hi_ with ⟨hcc_, c3, c4, c5, hi_, hB⟩
      · exact ⟨hcc_, c3, c4, c5, hst_X1 c3 c4 c5 pre_ O_ O2_ A_ B_ hi_ hO_ hc_ hO2_ hg_, hB.stab hB0_ rfl hO_ hc_⟩
    · intro O_ A_ hc_ hO_
      exact ⟨0, true, h0_ O_ A_ hc_ hO_, .bool false, Boxes.chg (hB.sel [3, 2, 1, 0] (by decide) rfl) hc_ (by simp)⟩
    · intro l2 O1 pre1 x_ w10 hO_ hl_ hSp_ hi_
      obtain ⟨x1, x2⟩ := x_
      obtain ⟨c1, c2, hi_, u1, hB⟩ := hi_
      have h := hrd_ l2 O1 pre1 x1 x2 c1 c2 w10 hO_ hl_ hSp_ hi_
      refine XR.CW.seq ?_
      refine XR.CW.region fun L hL => ?_
      refine XR.LW.rd hL rfl (Wants.free rfl) rfl (Rd.assign (v := .int .i64 x1) rfl) ?_
      refine XR.LW.nil hL rfl ?_
      refine XR.NW.then ?_
      refine XR.CW.region fun L hL => ?_
      refine XR.LW.rd hL rfl (Wants.free rfl) rfl (Rd.assign (v := .int .u32 x2) rfl) ?_
      refine XR.LW.nil hL rfl ?_
      refine XR.NW.begin (Chg.refl [] w10) (fun w11 hcb_w11 hlp_ hib_ => ?_)
      have hc_w11 : Chg [l2] w10 w11 := sil_more (Chg.refl [] w10) hcb_w11
      replace hB := hB.notloop hlp_ hcb_w11
      replace h := h  w11  hc_w11
      refine XR.CW.block ?_
      refine XR.CW.seq ?_
      refine XR.CW.block ?_
      obtain ⟨I2, m1, hI2, h⟩ := h
      refine XR.CW.loop (S := Int) (fun c6 => [(0, .pointer s1), (3, .pointer (some (⟨b1, 0, none⟩ : Addr))), (4, .pointer (some (⟨b2, 0, none⟩ : Addr))), (5, .pointer (some (⟨b3, 0, none⟩ : Addr))), (6, .pointer (some (⟨b4, 0, none⟩ : Addr))), (7, .int .i64 x1), (8, .int .u32 x2), (15, .int .i64 x1), (16, .int .u32 x2)]) (fun c6 w12 => I2 c6 w12 ∧ Boxes w12 [(b1, [.slice l1 l1n l1c], 31), (b2, [u1], 4), (b3, [.int .i64 c6], 3), (b4, [.bool c2], 4)]) (fun c6 w12 => m1 c6 w12) c1 (by exact ⟨rfl, rfl, rfl, rfl, rfl, rfl, rfl, rfl, rfl, trivial⟩) ⟨hI2, hB⟩ (fun c6 w12 hI2 => ?_)
      obtain ⟨hI2, hB⟩ := hI2
      replace h := h c6 w12 hI2
      refine XR.CW.seq ?_
      refine XR.CW.seq ?_
      refine XR.CW.region fun L hL => ?_
      refine XR.LW.rd hL rfl (Wants.free rfl) rfl (Rd.ld (v := .int .i64 c6) rfl (by kernel_rfl) (eqs (box_cell (hB.at (i := 2) rfl) rfl))) ?_
      refine XR.LW.rd hL rfl (Wants.free rfl) rfl (Rd.ld (v := .slice l1 l1n l1c) rfl (by kernel_rfl) (eqs (box_cell (hB.at (i := 0) rfl) rfl))) ?_
      refine XR.LW.rd hL rfl (Wants.free rfl) rfl (Rd.builtin (v := .int .i64 (l1n : Int)) rfl (fun _ _ => by kernel_rfl)) ?_
      refine XR.LW.rd hL rfl (Wants.free rfl) rfl (Rd.bin (v := .bool (decide (c6 < (l1n : Int)))) rfl rfl (fun w => by kernel_rfl)) ?_
      refine XR.LW.rd hL rfl (Wants.free rfl) rfl (Rd.move (v := .bool (decide (c6 < (l1n : Int)))) rfl) ?_
      obtain ⟨J1, hJ1, h1_J1, h0_J1⟩ := h
      suffices K1 : ∀ (b5 : Bool) (w13 : World), Boxes w13 [(b1, [.slice l1 l1n l1c], 31), (b2, [u1], 4), (b3, [.int .i64 c6], 3), (b4, [.bool c2], 4)] → J1 b5 w13 → L 11 [(0, .pointer s1), (3, .pointer (some (⟨b1, 0, none⟩ : Addr))), (4, .pointer (some (⟨b2, 0, none⟩ : Addr))), (5, .pointer (some (⟨b3, 0, none⟩ : Addr))), (6, .pointer (some (⟨b4, 0, none⟩ : Addr))), (7, .int .i64 x1), (8, .int .u32 x2), (15, .int .i64 x1), (16, .int .u32 x2), (27, .bool b5)] w13 by
        rcases Bool.eq_false_or_eq_true (decide (c6 < (l1n : Int))) with hb2 | hb2
        · have h := h1_J1 hb2
          refine XR.LW.rd hL rfl (Wants.on rfl rfl rfl rfl rfl hb2) rfl (Rd.ld (v := .slice l1 l1n l1c) rfl (by kernel_rfl) (eqs (box_cell (hB.at (i := 0) rfl) rfl))) ?_
          refine XR.LW.rd hL rfl (Wants.on rfl rfl rfl rfl rfl hb2) rfl (Rd.ld (v := .int .i64 c6) rfl (by kernel_rfl) (eqs (box_cell (hB.at (i := 2) rfl) rfl))) ?_
          obtain ⟨a1, he1, hi1, hi2, h⟩ := h
          refine XR.LW.rd hL rfl (Wants.on rfl rfl rfl rfl rfl hb2) rfl (Rd.iaS (q := a1) (sz := 1) (by rw [← he1]; rfl) rfl Try.underlying31 (by kernel_rfl) hi1 hi2) ?_
          obtain ⟨t2, hc1, h⟩ := h
          refine XR.LW.rd hL rfl (Wants.on rfl rfl rfl rfl rfl hb2) rfl (Rd.ld (v := .int .u32 t2) rfl (by kernel_rfl) (eqs hc1)) ?_
          refine XR.LW.rd hL rfl (Wants.on rfl rfl rfl rfl rfl hb2) rfl (Rd.bin (v := .bool (t2 == 0)) rfl rfl (fun w => by kernel_rfl)) ?_
          refine XR.LW.rd hL rfl (Wants.free rfl) rfl (Rd.pickT rfl hb2 rfl) ?_
          exact XR.LW.sub hL (by exact ⟨rfl, rfl, rfl, rfl, rfl, rfl, rfl, rfl, rfl, rfl, trivial⟩) (K1 (t2 == 0) w12 (by exact hB) h)
        · have h := h0_J1 hb2
          refine XR.LW.skip hL rfl (Skips.on rfl rfl rfl rfl rfl hb2) rfl ?_
          refine XR.LW.skip hL rfl (Skips.on rfl rfl rfl rfl rfl hb2) rfl ?_
          refine XR.LW.skip hL rfl (Skips.on rfl rfl rfl rfl rfl hb2) rfl ?_
          refine XR.LW.skip hL rfl (Skips.on rfl rfl rfl rfl rfl hb2) rfl ?_
          refine XR.LW.skip hL rfl (Skips.on rfl rfl rfl rfl rfl hb2) rfl ?_
          refine XR.LW.rd hL rfl (Wants.free rfl) rfl (Rd.pickF rfl hb2 rfl) ?_
          exact XR.LW.sub hL (by exact ⟨rfl, rfl, rfl, rfl, rfl, rfl, rfl, rfl, rfl, rfl, trivial⟩) (K1 false w12 (by exact hB) h)
      intro b5 w13 hB h_
      have h := hJ1 b5 w13 h_; clear h_
      refine XR.LW.nil hL rfl ?_
      refine XR.NW.then ?_
      refine XR.CW.cond rfl (fun hb3 => ?_) (fun hb3 => ?_)
      · replace h := h.1 hb3
        refine XR.CW.skip ?_
        refine XR.NW.then ?_
        refine XR.CW.block ?_
        refine XR.CW.region fun L hL => ?_
        refine XR.LW.rd hL rfl (Wants.free rfl) rfl (Rd.ld (v := .int .i64 c6) rfl (by kernel_rfl) (eqs (box_cell (hB.at (i := 2) rfl) rfl))) ?_
        refine XR.LW.rd hL rfl (Wants.free rfl) rfl (Rd.bin (v := .int .i64 (IntKind.wrap .i64 (c6 + 1))) rfl rfl (fun w => by kernel_rfl)) ?_
        obtain ⟨w14, hw_w14⟩ : ∃ x, x = World.setCell w13 (⟨b3, 0, none⟩ : Addr) (.int .i64 (IntKind.wrap .i64 (c6 + 1))) := ⟨_, rfl⟩
        refine XR.LW.eff hL rfl (Wants.free rfl) rfl (stE hw_w14 (Ef.st rfl rfl rfl (by kernel_rfl) (box_cell (v := .int .i64 c6) (hB.at (i := 2) rfl) rfl) (free_of (hB.at (i := 2) rfl) 0))) ?_
        replace hB : Boxes w14 [(b1, [.slice l1 l1n l1c], 31), (b2, [u1], 4), (b3, [.int .i64 (IntKind.wrap .i64 (c6 + 1))], 3), (b4, [.bool c2], 4)] := Boxes.store1  (i := 2) (o := 0) hB rfl rfl rfl rfl hw_w14
        have hc_w14 : Chg [b3] w13 w14 := sil_more (Chg.refl [] w13) (sil_c1 hw_w14)
        refine XR.LW.nil hL rfl ?_
        refine NW.block ?_
        replace h := h  w14  hc_w14
        exact NW.loop (S := Int) (Ek := fun c6 => [(0, .pointer s1), (3, .pointer (some (⟨b1, 0, none⟩ : Addr))), (4, .pointer (some (⟨b2, 0, none⟩ : Addr))), (5, .pointer (some (⟨b3, 0, none⟩ : Addr))), (6, .pointer (some (⟨b4, 0, none⟩ : Addr))), (7, .int .i64 x1), (8, .int .u32 x2), (15, .int .i64 x1), (16, .int .u32 x2)]) (IntKind.wrap .i64 (c6 + 1)) (by exact ⟨rfl, rfl, rfl, rfl, rfl, rfl, rfl, rfl, rfl, trivial⟩) ⟨⟨h.1, hB⟩, h.2⟩
      · replace h := h.2 hb3
        refine XR.CW.exit ?_
        refine XW.then ?_
        refine XW.then ?_
        refine XW.hit ?_
        refine XR.NW.then ?_
        refine XR.CW.seq ?_
        refine XR.CW.region fun L hL => ?_
        refine XR.LW.rd hL rfl (Wants.free rfl) rfl (Rd.ld (v := .bool c2) rfl (by kernel_rfl) (eqs (box_cell (hB.at (i := 3) rfl) rfl))) ?_
        refine XR.LW.rd hL rfl (Wants.free rfl) rfl (Rd.move (v := .bool c2) rfl) ?_
        obtain ⟨J2, hJ2, h1_J2, h0_J2⟩ := h
        suffices K2 : ∀ (b6 : Bool) (w15 : World), Boxes w15 [(b1, [.slice l1 l1n l1c], 31), (b2, [u1], 4), (b3, [.int .i64 c6], 3), (b4, [.bool c2], 4)] → J2 b6 w15 → L 7 [(0, .pointer s1), (3, .pointer (some (⟨b1, 0, none⟩ : Addr))), (4, .pointer (some (⟨b2, 0, none⟩ : Addr))), (5, .pointer (some (⟨b3, 0, none⟩ : Addr))), (6, .pointer (some (⟨b4, 0, none⟩ : Addr))), (7, .int .i64 x1), (8, .int .u32 x2), (15, .int .i64 x1), (16, .int .u32 x2), (36, .bool b6)] w15 by
          rcases Bool.eq_false_or_eq_true c2 with hb4 | hb4
          · have h := h1_J2 hb4
            refine XR.LW.rd hL rfl (Wants.on rfl rfl rfl rfl rfl hb4) rfl (Rd.ld (v := .int .i64 c6) rfl (by kernel_rfl) (eqs (box_cell (hB.at (i := 2) rfl) rfl))) ?_
            refine XR.LW.rd hL rfl (Wants.on rfl rfl rfl rfl rfl hb4) rfl (Rd.ld (v := .slice l1 l1n l1c) rfl (by kernel_rfl) (eqs (box_cell (hB.at (i := 0) rfl) rfl))) ?_
            refine XR.LW.rd hL rfl (Wants.on rfl rfl rfl rfl rfl hb4) rfl (Rd.builtin (v := .int .i64 (l1n : Int)) rfl (fun _ _ => by kernel_rfl)) ?_
            refine XR.LW.rd hL rfl (Wants.on rfl rfl rfl rfl rfl hb4) rfl (Rd.bin (v := .bool (decide (c6 < (l1n : Int)))) rfl rfl (fun w => by kernel_rfl)) ?_
            refine XR.LW.rd hL rfl (Wants.free rfl) rfl (Rd.pickT rfl hb4 rfl) ?_
            exact XR.LW.sub hL (by exact ⟨rfl, rfl, rfl, rfl, rfl, rfl, rfl, rfl, rfl, rfl, trivial⟩) (K2 (decide (c6 < (l1n : Int))) w13 (by exact hB) h)
          · have h := h0_J2 hb4
            refine XR.LW.skip hL rfl (Skips.on rfl rfl rfl rfl rfl hb4) rfl ?_
            refine XR.LW.skip hL rfl (Skips.on rfl rfl rfl rfl rfl hb4) rfl ?_
            refine XR.LW.skip hL rfl (Skips.on rfl rfl rfl rfl rfl hb4) rfl ?_
            refine XR.LW.skip hL rfl (Skips.on rfl rfl rfl rfl rfl hb4) rfl ?_
            refine XR.LW.rd hL rfl (Wants.free rfl) rfl (Rd.pickF rfl hb4 rfl) ?_
            exact XR.LW.sub hL (by exact ⟨rfl, rfl, rfl, rfl, rfl, rfl, rfl, rfl, rfl, rfl, trivial⟩) (K2 false w13 (by exact hB) h)
        intro b6 w15 hB h_
        have h := hJ2 b6 w15 h_; clear h_
        refine XR.LW.rd hL rfl (Wants.free rfl) rfl (Rd.move (v := .bool b6) rfl) ?_
        obtain ⟨J3, hJ3, h1_J3, h0_J3⟩ := h
        suffices K3 : ∀ (b7 : Bool) (w16 : World), Boxes w16 [(b1, [.slice l1 l1n l1c], 31), (b2, [u1], 4), (b3, [.int .i64 c6], 3), (b4, [.bool c2], 4)] → J3 b7 w16 → L 12 [(0, .pointer s1), (3, .pointer (some (⟨b1, 0, none⟩ : Addr))), (4, .pointer (some (⟨b2, 0, none⟩ : Addr))), (5, .pointer (some (⟨b3, 0, none⟩ : Addr))), (6, .pointer (some (⟨b4, 0, none⟩ : Addr))), (8, .int .u32 x2), (15, .int .i64 x1), (16, .int .u32 x2), (41, .bool b7)] w16 by
          rcases Bool.eq_false_or_eq_true b6 with hb5 | hb5
          · have h := h1_J3 hb5
            refine XR.LW.rd hL rfl (Wants.on rfl rfl rfl rfl rfl hb5) rfl (Rd.move (v := .int .i64 x1) rfl) ?_
            refine XR.LW.rd hL rfl (Wants.on rfl rfl rfl rfl rfl hb5) rfl (Rd.ld (v := .int .i64 c6) rfl (by kernel_rfl) (eqs (box_cell (hB.at (i := 2) rfl) rfl))) ?_
            refine XR.LW.rd hL rfl (Wants.on rfl rfl rfl rfl rfl hb5) rfl (Rd.bin (v := .bool (x1 == c6)) rfl rfl (fun w => by kernel_rfl)) ?_
            refine XR.LW.rd hL rfl (Wants.free rfl) rfl (Rd.pickT rfl hb5 rfl) ?_
            exact XR.LW.sub hL (by exact ⟨rfl, rfl, rfl, rfl, rfl, rfl, rfl, rfl, rfl, trivial⟩) (K3 (x1 == c6) w15 (by exact hB) h)
          · have h := h0_J3 hb5
            refine XR.LW.skip hL rfl (Skips.on rfl rfl rfl rfl rfl hb5) rfl ?_
            refine XR.LW.skip hL rfl (Skips.on rfl rfl rfl rfl rfl hb5) rfl ?_
            refine XR.LW.skip hL rfl (Skips.on rfl rfl rfl rfl rfl hb5) rfl ?_
            refine XR.LW.rd hL rfl (Wants.free rfl) rfl (Rd.pickF rfl hb5 rfl) ?_
            exact XR.LW.sub hL (by exact ⟨rfl, rfl, rfl, rfl, rfl, rfl, rfl, rfl, rfl, trivial⟩) (K3 false w15 (by exact hB) h)
        intro b7 w16 hB h_
        have h := hJ3 b7 w16 h_; clear h_
        refine XR.LW.rd hL rfl (Wants.free rfl) rfl (Rd.move (v := .bool b7) rfl) ?_
        obtain ⟨J4, hJ4, h1_J4, h0_J4⟩ := h
        suffices K4 : ∀ (b8 : Bool) (w17 : World), Boxes w17 [(b1, [.slice l1 l1n l1c], 31), (b2, [u1], 4), (b3, [.int .i64 c6], 3), (b4, [.bool c2], 4)] → J4 b8 w17 → L 24 [(0, .pointer s1), (3, .pointer (some (⟨b1, 0, none⟩ : Addr))), (4, .pointer (some (⟨b2, 0, none⟩ : Addr))), (5, .pointer (some (⟨b3, 0, none⟩ : Addr))), (6, .pointer (some (⟨b4, 0, none⟩ : Addr))), (15, .int .i64 x1), (16, .int .u32 x2), (53, .bool b8)] w17 by
          rcases Bool.eq_false_or_eq_true b7 with hb6 | hb6
          · have h := h1_J4 hb6
            refine XR.LW.rd hL rfl (Wants.on rfl rfl rfl rfl rfl hb6) rfl (Rd.ld (v := .slice l1 l1n l1c) rfl (by kernel_rfl) (eqs (box_cell (hB.at (i := 0) rfl) rfl))) ?_
            refine XR.LW.rd hL rfl (Wants.on rfl rfl rfl rfl rfl hb6) rfl (Rd.ld (v := .int .i64 c6) rfl (by kernel_rfl) (eqs (box_cell (hB.at (i := 2) rfl) rfl))) ?_
            refine XR.LW.rd hL rfl (Wants.on rfl rfl rfl rfl rfl hb6) rfl (Rd.ld (v := .slice l1 l1n l1c) rfl (by kernel_rfl) (eqs (box_cell (hB.at (i := 0) rfl) rfl))) ?_
            refine XR.LW.rd hL rfl (Wants.on rfl rfl rfl rfl rfl hb6) rfl (Rd.builtin (v := .int .i64 (l1n : Int)) rfl (fun _ _ => by kernel_rfl)) ?_
            refine XR.LW.rd hL rfl (Wants.on rfl rfl rfl rfl rfl hb6) rfl (Rd.bin (v := .int .i64 (IntKind.wrap .i64 ((l1n : Int) - 1))) rfl rfl (fun w => by kernel_rfl)) ?_
            refine XR.LW.rd hL rfl (Wants.on rfl rfl rfl rfl rfl hb6) rfl (Rd.builtin (v := .int .i64 (if (IntKind.wrap .i64 ((l1n : Int) - 1)) < c6 then (IntKind.wrap .i64 ((l1n : Int) - 1)) else c6)) rfl (fun _ _ => valB (minI _ _ _ _ _ _))) ?_
            obtain ⟨a2, he2, hi3, hi4, h⟩ := h
            refine XR.LW.rd hL rfl (Wants.on rfl rfl rfl rfl rfl hb6) rfl (Rd.iaS (q := a2) (sz := 1) (by rw [← he2]; rfl) rfl Try.underlying31 (by kernel_rfl) hi3 hi4) ?_
            obtain ⟨t3, hc2, h⟩ := h
            refine XR.LW.rd hL rfl (Wants.on rfl rfl rfl rfl rfl hb6) rfl (Rd.ld (v := .int .u32 t3) rfl (by kernel_rfl) (eqs hc2)) ?_
            refine XR.LW.rd hL rfl (Wants.on rfl rfl rfl rfl rfl hb6) rfl (Rd.move (v := .int .u32 x2) rfl) ?_
            refine XR.LW.rd hL rfl (Wants.on rfl rfl rfl rfl rfl hb6) rfl (Rd.bin (v := .bool (t3 == x2)) rfl rfl (fun w => by kernel_rfl)) ?_
            refine XR.LW.rd hL rfl (Wants.free rfl) rfl (Rd.pickT rfl hb6 rfl) ?_
            exact XR.LW.sub hL (by exact ⟨rfl, rfl, rfl, rfl, rfl, rfl, rfl, rfl, trivial⟩) (K4 (t3 == x2) w16 (by exact hB) h)
          · have h := h0_J4 hb6
            refine XR.LW.skip hL rfl (Skips.on rfl rfl rfl rfl rfl hb6) rfl ?_
            refine XR.LW.skip hL rfl (Skips.on rfl rfl rfl rfl rfl hb6) rfl ?_
            refine XR.LW.skip hL rfl (Skips.on rfl rfl rfl rfl rfl hb6) rfl ?_
            refine XR.LW.skip hL rfl (Skips.on rfl rfl rfl rfl rfl hb6) rfl ?_
            refine XR.LW.skip hL rfl (Skips.on rfl rfl rfl rfl rfl hb6) rfl ?_
            refine XR.LW.skip hL rfl (Skips.on rfl rfl rfl rfl rfl hb6) rfl ?_
            refine XR.LW.skip hL rfl (Skips.on rfl rfl rfl rfl rfl hb6) rfl ?_
            refine XR.LW.skip hL rfl (Skips.on rfl rfl rfl rfl rfl hb6) rfl ?_
            refine XR.LW.skip hL rfl (Skips.on rfl rfl rfl rfl rfl hb6) rfl ?_
            refine XR.LW.skip hL rfl (Skips.on rfl rfl rfl rfl rfl hb6) rfl ?_
            refine XR.LW.rd hL rfl (Wants.free rfl) rfl (Rd.pickF rfl hb6 rfl) ?_
            exact XR.LW.sub hL (by exact ⟨rfl, rfl, rfl, rfl, rfl, rfl, rfl, rfl, trivial⟩) (K4 false w16 (by exact hB) h)
        intro b8 w17 hB h_
        have h := hJ4 b8 w17 h_; clear h_
        obtain ⟨w18, hw_w18⟩ : ∃ x, x = World.setCell w17 (⟨b4, 0, none⟩ : Addr) (.bool b8) := ⟨_, rfl⟩
        refine XR.LW.eff hL rfl (Wants.free rfl) rfl (stE hw_w18 (Ef.st rfl rfl rfl (by kernel_rfl) (box_cell (v := .bool c2) (hB.at (i := 3) rfl) rfl) (free_of (hB.at (i := 3) rfl) 0))) ?_
        replace hB : Boxes w18 [(b1, [.slice l1 l1n l1c], 31), (b2, [u1], 4), (b3, [.int .i64 c6], 3), (b4, [.bool b8], 4)] := Boxes.store1  (i := 3) (o := 0) hB rfl rfl rfl rfl hw_w18
        have hc_w18 : Chg [b4] w17 w18 := sil_more (Chg.refl [] w17) (sil_c1 hw_w18)
        refine XR.LW.nil hL rfl ?_
        refine XR.NW.then ?_
        refine XR.CW.seq ?_
        refine XR.CW.region fun L hL => ?_
        refine XR.LW.rd hL rfl (Wants.free rfl) rfl (Rd.ld (v := .int .i64 c6) rfl (by kernel_rfl) (eqs (box_cell (hB.at (i := 2) rfl) rfl))) ?_
        refine XR.LW.rd hL rfl (Wants.free rfl) rfl (Rd.bin (v := .int .i64 (IntKind.wrap .i64 (c6 + 1))) rfl rfl (fun w => by kernel_rfl)) ?_
        obtain ⟨w19, hw_w19⟩ : ∃ x, x = World.setCell w18 (⟨b3, 0, none⟩ : Addr) (.int .i64 (IntKind.wrap .i64 (c6 + 1))) := ⟨_, rfl⟩
        refine XR.LW.eff hL rfl (Wants.free rfl) rfl (stE hw_w19 (Ef.st rfl rfl rfl (by kernel_rfl) (box_cell (v := .int .i64 c6) (hB.at (i := 2) rfl) rfl) (free_of (hB.at (i := 2) rfl) 0))) ?_
        replace hB : Boxes w19 [(b1, [.slice l1 l1n l1c], 31), (b2, [u1], 4), (b3, [.int .i64 (IntKind.wrap .i64 (c6 + 1))], 3), (b4, [.bool b8], 4)] := Boxes.store1  (i := 2) (o := 0) hB rfl rfl rfl rfl hw_w19
        have hc_w19 : Chg [b4, b3] w17 w19 := sil_more hc_w18 (sil_c1 hw_w19)
        refine XR.LW.nil hL rfl ?_
        refine XR.NW.then ?_
        refine XR.CW.seq ?_
        refine XR.CW.region fun L hL => ?_
        refine XR.LW.rd hL rfl (Wants.free rfl) rfl (Rd.ld (v := .int .i64 (IntKind.wrap .i64 (c6 + 1))) rfl (by kernel_rfl) (eqs (box_cell (hB.at (i := 2) rfl) rfl))) ?_
        refine XR.LW.rd hL rfl (Wants.free rfl) rfl (Rd.ld (v := .slice l1 l1n l1c) rfl (by kernel_rfl) (eqs (box_cell (hB.at (i := 0) rfl) rfl))) ?_
        refine XR.LW.rd hL rfl (Wants.free rfl) rfl (Rd.builtin (v := .int .i64 (l1n : Int)) rfl (fun _ _ => by kernel_rfl)) ?_
        refine XR.LW.rd hL rfl (Wants.free rfl) rfl (Rd.bin (v := .bool (decide ((IntKind.wrap .i64 (c6 + 1)) > (l1n : Int)))) rfl rfl (fun w => by kernel_rfl)) ?_
        refine XR.LW.nil hL rfl ?_
        refine XR.NW.then ?_
        replace h := h  w19  hc_w19
        refine XR.CW.cond rfl (fun hb7 => ?_) (fun hb7 => ?_)
        · replace h := h.1 hb7
          refine XR.CW.seq ?_
          refine XR.CW.region fun L hL => ?_
          obtain ⟨w20, hw_w20⟩ : ∃ x, x = World.setCell w19 (⟨b2, 0, none⟩ : Addr) (.bool false) := ⟨_, rfl⟩
          refine XR.LW.eff hL rfl (Wants.free rfl) rfl (stE hw_w20 (Ef.st rfl rfl rfl (by kernel_rfl) (box_cell (v := u1) (hB.at (i := 1) rfl) rfl) (free_of (hB.at (i := 1) rfl) 0))) ?_
          replace hB : Boxes w20 [(b1, [.slice l1 l1n l1c], 31), (b2, [.bool false], 4), (b3, [.int .i64 (IntKind.wrap .i64 (c6 + 1))], 3), (b4, [.bool b8], 4)] := Boxes.store1  (i := 1) (o := 0) hB rfl rfl rfl rfl hw_w20
          have hc_w20 : Chg [b2] w19 w20 := sil_more (Chg.refl [] w19) (sil_c1 hw_w20)
          refine XR.LW.nil hL rfl ?_
          refine XR.NW.then ?_
          refine XR.CW.ret ?_
          refine RW.block ?_
          replace h := h  w20  hc_w20
          exact fun a_ ha_ => ⟨h.1, (⟨rfl, false, IntKind.wrap .i64 (c6 + 1), b8, h.2.1, hB⟩), h.2.2⟩
        · replace h := h.2 hb7
          refine XR.CW.skip ?_
          refine NW.block ?_
          exact fun a_ ha_ => ⟨h.1, ⟨IntKind.wrap .i64 (c6 + 1), b8, h.2.1, u1, hB⟩, h.2.2⟩
    · intro d1 O2 xs1 w21 hO_ hd_ hdh_ hS_ hi_
      obtain ⟨c1, c2, hi_, u1, hB⟩ := hi_
      have h := hdn_ d1 O2 xs1 c1 c2 w21 hO_ hd_ hS_ hi_
      have hK := XR.Marks.cons (XR.Marks.nil _) hdh_ (by simp)
      refine NW.block ?_
      refine NW.then ?_
      refine CW.seq ?_
      refine CW.block ?_
      obtain ⟨I3, m2, hI3, h⟩ := h
      refine CW.loop (S := Int) (fun c7 => [(0, .pointer s1), (3, .pointer (some (⟨b1, 0, none⟩ : Addr))), (4, .pointer (some (⟨b2, 0, none⟩ : Addr))), (5, .pointer (some (⟨b3, 0, none⟩ : Addr))), (6, .pointer (some (⟨b4, 0, none⟩ : Addr)))]) (fun c7 w22 => I3 c7 w22 ∧ XR.Marks w22 [d1] ∧ Boxes w22 [(b1, [.slice l1 l1n l1c], 31), (b2, [u1], 4), (b3, [.int .i64 c7], 3), (b4, [.bool c2], 4)]) (fun c7 w22 => m2 c7 w22) c1 (by exact ⟨rfl, rfl, rfl, rfl, rfl, trivial⟩) ⟨hI3, hK, hB⟩ (fun c7 w22 hI3 => ?_)
      obtain ⟨hI3, hK, hB⟩ := hI3
      replace h := h c7 w22 hI3
      refine CW.seq ?_
      refine CW.seq ?_
      refine CW.region fun L hL => ?_
      refine LW.rd hL rfl (Wants.free rfl) rfl (Rd.ld (v := .int .i64 c7) rfl (by kernel_rfl) (eqs (box_cell (hB.at (i := 2) rfl) rfl))) ?_
      refine LW.rd hL rfl (Wants.free rfl) rfl (Rd.ld (v := .slice l1 l1n l1c) rfl (by kernel_rfl) (eqs (box_cell (hB.at (i := 0) rfl) rfl))) ?_
      refine LW.rd hL rfl (Wants.free rfl) rfl (Rd.builtin (v := .int .i64 (l1n : Int)) rfl (fun _ _ => by kernel_rfl)) ?_
      refine LW.rd hL rfl (Wants.free rfl) rfl (Rd.bin (v := .bool (decide (c7 < (l1n : Int)))) rfl rfl (fun w => by kernel_rfl)) ?_
      refine LW.rd hL rfl (Wants.free rfl) rfl (Rd.move (v := .bool (decide (c7 < (l1n : Int)))) rfl) ?_
      obtain ⟨J5, hJ5, h1_J5, h0_J5⟩ := h
      suffices K5 : ∀ (b9 : Bool) (w23 : World), XR.Marks w23 [d1] → Boxes w23 [(b1, [.slice l1 l1n l1c], 31), (b2, [u1], 4), (b3, [.int .i64 c7], 3), (b4, [.bool c2], 4)] → J5 b9 w23 → L 11 [(0, .pointer s1), (3, .pointer (some (⟨b1, 0, none⟩ : Addr))), (4, .pointer (some (⟨b2, 0, none⟩ : Addr))), (5, .pointer (some (⟨b3, 0, none⟩ : Addr))), (6, .pointer (some (⟨b4, 0, none⟩ : Addr))), (70, .bool b9)] w23 by
        rcases Bool.eq_false_or_eq_true (decide (c7 < (l1n : Int))) with hb8 | hb8
        · have h := h1_J5 hb8
          refine LW.rd hL rfl (Wants.on rfl rfl rfl rfl rfl hb8) rfl (Rd.ld (v := .slice l1 l1n l1c) rfl (by kernel_rfl) (eqs (box_cell (hB.at (i := 0) rfl) rfl))) ?_
          refine LW.rd hL rfl (Wants.on rfl rfl rfl rfl rfl hb8) rfl (Rd.ld (v := .int .i64 c7) rfl (by kernel_rfl) (eqs (box_cell (hB.at (i := 2) rfl) rfl))) ?_
          obtain ⟨a3, he3, hi5, hi6, h⟩ := h
          refine LW.rd hL rfl (Wants.on rfl rfl rfl rfl rfl hb8) rfl (Rd.iaS (q := a3) (sz := 1) (by rw [← he3]; rfl) rfl Try.underlying31 (by kernel_rfl) hi5 hi6) ?_
          obtain ⟨t4, hc3, h⟩ := h
          refine LW.rd hL rfl (Wants.on rfl rfl rfl rfl rfl hb8) rfl (Rd.ld (v := .int .u32 t4) rfl (by kernel_rfl) (eqs hc3)) ?_
          refine LW.rd hL rfl (Wants.on rfl rfl rfl rfl rfl hb8) rfl (Rd.bin (v := .bool (t4 == 0)) rfl rfl (fun w => by kernel_rfl)) ?_
          refine LW.rd hL rfl (Wants.free rfl) rfl (Rd.pickT rfl hb8 rfl) ?_
          exact LW.sub hL (by exact ⟨rfl, rfl, rfl, rfl, rfl, rfl, trivial⟩) (K5 (t4 == 0) w22 hK (by exact hB) h)
        · have h := h0_J5 hb8
          refine LW.skip hL rfl (Skips.on rfl rfl rfl rfl rfl hb8) rfl ?_
          refine LW.skip hL rfl (Skips.on rfl rfl rfl rfl rfl hb8) rfl ?_
          refine LW.skip hL rfl (Skips.on rfl rfl rfl rfl rfl hb8) rfl ?_
          refine LW.skip hL rfl (Skips.on rfl rfl rfl rfl rfl hb8) rfl ?_
          refine LW.skip hL rfl (Skips.on rfl rfl rfl rfl rfl hb8) rfl ?_
          refine LW.rd hL rfl (Wants.free rfl) rfl (Rd.pickF rfl hb8 rfl) ?_
          exact LW.sub hL (by exact ⟨rfl, rfl, rfl, rfl, rfl, rfl, trivial⟩) (K5 false w22 hK (by exact hB) h)
      intro b9 w23 hK hB h_
      have h := hJ5 b9 w23 h_; clear h_
      refine LW.nil hL rfl ?_
      refine NW.then ?_
      refine CW.cond rfl (fun hb9 => ?_) (fun hb9 => ?_)
      · replace h := h.1 hb9
        refine CW.skip ?_
        refine NW.then ?_
        refine CW.block ?_
        refine CW.region fun L hL => ?_
        refine LW.rd hL rfl (Wants.free rfl) rfl (Rd.ld (v := .int .i64 c7) rfl (by kernel_rfl) (eqs (box_cell (hB.at (i := 2) rfl) rfl))) ?_
        refine LW.rd hL rfl (Wants.free rfl) rfl (Rd.bin (v := .int .i64 (IntKind.wrap .i64 (c7 + 1))) rfl rfl (fun w => by kernel_rfl)) ?_
        obtain ⟨w24, hw_w24⟩ : ∃ x, x = World.setCell w23 (⟨b3, 0, none⟩ : Addr) (.int .i64 (IntKind.wrap .i64 (c7 + 1))) := ⟨_, rfl⟩
        refine LW.eff hL rfl (Wants.free rfl) rfl (stE hw_w24 (Ef.st rfl rfl rfl (by kernel_rfl) (box_cell (v := .int .i64 c7) (hB.at (i := 2) rfl) rfl) (free_of (hB.at (i := 2) rfl) 0))) ?_
        replace hK := XR.Marks.set hK (hB.at (i := 2) rfl) (sil_c1 hw_w24)
        replace hB : Boxes w24 [(b1, [.slice l1 l1n l1c], 31), (b2, [u1], 4), (b3, [.int .i64 (IntKind.wrap .i64 (c7 + 1))], 3), (b4, [.bool c2], 4)] := Boxes.store1  (i := 2) (o := 0) hB rfl rfl rfl rfl hw_w24
        have hc_w24 : Chg [b3] w23 w24 := sil_more (Chg.refl [] w23) (sil_c1 hw_w24)
        refine LW.nil hL rfl ?_
        refine NW.block ?_
        replace h := h  w24  hc_w24
        exact NW.loop (S := Int) (Ek := fun c7 => [(0, .pointer s1), (3, .pointer (some (⟨b1, 0, none⟩ : Addr))), (4, .pointer (some (⟨b2, 0, none⟩ : Addr))), (5, .pointer (some (⟨b3, 0, none⟩ : Addr))), (6, .pointer (some (⟨b4, 0, none⟩ : Addr)))]) (IntKind.wrap .i64 (c7 + 1)) (by exact ⟨rfl, rfl, rfl, rfl, rfl, trivial⟩) ⟨⟨h.1, hK, hB⟩, h.2⟩
      · replace h := h.2 hb9
        refine CW.exit ?_
        refine XW.then ?_
        refine XW.then ?_
        refine XW.hit ?_
        refine NW.then ?_
        refine CW.seq ?_
        refine CW.seq ?_
        refine CW.region fun L hL => ?_
        refine LW.rd hL rfl (Wants.free rfl) rfl (Rd.assign (v := .int .i64 (-1)) rfl) ?_
        refine LW.nil hL rfl ?_
        refine NW.then ?_
        refine CW.block ?_
        obtain ⟨I4, m3, hI4, h⟩ := h
        refine CW.loop (S := Int × Bool) (fun s4 => [(0, .pointer s1), (3, .pointer (some (⟨b1, 0, none⟩ : Addr))), (4, .pointer (some (⟨b2, 0, none⟩ : Addr))), (5, .pointer (some (⟨b3, 0, none⟩ : Addr))), (6, .pointer (some (⟨b4, 0, none⟩ : Addr))), (9, .int .i64 s4.1)]) (fun s4 w25 => I4 s4.1 s4.2 w25 ∧ XR.Marks w25 [d1] ∧ Boxes w25 [(b1, [.slice l1 l1n l1c], 31), (b2, [u1], 4), (b3, [.int .i64 c7], 3), (b4, [.bool s4.2], 4)]) (fun s4 w25 => m3 s4.1 s4.2 w25) ((-1), c2) (by exact ⟨rfl, rfl, rfl, rfl, rfl, rfl, trivial⟩) ⟨hI4, hK, hB⟩ (fun s4 w25 hI4 => ?_)
        obtain ⟨hI4, hK, hB⟩ := hI4
        obtain ⟨p1, c8⟩ := s4; replace h := h p1 c8 w25 hI4
        refine CW.seq ?_
        refine CW.seq ?_
        refine CW.region fun L hL => ?_
        refine LW.rd hL rfl (Wants.free rfl) rfl (Rd.move (v := .int .i64 p1) rfl) ?_
        refine LW.rd hL rfl (Wants.free rfl) rfl (Rd.ld (v := .slice l1 l1n l1c) rfl (by kernel_rfl) (eqs (box_cell (hB.at (i := 0) rfl) rfl))) ?_
        refine LW.rd hL rfl (Wants.free rfl) rfl (Rd.builtin (v := .int .i64 (l1n : Int)) rfl (fun _ _ => by kernel_rfl)) ?_
        refine LW.rd hL rfl (Wants.free rfl) rfl (Rd.bin (v := .int .i64 (IntKind.wrap .i64 (Int.tdiv (l1n : Int) 64))) rfl rfl (fun w => by kernel_rfl)) ?_
        refine LW.rd hL rfl (Wants.free rfl) rfl (Rd.bin (v := .bool (decide (p1 ≤ (IntKind.wrap .i64 (Int.tdiv (l1n : Int) 64))))) rfl rfl (fun w => by kernel_rfl)) ?_
        refine LW.nil hL rfl ?_
        refine NW.then ?_
        refine CW.cond rfl (fun hb10 => ?_) (fun hb10 => ?_)
        · replace h := h.1 hb10
          refine CW.skip ?_
          refine NW.then ?_
          refine CW.seq ?_
          refine CW.block ?_
          obtain ⟨w26, hw_w26⟩ : ∃ x, x = World.drew w25 := ⟨_, rfl⟩
          have hc_w26 := sil_drew (Chg.refl [] w25) hw_w26
          replace hB := hB.drew hw_w26
          replace hK := XR.Marks.drew hK hw_w26
          refine CW.drawn (fun w => Boxes w [(b4, [.bool c8], 4), (b1, [.slice l1 l1n l1c], 31)]) 10 (by kernel_rfl) fun H hH => ?_
          rw [← hw_w26]
          have hS1 : Boxes w26 [(b4, [.bool c8], 4), (b1, [.slice l1 l1n l1c], 31)] := (hB.sel [3, 0] (by decide) rfl)
          refine HW.take (i := 0) hH rfl (by kernel_rfl) (by kernel_rfl) (Wants.free rfl) rfl (fun _ => hS1) (Rd.ld (v := .bool c8) rfl (by kernel_rfl) (fun w h => box_cell (Boxes.at (i := 0) h rfl) rfl)) ?_
          refine HW.pure (i := 1) hH rfl (by kernel_rfl) (Wants.free rfl) rfl (fun _ => hS1) (Rd.move (v := .bool c8) rfl) ?_
          replace h := h  w26  hc_w26
          obtain ⟨J6, hJ6, h1_J6, h0_J6⟩ := h
          suffices K6 : ∀ (b10 : Bool) (w27 : World), (Boxes w27 [(b4, [.bool c8], 4), (b1, [.slice l1 l1n l1c], 31)]) → XR.Marks w27 [d1] → Boxes w27 [(b1, [.slice l1 l1n l1c], 31), (b2, [u1], 4), (b3, [.int .i64 c7], 3), (b4, [.bool c8], 4)] → J6 b10 w27 → H 1 #[true, true, true, true, true, true, true, true, true, true, false] [(0, .pointer s1), (3, .pointer (some (⟨b1, 0, none⟩ : Addr))), (4, .pointer (some (⟨b2, 0, none⟩ : Addr))), (5, .pointer (some (⟨b3, 0, none⟩ : Addr))), (6, .pointer (some (⟨b4, 0, none⟩ : Addr))), (9, .int .i64 p1), (89, .bool b10)] w27 by
            rcases Bool.eq_false_or_eq_true c8 with hb11 | hb11
            · have h := h1_J6 hb11
              refine HW.pure (i := 2) hH rfl (by kernel_rfl) (Wants.on rfl rfl rfl rfl rfl hb11) rfl (fun _ => hS1) (Rd.move (v := .pointer s1) rfl) ?_
              refine HW.pure (i := 3) hH rfl (by kernel_rfl) (Wants.on rfl rfl rfl rfl rfl hb11) rfl (fun _ => hS1) (Rd.move (v := .int .i64 p1) rfl) ?_
              refine HW.take (i := 5) hH rfl (by kernel_rfl) (by kernel_rfl) (Wants.on rfl rfl rfl rfl rfl hb11) rfl (fun _ => hS1) (Rd.ld (v := .slice l1 l1n l1c) rfl (by kernel_rfl) (fun w h => box_cell (Boxes.at (i := 1) h rfl) rfl)) ?_
              refine HW.pure (i := 6) hH rfl (by kernel_rfl) (Wants.on rfl rfl rfl rfl rfl hb11) rfl (fun _ => hS1) (Rd.move (v := .int .i64 p1) rfl) ?_
              refine HW.call (i := 4) hH (by kernel_rfl) rfl (Wants.on rfl rfl rfl rfl rfl hb11) rfl (Cl.fn (f := 56) rfl Try.func56 (by kernel_rfl) rfl) h (fun e w28 h_ => ?_)
              clear h
              obtain ⟨r4, rfl, h⟩ := h_
              obtain ⟨hsm3, h⟩ := h
              replace hB := Boxes.sameS hB hsm3 (by simp)
              replace hK := XR.Marks.same hK hsm3 (by simp)
              have hS2 : Boxes w28 [(b4, [.bool c8], 4), (b1, [.slice l1 l1n l1c], 31)] := (hB.sel [3, 0] (by decide) rfl)
              refine ⟨_, rfl, (fun _ => hS2), ?_⟩
              refine HW.call (i := 7) hH (by kernel_rfl) rfl (Wants.on rfl rfl rfl rfl rfl hb11) rfl (Cl.fn (f := 84) rfl Try.func84 (by kernel_rfl) rfl) h (fun e w29 h_ => ?_)
              clear h
              obtain ⟨r5, rfl, h⟩ := h_
              obtain ⟨hsm4, h⟩ := h
              replace hB := Boxes.sameS hB hsm4 (by simp)
              replace hK := XR.Marks.same hK hsm4 (by simp)
              have hS3 : Boxes w29 [(b4, [.bool c8], 4), (b1, [.slice l1 l1n l1c], 31)] := (hB.sel [3, 0] (by decide) rfl)
              refine ⟨_, rfl, (fun _ => hS3), ?_⟩
              refine HW.pure (i := 8) hH rfl (by kernel_rfl) (Wants.on rfl rfl rfl rfl rfl hb11) rfl (fun _ => hS3) (Rd.bin (v := .bool (r4 == r5)) rfl rfl (fun w => by kernel_rfl)) ?_
              refine HW.pure (i := 9) hH rfl (by kernel_rfl) (Wants.free rfl) rfl (fun _ => hS3) (Rd.pickT rfl hb11 rfl) ?_
              exact HW.sub hH (by exact ⟨rfl, rfl, rfl, rfl, rfl, rfl, rfl, trivial⟩) (K6 (r4 == r5) w29 hS3 hK (by exact hB) h)
            · have h := h0_J6 hb11
              refine HW.skip (i := 2) hH rfl (by kernel_rfl) (Skips.on rfl rfl rfl rfl rfl hb11) rfl (fun _ => hS1) ?_
              refine HW.skip (i := 3) hH rfl (by kernel_rfl) (Skips.on rfl rfl rfl rfl rfl hb11) rfl (fun _ => hS1) ?_
              refine HW.skip (i := 4) hH rfl (by kernel_rfl) (Skips.on rfl rfl rfl rfl rfl hb11) rfl (fun _ => hS1) ?_
              refine HW.skip (i := 5) hH rfl (by kernel_rfl) (Skips.on rfl rfl rfl rfl rfl hb11) rfl (fun _ => hS1) ?_
              refine HW.skip (i := 6) hH rfl (by kernel_rfl) (Skips.on rfl rfl rfl rfl rfl hb11) rfl (fun _ => hS1) ?_
              refine HW.skip (i := 7) hH rfl (by kernel_rfl) (Skips.on rfl rfl rfl rfl rfl hb11) rfl (fun _ => hS1) ?_
              refine HW.skip (i := 8) hH rfl (by kernel_rfl) (Skips.on rfl rfl rfl rfl rfl hb11) rfl (fun _ => hS1) ?_
              refine HW.pure (i := 9) hH rfl (by kernel_rfl) (Wants.free rfl) rfl (fun _ => hS1) (Rd.pickF rfl hb11 rfl) ?_
              exact HW.sub hH (by exact ⟨rfl, rfl, rfl, rfl, rfl, rfl, rfl, trivial⟩) (K6 false w26 hS1 hK (by exact hB) h)
          intro b10 w27 hS4 hK hB h_
          have h := hJ6 b10 w27 h_; clear h_
          obtain ⟨w30, hw_w30⟩ : ∃ x, x = World.setCell w27 (⟨b4, 0, none⟩ : Addr) (.bool b10) := ⟨_, rfl⟩
          refine HW.eff (i := 10) hH (by kernel_rfl) rfl (Wants.free rfl) rfl (stE hw_w30 (Ef.st rfl rfl rfl (by kernel_rfl) (box_cell (v := .bool c8) (hB.at (i := 3) rfl) rfl) (free_of (hB.at (i := 3) rfl) 0))) (fun hc => by cases hc) ?_
          replace hK := XR.Marks.set hK (hB.at (i := 3) rfl) (sil_c1 hw_w30)
          replace hB : Boxes w30 [(b1, [.slice l1 l1n l1c], 31), (b2, [u1], 4), (b3, [.int .i64 c7], 3), (b4, [.bool b10], 4)] := Boxes.store1  (i := 3) (o := 0) hB rfl rfl rfl rfl hw_w30
          have hc_w30 : Chg [b4] w27 w30 := sil_more (Chg.refl [] w27) (sil_c1 hw_w30)
          refine HW.done hH (by kernel_rfl) ?_
          refine NW.block ?_
          refine NW.then ?_
          refine CW.region fun L hL => ?_
          refine LW.rd hL rfl (Wants.free rfl) rfl (Rd.move (v := .int .i64 p1) rfl) ?_
          refine LW.rd hL rfl (Wants.free rfl) rfl (Rd.bin (v := .int .i64 (IntKind.wrap .i64 (p1 + 1))) rfl rfl (fun w => by kernel_rfl)) ?_
          refine LW.rd hL rfl (Wants.free rfl) rfl (Rd.assign (v := .int .i64 (IntKind.wrap .i64 (p1 + 1))) rfl) ?_
          refine LW.nil hL rfl ?_
          replace h := h  w30  hc_w30
          exact NW.loop (S := Int × Bool) (Ek := fun s4 => [(0, .pointer s1), (3, .pointer (some (⟨b1, 0, none⟩ : Addr))), (4, .pointer (some (⟨b2, 0, none⟩ : Addr))), (5, .pointer (some (⟨b3, 0, none⟩ : Addr))), (6, .pointer (some (⟨b4, 0, none⟩ : Addr))), (9, .int .i64 s4.1)]) (IntKind.wrap .i64 (p1 + 1), b10) (by exact ⟨rfl, rfl, rfl, rfl, rfl, rfl, trivial⟩) ⟨⟨h.1, hK, hB⟩, h.2⟩
        · replace h := h.2 hb10
          refine CW.exit ?_
          refine XW.then ?_
          refine XW.then ?_
          refine XW.hit ?_
          refine NW.then ?_
          refine CW.seq ?_
          obtain ⟨w31, hw_w31⟩ : ∃ x, x = World.drew w25 := ⟨_, rfl⟩
          have hc_w31 := sil_drew (Chg.refl [] w25) hw_w31
          replace hB := hB.drew hw_w31
          replace hK := XR.Marks.drew hK hw_w31
          refine CW.drawn (fun w => Boxes w [(b4, [.bool c8], 4), (b3, [.int .i64 c7], 3), (b1, [.slice l1 l1n l1c], 31)]) 21 (by kernel_rfl) fun H hH => ?_
          rw [← hw_w31]
          have hS5 : Boxes w31 [(b4, [.bool c8], 4), (b3, [.int .i64 c7], 3), (b1, [.slice l1 l1n l1c], 31)] := (hB.sel [3, 2, 0] (by decide) rfl)
          refine HW.take (i := 0) hH rfl (by kernel_rfl) (by kernel_rfl) (Wants.free rfl) rfl (fun _ => hS5) (Rd.ld (v := .bool c8) rfl (by kernel_rfl) (fun w h => box_cell (Boxes.at (i := 0) h rfl) rfl)) ?_
          refine HW.pure (i := 1) hH rfl (by kernel_rfl) (Wants.free rfl) rfl (fun _ => hS5) (Rd.move (v := .bool c8) rfl) ?_
          replace h := h  w31  hc_w31
          obtain ⟨J7, hJ7, h1_J7, h0_J7⟩ := h
          suffices K7 : ∀ (b11 : Bool) (w32 : World), (Boxes w32 [(b4, [.bool c8], 4), (b3, [.int .i64 c7], 3), (b1, [.slice l1 l1n l1c], 31)]) → XR.Marks w32 [d1] → Boxes w32 [(b1, [.slice l1 l1n l1c], 31), (b2, [u1], 4), (b3, [.int .i64 c7], 3), (b4, [.bool c8], 4)] → J7 b11 w32 → H 15 #[true, true, true, true, true, true, true, false, false, false, false, false, false, false, false, false, false, false, false, false, false, false] [(0, .pointer s1), (3, .pointer (some (⟨b1, 0, none⟩ : Addr))), (4, .pointer (some (⟨b2, 0, none⟩ : Addr))), (96, .bool b11)] w32 by
            rcases Bool.eq_false_or_eq_true c8 with hb12 | hb12
            · have h := h1_J7 hb12
              refine HW.take (i := 2) hH rfl (by kernel_rfl) (by kernel_rfl) (Wants.on rfl rfl rfl rfl rfl hb12) rfl (fun _ => hS5) (Rd.ld (v := .int .i64 c7) rfl (by kernel_rfl) (fun w h => box_cell (Boxes.at (i := 1) h rfl) rfl)) ?_
              refine HW.take (i := 3) hH rfl (by kernel_rfl) (by kernel_rfl) (Wants.on rfl rfl rfl rfl rfl hb12) rfl (fun _ => hS5) (Rd.ld (v := .slice l1 l1n l1c) rfl (by kernel_rfl) (fun w h => box_cell (Boxes.at (i := 2) h rfl) rfl)) ?_
              refine HW.pure (i := 4) hH rfl (by kernel_rfl) (Wants.on rfl rfl rfl rfl rfl hb12) rfl (fun _ => hS5) (Rd.builtin (v := .int .i64 (l1n : Int)) rfl (fun _ _ => by kernel_rfl)) ?_
              refine HW.pure (i := 5) hH rfl (by kernel_rfl) (Wants.on rfl rfl rfl rfl rfl hb12) rfl (fun _ => hS5) (Rd.bin (v := .bool (c7 == (l1n : Int))) rfl rfl (fun w => by kernel_rfl)) ?_
              refine HW.pure (i := 6) hH rfl (by kernel_rfl) (Wants.free rfl) rfl (fun _ => hS5) (Rd.pickT rfl hb12 rfl) ?_
              exact HW.sub hH (by exact ⟨rfl, rfl, rfl, rfl, trivial⟩) (K7 (c7 == (l1n : Int)) w31 hS5 hK (by exact hB) h)
            · have h := h0_J7 hb12
              refine HW.skip (i := 2) hH rfl (by kernel_rfl) (Skips.on rfl rfl rfl rfl rfl hb12) rfl (fun _ => hS5) ?_
              refine HW.skip (i := 3) hH rfl (by kernel_rfl) (Skips.on rfl rfl rfl rfl rfl hb12) rfl (fun _ => hS5) ?_
              refine HW.skip (i := 4) hH rfl (by kernel_rfl) (Skips.on rfl rfl rfl rfl rfl hb12) rfl (fun _ => hS5) ?_
              refine HW.skip (i := 5) hH rfl (by kernel_rfl) (Skips.on rfl rfl rfl rfl rfl hb12) rfl (fun _ => hS5) ?_
              refine HW.pure (i := 6) hH rfl (by kernel_rfl) (Wants.free rfl) rfl (fun _ => hS5) (Rd.pickF rfl hb12 rfl) ?_
              exact HW.sub hH (by exact ⟨rfl, rfl, rfl, rfl, trivial⟩) (K7 false w31 hS5 hK (by exact hB) h)
          intro b11 w32 hS6 hK hB h_
          have h := hJ7 b11 w32 h_; clear h_
          refine HW.pure (i := 7) hH rfl (by kernel_rfl) (Wants.free rfl) rfl (fun _ => hS6) (Rd.move (v := .bool b11) rfl) ?_
          obtain ⟨J8, hJ8, h1_J8, h0_J8⟩ := h
          suffices K8 : ∀ (b12 : Bool) (w33 : World), (Boxes w33 [(b4, [.bool c8], 4), (b3, [.int .i64 c7], 3), (b1, [.slice l1 l1n l1c], 31)]) → XR.Marks w33 [d1] → Boxes w33 [(b1, [.slice l1 l1n l1c], 31), (b2, [u1], 4), (b3, [.int .i64 c7], 3), (b4, [.bool c8], 4)] → J8 b12 w33 → H 8 #[true, true, true, true, true, true, true, true, true, true, true, true, true, true, false, false, false, false, false, false, false, false] [(0, .pointer s1), (3, .pointer (some (⟨b1, 0, none⟩ : Addr))), (4, .pointer (some (⟨b2, 0, none⟩ : Addr))), (103, .bool b12)] w33 by
            rcases Bool.eq_false_or_eq_true b11 with hb13 | hb13
            · have h := h1_J8 hb13
              refine HW.pure (i := 8) hH rfl (by kernel_rfl) (Wants.on rfl rfl rfl rfl rfl hb13) rfl (fun _ => hS6) (Rd.move (v := .pointer s1) rfl) ?_
              refine HW.take (i := 10) hH rfl (by kernel_rfl) (by kernel_rfl) (Wants.on rfl rfl rfl rfl rfl hb13) rfl (fun _ => hS6) (Rd.ld (v := .slice l1 l1n l1c) rfl (by kernel_rfl) (fun w h => box_cell (Boxes.at (i := 2) h rfl) rfl)) ?_
              refine HW.call (i := 9) hH (by kernel_rfl) rfl (Wants.on rfl rfl rfl rfl rfl hb13) rfl (Cl.fn (f := 55) rfl Try.func55 (by kernel_rfl) rfl) h (fun e w34 h_ => ?_)
              clear h
              obtain ⟨r6, rfl, h⟩ := h_
              obtain ⟨hsm5, h⟩ := h
              replace hB := Boxes.sameS hB hsm5 (by simp)
              replace hK := XR.Marks.same hK hsm5 (by simp)
              have hS7 : Boxes w34 [(b4, [.bool c8], 4), (b3, [.int .i64 c7], 3), (b1, [.slice l1 l1n l1c], 31)] := (hB.sel [3, 2, 0] (by decide) rfl)
              refine ⟨_, rfl, (fun _ => hS7), ?_⟩
              refine HW.call (i := 11) hH (by kernel_rfl) rfl (Wants.on rfl rfl rfl rfl rfl hb13) rfl (Cl.fn (f := 61) rfl Try.func61 (by kernel_rfl) rfl) h (fun e w35 h_ => ?_)
              clear h
              obtain ⟨r7, rfl, h⟩ := h_
              obtain ⟨hsm6, h⟩ := h
              replace hB := Boxes.sameS hB hsm6 (by simp)
              replace hK := XR.Marks.same hK hsm6 (by simp)
              have hS8 : Boxes w35 [(b4, [.bool c8], 4), (b3, [.int .i64 c7], 3), (b1, [.slice l1 l1n l1c], 31)] := (hB.sel [3, 2, 0] (by decide) rfl)
              refine ⟨_, rfl, (fun _ => hS8), ?_⟩
              refine HW.pure (i := 12) hH rfl (by kernel_rfl) (Wants.on rfl rfl rfl rfl rfl hb13) rfl (fun _ => hS8) (Rd.bin (v := .bool (r6 == r7)) rfl rfl (fun w => by kernel_rfl)) ?_
              refine HW.pure (i := 13) hH rfl (by kernel_rfl) (Wants.free rfl) rfl (fun _ => hS8) (Rd.pickT rfl hb13 rfl) ?_
              exact HW.sub hH (by exact ⟨rfl, rfl, rfl, rfl, trivial⟩) (K8 (r6 == r7) w35 hS8 hK (by exact hB) h)
            · have h := h0_J8 hb13
              refine HW.skip (i := 8) hH rfl (by kernel_rfl) (Skips.on rfl rfl rfl rfl rfl hb13) rfl (fun _ => hS6) ?_
              refine HW.skip (i := 9) hH rfl (by kernel_rfl) (Skips.on rfl rfl rfl rfl rfl hb13) rfl (fun _ => hS6) ?_
              refine HW.skip (i := 10) hH rfl (by kernel_rfl) (Skips.on rfl rfl rfl rfl rfl hb13) rfl (fun _ => hS6) ?_
              refine HW.skip (i := 11) hH rfl (by kernel_rfl) (Skips.on rfl rfl rfl rfl rfl hb13) rfl (fun _ => hS6) ?_
              refine HW.skip (i := 12) hH rfl (by kernel_rfl) (Skips.on rfl rfl rfl rfl rfl hb13) rfl (fun _ => hS6) ?_
              refine HW.pure (i := 13) hH rfl (by kernel_rfl) (Wants.free rfl) rfl (fun _ => hS6) (Rd.pickF rfl hb13 rfl) ?_
              exact HW.sub hH (by exact ⟨rfl, rfl, rfl, rfl, trivial⟩) (K8 false w32 hS6 hK (by exact hB) h)
          intro b12 w33 hS9 hK hB h_
          have h := hJ8 b12 w33 h_; clear h_
          refine HW.pure (i := 14) hH rfl (by kernel_rfl) (Wants.free rfl) rfl (fun _ => hS9) (Rd.move (v := .bool b12) rfl) ?_
          obtain ⟨J9, hJ9, h1_J9, h0_J9⟩ := h
          suffices K9 : ∀ (b13 : Bool) (w36 : World), (Boxes w36 [(b4, [.bool c8], 4), (b3, [.int .i64 c7], 3), (b1, [.slice l1 l1n l1c], 31)]) → XR.Marks w36 [d1] → Boxes w36 [(b1, [.slice l1 l1n l1c], 31), (b2, [u1], 4), (b3, [.int .i64 c7], 3), (b4, [.bool c8], 4)] → J9 b13 w36 → H 1 #[true, true, true, true, true, true, true, true, true, true, true, true, true, true, true, true, true, true, true, true, true, false] [(4, .pointer (some (⟨b2, 0, none⟩ : Addr))), (110, .bool b13)] w36 by
            rcases Bool.eq_false_or_eq_true b12 with hb14 | hb14
            · have h := h1_J9 hb14
              refine HW.pure (i := 15) hH rfl (by kernel_rfl) (Wants.on rfl rfl rfl rfl rfl hb14) rfl (fun _ => hS9) (Rd.move (v := .pointer s1) rfl) ?_
              refine HW.take (i := 17) hH rfl (by kernel_rfl) (by kernel_rfl) (Wants.on rfl rfl rfl rfl rfl hb14) rfl (fun _ => hS9) (Rd.ld (v := .slice l1 l1n l1c) rfl (by kernel_rfl) (fun w h => box_cell (Boxes.at (i := 2) h rfl) rfl)) ?_
              refine HW.pure (i := 18) hH rfl (by kernel_rfl) (Wants.on rfl rfl rfl rfl rfl hb14) rfl (fun _ => hS9) (Rd.builtin (v := .int .i64 (l1n : Int)) rfl (fun _ _ => by kernel_rfl)) ?_
              refine HW.call (i := 16) hH (by kernel_rfl) rfl (Wants.on rfl rfl rfl rfl rfl hb14) rfl (Cl.fn (f := 54) rfl Try.func54 (by kernel_rfl) rfl) h (fun e w37 h_ => ?_)
              clear h
              obtain ⟨r8, rfl, h⟩ := h_
              obtain ⟨hsm7, h⟩ := h
              replace hB := Boxes.sameS hB hsm7 (by simp)
              replace hK := XR.Marks.same hK hsm7 (by simp)
              have hS10 : Boxes w37 [(b4, [.bool c8], 4), (b3, [.int .i64 c7], 3), (b1, [.slice l1 l1n l1c], 31)] := (hB.sel [3, 2, 0] (by decide) rfl)
              refine ⟨_, rfl, (fun _ => hS10), ?_⟩
              refine HW.pure (i := 19) hH rfl (by kernel_rfl) (Wants.on rfl rfl rfl rfl rfl hb14) rfl (fun _ => hS10) (Rd.bin (v := .bool (r8 == (l1n : Int))) rfl rfl (fun w => by kernel_rfl)) ?_
              refine HW.pure (i := 20) hH rfl (by kernel_rfl) (Wants.free rfl) rfl (fun _ => hS10) (Rd.pickT rfl hb14 rfl) ?_
              exact HW.sub hH (by exact ⟨rfl, rfl, trivial⟩) (K9 (r8 == (l1n : Int)) w37 hS10 hK (by exact hB) h)
            · have h := h0_J9 hb14
              refine HW.skip (i := 15) hH rfl (by kernel_rfl) (Skips.on rfl rfl rfl rfl rfl hb14) rfl (fun _ => hS9) ?_
              refine HW.skip (i := 16) hH rfl (by kernel_rfl) (Skips.on rfl rfl rfl rfl rfl hb14) rfl (fun _ => hS9) ?_
              refine HW.skip (i := 17) hH rfl (by kernel_rfl) (Skips.on rfl rfl rfl rfl rfl hb14) rfl (fun _ => hS9) ?_
              refine HW.skip (i := 18) hH rfl (by kernel_rfl) (Skips.on rfl rfl rfl rfl rfl hb14) rfl (fun _ => hS9) ?_
              refine HW.skip (i := 19) hH rfl (by kernel_rfl) (Skips.on rfl rfl rfl rfl rfl hb14) rfl (fun _ => hS9) ?_
              refine HW.pure (i := 20) hH rfl (by kernel_rfl) (Wants.free rfl) rfl (fun _ => hS9) (Rd.pickF rfl hb14 rfl) ?_
              exact HW.sub hH (by exact ⟨rfl, rfl, trivial⟩) (K9 false w33 hS9 hK (by exact hB) h)
          intro b13 w36 hS11 hK hB h_
          have h := hJ9 b13 w36 h_; clear h_
          obtain ⟨w38, hw_w38⟩ : ∃ x, x = World.setCell w36 (⟨b2, 0, none⟩ : Addr) (.bool b13) := ⟨_, rfl⟩
          refine HW.eff (i := 21) hH (by kernel_rfl) rfl (Wants.free rfl) rfl (stE hw_w38 (Ef.st rfl rfl rfl (by kernel_rfl) (box_cell (v := u1) (hB.at (i := 1) rfl) rfl) (free_of (hB.at (i := 1) rfl) 0))) (fun hc => by cases hc) ?_
          replace hK := XR.Marks.set hK (hB.at (i := 1) rfl) (sil_c1 hw_w38)
          replace hB : Boxes w38 [(b1, [.slice l1 l1n l1c], 31), (b2, [.bool b13], 4), (b3, [.int .i64 c7], 3), (b4, [.bool c8], 4)] := Boxes.store1  (i := 1) (o := 0) hB rfl rfl rfl rfl hw_w38
          have hc_w38 : Chg [b2] w36 w38 := sil_more (Chg.refl [] w36) (sil_c1 hw_w38)
          refine HW.done hH (by kernel_rfl) ?_
          refine NW.then ?_
          replace h := h  w38  hc_w38
          refine CW.ret ?_
          exact XR.resM (ms := [d1]) (vs := [.bool b13]) hK rfl (fun w_ hc_ => ⟨(ResOK.c rfl (lv1 (by kernel_rfl) (box_cell (Boxes.at (i := 1) (hB.marks hK hc_) rfl) rfl)) ResOK.nil), b13, rfl, h w_ hc_⟩)
    · intro d2 c_ O3 xs2 w40 hO_ hd_ hdh_ hS_ hi_
      rcases hi_ with ⟨rfl, c3, c4, c5, hi_, hB⟩
      · have h := hso_X1 d2 O3 xs2 c3 c4 c5 w40 hO_ hd_ hS_ hi_
        have hK := XR.Marks.cons (XR.Marks.nil _) hdh_ (by simp)
        refine CW.ret ?_
        refine RW.block ?_
        refine RW.then ?_
        exact XR.resM (ms := [d2]) (vs := [.bool c3]) hK rfl (fun w_ hc_ => ⟨(ResOK.c rfl (lv1 (by kernel_rfl) (box_cell (Boxes.at (i := 1) (hB.marks hK hc_) rfl) rfl)) ResOK.nil), c3, rfl, h w_ hc_⟩)

end Go.Proofs.Ytkfncibmfcdokaa
end

/- XIs -/
section
/- pomanderlaw03: is. -/
set_option linter.unusedVariables false
set_option linter.unusedSimpArgs false
namespace Go.Proofs.Ytkfncibmfcdokaa
open Go Go.RowKit Go.X Go.XR

theorem someL_succ (g : Int → Int) (k : Nat) : someL g (k + 1) = someL g k ++ if g k = 0 then [] else [((k : Int), g k)] := by
  unfold someL
  rw [List.range_succ, List.flatMap_append]
  simp
theorem someL_le (g : Int → Int) (k m : Nat) : ∃ s, someL g (k + m) = someL g k ++ s := ⟨_, someL_add g k m⟩
/-- The next byte that has a set. -/
theorem someL_next {g : Int → Int} {n : Nat} {x s : Int} {suf : List (Int × Int)} : ∀ (m k : Nat), k + m = n → someL g k ++ (x, s) :: suf = someL g n →
    ∃ j : Nat, x = j ∧ k ≤ j ∧ j < n ∧ s = g j ∧ g j ≠ 0 ∧ (∀ i : Nat, k ≤ i → i < j → g i = 0) ∧ someL g (j + 1) = someL g k ++ [(x, s)]
  | 0, k, hk, h => by
    obtain rfl : k = n := by omega
    have := congrArg List.length h
    simp at this
  | m + 1, k, hk, h => by
    by_cases hz : g k = 0
    · have e := someL_succ g k
      rw [if_pos hz, List.append_nil] at e
      rw [← e] at h
      obtain ⟨j, h1, h2, h3, h4, h5, h6, h7⟩ := someL_next m (k + 1) (by omega) h
      refine ⟨j, h1, by omega, h3, h4, h5, fun i hi hj => ?_, by rw [h7, e]⟩
      rcases Nat.lt_or_ge k i with h | h
      · exact h6 i h hj
      · obtain rfl : i = k := by omega
        exact hz
    · have e := someL_succ g k
      rw [if_neg hz] at e
      obtain ⟨s', hs⟩ := someL_le g (k + 1) m
      rw [show k + 1 + m = n by omega, e, List.append_assoc] at hs
      rw [hs] at h
      have h' := List.append_cancel_left h
      simp at h'
      obtain ⟨⟨rfl, rfl⟩, rfl⟩ := h'
      exact ⟨k, rfl, Nat.le_refl _, by omega, rfl, hz, fun i hi hj => by omega, e⟩
theorem someL_rest {g : Int → Int} {n : Nat} : ∀ (m k : Nat), k + m = n → someL g k = someL g n → ∀ i : Nat, k ≤ i → i < n → g i = 0
  | 0, k, hk, h => by intro i h1 h2; omega
  | m + 1, k, hk, h => by
    have e := someL_succ g k
    by_cases hz : g k = 0
    · rw [if_pos hz, List.append_nil] at e
      intro i h1 h2
      rcases Nat.lt_or_ge k i with h' | h'
      · exact someL_rest m (k + 1) (by omega) (e.trans h) i h' h2
      · obtain rfl : i = k := by omega
        exact hz
    · rw [if_neg hz] at e
      obtain ⟨s', hs⟩ := someL_le g (k + 1) m
      rw [show k + 1 + m = n by omega, e, ← h] at hs
      have := congrArg List.length hs
      simp at this

theorem func_ne_nil (f : Nat) (lb : Array Value) (x y : Operand) (w : World) : ((do eqGuard .eql 111 x y (.func (.func f) #[] lb) .nilFunc; binOp .eql 111 (.func (.func f) #[] lb) .nilFunc : Sem Value)).run Try.prog w = .ok (.bool false) w := by
  simp only [binOp]
  have e : (Op.equalIn Op.maxDepth 111 (.func (.func f) #[] lb) .nilFunc).run Try.prog w = .ok false w := by
    rw [show Op.maxDepth = 9999 + 1 from rfl]
    unfold Op.equalIn
    simp [run_underlying Try.underlying111, Result.andThen, go_sem]
  simp [eqGuard, Op.equal, e, run_underlying Try.underlying111, Result.andThen, go_sem]

theorem is_true {w : World} {b : Nat} {pages : Int} {g : Int → Int} {fp : List Nat} {p : Option Addr} {n c : Nat} (h : ShadowAt w b pages g fp) (hr : RowAt w 22 1 p n c (row03 g n)) (hn : (n : Int) = 64 * pages) :
    Calls Try.prog 45 #[.pointer (some ⟨b, 0, none⟩), .slice p n c] w fun e w' => ∃ r : Bool, e = .returned (.bool r) ∧ (r = true ∧ Chg [] w w') := by
  have hp1 := h.pages1
  have hp2 := h.pages2
  refine go_pomanderlaw03_is _ _ _ _ _ _ ?_
  unfold W_pomanderlaw03_is
  rintro b4 b3 b2 b1 w6 ⟨i1, j1⟩ ⟨i2, j2⟩ ⟨i3, j3⟩ ⟨i4, j4⟩ c6
  refine (shadow_all (h.chg c6 (by simp))).mono ?_
  rintro _ w7 ⟨_, rfl, cb, _, _, rfl, _, _, c7, _⟩
  have s7 := c7.size
  refine ⟨_, rfl, Same.chg c7 (by simp; omega), false, fun w => func_ne_nil _ _ _ _ w, fun h => by simp at h, fun _ => ?_⟩
  have c07 := c6.trans0 c7
  refine (shadow_all (h.chg c07 (by simp))).mono ?_
  rintro _ w9 ⟨_, rfl, cb, b', fp', rfl, hcb, hS, c9, hnew⟩
  have s9 := c9.size
  have c09 := c07.trans0 c9
  have hlS := hS.lt
  have hlcb := lt_of_heap hcb
  refine ⟨_, rfl, Same.chg c9 (by simp; omega), _, _, _, isFn93 cb, iterates_shadow hcb hS, by simp; exact ⟨hlcb, hlS⟩, ?_⟩
  have en : 64 * pages.toNat = n := by omega
  rw [en]
  have hge : ∀ {O : List Nat} {A : World}, InO w9 O A → ∀ x ∈ O, w9.heap.size ≤ x := fun hO x hx => (hO x hx).1
  refine ⟨fun c1 c2 O pre w' => (∃ k : Nat, c1 = k ∧ k ≤ n ∧ pre = someL g k) ∧ c2 = true ∧ Chg [] w w' ∧ w9.heap.size ≤ w'.heap.size, fun _ _ _ _ _ _ => False, ?_, ?_, ?_, ?_, ?_, ?_⟩
  · rintro c1 c2 pre O O' A B ⟨k1, k2, k3, k4⟩ hO hc hO' hg
    have := hc.size
    exact ⟨k1, k2, k3.trans hc (fun i hi hlt => by have := hge hO i hi; have := c09.size; omega), by omega⟩
  · rintro _ _ _ _ _ _ _ _ hf; exact hf.elim
  · intro O w10 c10 hO
    exact ⟨⟨0, rfl, Nat.zero_le _, rfl⟩, rfl, c09.trans0 c10, c10.size⟩
  · rintro l2 O pre x1 x2 c1 c2 w10 hO hl2 ⟨suf, hsuf⟩ ⟨⟨k, rfl, hk, rfl⟩, rfl, k3, k4⟩ w11 c11
    have hl2' := hO l2 hl2
    have s11 := c11.size
    have c011 : Chg [] w w11 := k3.trans c11 (fun i hi hlt => by simp at hi; have := c09.size; omega)
    rw [List.append_assoc] at hsuf
    obtain ⟨j, rfl, hkj, hjn, rfl, hj0, hz, hnext⟩ := someL_next (n - k) k (by omega) hsuf
    have sz09 := c09.size
    refine ⟨fun c6 w' => ∃ i : Nat, c6 = i ∧ k ≤ i ∧ i ≤ j ∧ Chg [b3] w11 w', fun c6 _ => j - c6.toNat, ⟨k, rfl, Nat.le_refl _, hkj, Chg.refl _ _⟩, ?_⟩
    rintro _ w12 ⟨i, rfl, hki, hij, c12⟩
    have hold : ∀ {A : World}, Chg [b3, b4, b2] w11 A → Chg [] w A := fun hc => c011.trans hc (fun i hi hlt => by simp at hi; omega)
    have c012 : Chg [] w w12 := hold (c12.mono (by simp))
    obtain ⟨a, rfl, q0, q1, t, ht, rfl⟩ := row_cell (hr.chg c012 (by simp)) (i := (i : Int)) (by omega) (by omega)
    refine ⟨fun b5 w' => b5 = (g i == 0) ∧ w' = w12, ?_, fun _ => ⟨a, rfl, q0, q1, _, ht, rfl, rfl⟩, fun hf => ?_⟩
    · rintro _ w13 ⟨rfl, hw⟩
      subst w13
      refine ⟨fun ht w14 c14 => ?_, fun hf => ?_⟩
      · have h0 : g i = 0 := by simpa using ht
        have hne : i ≠ j := fun e => hj0 (e ▸ h0)
        rw [wr (by omega) (by omega)]
        exact ⟨⟨i + 1, by omega, by omega, by omega, c12.trans c14 (fun _ h _ => h)⟩, by simp only []; omega⟩
      · have h0 : g i ≠ 0 := by simpa using hf
        have hij' : i = j := by
          rcases Nat.lt_or_ge i j with h' | h'
          · exact absurd (hz i hki h') h0
          · omega
        subst hij'
        refine ⟨fun b6 w' => b6 = true ∧ w' = w12, ?_, fun _ => ⟨decide_eq_true (by omega), rfl⟩, fun hf => by simp at hf⟩
        rintro _ w15 ⟨rfl, hw⟩
        subst w15
        refine ⟨fun b7 w' => b7 = true ∧ w' = w12, ?_, fun _ => ⟨by simp, rfl⟩, fun hf => by simp at hf⟩
        rintro _ w16 ⟨rfl, hw⟩
        subst w16
        refine ⟨fun b8 w' => b8 = true ∧ w' = w12, ?_, fun _ => ?_, fun hf => by simp at hf⟩
        · rintro _ w17 ⟨rfl, hw⟩ w19 c19
          subst w17
          have s12 := c12.size
          have s19 := c19.size
          rw [wr (by omega) (by omega)]
          have c1119 : Chg [b3, b4, b2] w11 w19 := (c12.mono (by simp)).trans c19 (fun i hi hlt => by simp at hi ⊢; omega)
          refine ⟨fun hgt => by have := of_decide_eq_true hgt; omega, fun _ => ⟨by omega, ⟨⟨i + 1, by omega, by omega, hnext.symm⟩, rfl, hold c1119, by omega⟩, ?_⟩⟩
          refine Same.of c1119 (fun x hx => ?_)
          rcases List.mem_append.1 hx with hx | hx
          · have := hnew x hx
            have : x < w9.heap.size := by
              rcases List.mem_cons.1 hx with e | e
              · omega
              · exact hlS x e
            exact ⟨by omega, by simp; omega⟩
          · have := hO x hx
            exact ⟨by omega, by simp; omega⟩
        · have e1 : IntKind.wrap .i64 ((n : Int) - 1) = n - 1 := wr (by omega) (by omega)
          rw [e1, if_neg (by omega)]
          exact ⟨a, rfl, q0, q1, _, ht, by simp, rfl⟩
    · have := of_decide_eq_false hf; omega
  · rintro d1 O xs c1 c2 w21 hO hd hxs ⟨⟨k, rfl, hk, hxs'⟩, rfl, k3, k4⟩
    have hz := someL_rest (g := g) (n := n) (n - k) k (by omega) (hxs'.symm.trans hxs)
    have sz09 := c09.size
    have hd' := hO d1 hd
    have hold : ∀ {A : World}, Chg [b1, b2, b3, b4, d1] w21 A → Chg [] w A := fun hc => k3.trans hc (fun i hi hlt => by simp at hi; omega)
    have hb : ∀ x ∈ [b1, b2, b3, b4, d1], x < w21.heap.size := by simp; omega
    refine ⟨fun c7 w' => ∃ i : Nat, c7 = i ∧ k ≤ i ∧ i ≤ n ∧ Chg [b1, b2, b3, b4, d1] w21 w', fun c7 _ => n - c7.toNat, ⟨k, rfl, Nat.le_refl _, hk, Chg.refl _ _⟩, ?_⟩
    rintro _ w22 ⟨i, rfl, hki, hin, c22⟩
    have s22 := c22.size
    have c022 := hold c22
    refine ⟨fun b5 w' => b5 = decide (i < n) ∧ w' = w22, ?_, fun hlt => ?_, fun hf => ⟨?_, rfl⟩⟩
    rotate_left
    · have hlt' : i < n := by have := of_decide_eq_true hlt; omega
      obtain ⟨a, rfl, q0, q1, t, ht, rfl⟩ := row_cell (hr.chg c022 (by simp)) (i := (i : Int)) (by omega) (by omega)
      exact ⟨a, rfl, q0, q1, _, ht, by rw [hz i hki hlt']; simp [hlt'], rfl⟩
    · have := of_decide_eq_false hf
      exact (decide_eq_false (by omega)).symm
    rintro _ w23 ⟨rfl, hw⟩
    subst w23
    refine ⟨fun ht w24 c24 => ?_, fun hf => ?_⟩
    · have hlt' : i < n := of_decide_eq_true ht
      rw [wr (by omega) (by omega)]
      exact ⟨⟨i + 1, by omega, by omega, by omega, c22.trans c24 (fun x hx _ => by simp at hx ⊢; omega)⟩, by simp only []; omega⟩
    have hin' : i = n := by have := of_decide_eq_false hf; omega
    subst hin'
    have e1 : IntKind.wrap .i64 (Int.tdiv (i : Int) 64) = pages := by rw [Int.tdiv_eq_ediv_of_nonneg (by omega), wr (by omega) (by omega)]; omega
    rw [e1]
    refine ⟨fun p1 c8 w' => -1 ≤ p1 ∧ p1 ≤ pages + 1 ∧ c8 = true ∧ Chg [b1, b2, b3, b4, d1] w21 w', fun p1 _ _ => (pages + 1 - p1).toNat, ⟨by omega, by omega, rfl, c22⟩, ?_⟩
    rintro p1 _ w25 ⟨m1, m2, rfl, c25⟩
    have s25 := c25.size
    refine ⟨fun hle w26 c26 => ?_, fun hgt w31 c31 => ?_⟩
    · have hle' : p1 ≤ pages := of_decide_eq_true hle
      have c026 : Chg [b1, b2, b3, b4, d1] w21 w26 := c25.trans c26 (by simp)
      have s26 := c26.size
      refine ⟨fun b10 w' => b10 = true ∧ w' = w26, ?_, fun _ => ?_, fun hf => by simp at hf⟩
      · rintro _ w27 ⟨rfl, hw⟩ w30 c30
        subst w27
        rw [wr (by omega) (by omega)]
        exact ⟨⟨by omega, by omega, rfl, c026.trans c30 (fun x hx _ => by simp at hx ⊢; omega)⟩, by simp only []; omega⟩
      · refine (shadow_private (h.chg (hold c026) (by simp)) p1).mono ?_
        rintro _ w28 ⟨_, rfl, rfl, hw⟩
        subst w28
        refine ⟨_, rfl, Same.refl _ _, ?_⟩
        refine (r3_private (hr.chg (hold c026) (by simp)) hn (by omega) hp2 p1).mono ?_
        rintro _ w29 ⟨_, rfl, rfl, hw⟩
        subst w29
        exact ⟨_, rfl, Same.refl _ _, by simp, rfl⟩
    · have c031 : Chg [b1, b2, b3, b4, d1] w21 w31 := c25.trans c31 (by simp)
      refine ⟨fun b11 w' => b11 = true ∧ w' = w31, ?_, fun _ => ⟨by simp, rfl⟩, fun hf => by simp at hf⟩
      rintro _ w32 ⟨rfl, hw⟩
      subst w32
      refine ⟨fun b12 w' => b12 = true ∧ w' = w31, ?_, fun _ => ?_, fun hf => by simp at hf⟩
      · rintro _ w33 ⟨rfl, hw⟩
        subst w33
        refine ⟨fun b13 w' => b13 = true ∧ w' = w31, ?_, fun _ => ?_, fun hf => by simp at hf⟩
        · rintro _ w36 ⟨rfl, hw⟩ w38 c38 w39 c39
          subst w36
          have : Chg [b1, b2, b3, b4, d1] w21 w39 := (c031.trans c38 (fun x hx _ => by simp at hx ⊢; omega)).trans c39 (fun x hx _ => by simp at hx ⊢; omega)
          exact ⟨rfl, hold this⟩
        · refine (shadow_size (h.chg (hold c031) (by simp))).mono ?_
          rintro _ w37 ⟨_, rfl, rfl, hw⟩
          subst w37
          exact ⟨_, rfl, Same.refl _ _, by simp; omega, rfl⟩
      · refine (shadow_pages (h.chg (hold c031) (by simp))).mono ?_
        rintro _ w34 ⟨_, rfl, rfl, hw⟩
        subst w34
        refine ⟨_, rfl, Same.refl _ _, ?_⟩
        refine (r3_pages (hr.chg (hold c031) (by simp)) hn (by omega) hp2).mono ?_
        rintro _ w35 ⟨_, rfl, rfl, hw⟩
        subst w35
        exact ⟨_, rfl, Same.refl _ _, by simp, rfl⟩
  · rintro _ _ _ _ _ _ _ _ _ _ hf; exact hf.elim
end Go.Proofs.Ytkfncibmfcdokaa
end

/- XFt2 -/
section
set_option linter.unusedVariables false
set_option linter.unusedSimpArgs false
namespace Go.Proofs.Ytkfncibmfcdokaa
open Go.X

/- (pomander/pomanderref12.Flow).Mark -/
def V_pomanderref12_Flow_Mark (f1 : Int) (f2 : Int) (f3 : Int) (f4 : Option Addr) (f4n : Nat) (f4c : Nat) (f5 : Option Addr) (f5n : Nat) (f5c : Nat) (p1 : Int) (p2 : Int) (n1 : Int) (set1 : Int) (w : World) (R : Int → Int → Int → (Option Addr) → Nat → Nat → (Option Addr) → Nat → Nat → Int → World → Prop) : Prop :=
  ∀ b1 : Nat, b1 = World.size w → ∀ w1 : World, w1 = World.alloc w (.cells #[.int .i64 f1, .int .i64 f2, .int .i64 f3, .slice f4 f4n f4c, .slice f5 f5n f5c] 36) → (∀ b2 : Nat, b2 = World.size w1 → ∀ w2 : World, w2 = World.alloc w1 (.cells #[.int .i64 p1, .int .i64 p2] 56) → (∀ b3 : Nat, b3 = World.size w2 → ∀ w3 : World, w3 = World.alloc w2 (.cells #[.int .i64 0, .int .i64 0, .int .i64 0, .slice none 0 0, .slice none 0 0] 36) → (∃ (t1 : Int) (t2 : Int) (t3 : Int) (t4 : Option Addr) (t4n : Nat) (t4c : Nat) (t5 : Option Addr) (t5n : Nat) (t5c : Nat), CellsAt w3 (⟨b1, 0, none⟩ : Addr) 0 [.int .i64 t1, .int .i64 t2, .int .i64 t3, .slice t4 t4n t4c, .slice t5 t5n t5c] ∧ (∃ (t6 : Int) (t7 : Int), CellsAt w3 (⟨b2, 0, none⟩ : Addr) 0 [.int .i64 t6, .int .i64 t7] ∧ (Calls Try.prog 29 #[.agg #[.int .i64 t1, .int .i64 t2, .int .i64 t3, .slice t4 t4n t4c, .slice t5 t5n t5c], .agg #[.int .i64 t6, .int .i64 t7]] w3 fun e w4 => ∃ (r7 : Bool), e = .returned (.bool r7) ∧ (((!r7 || decide (set1 ≥ 65536)) = true → ∃ (t8 : Int) (t9 : Int) (t10 : Int) (t11 : Option Addr) (t11n : Nat) (t11c : Nat) (t12 : Option Addr) (t12n : Nat) (t12c : Nat), CellsAt w4 (⟨b1, 0, none⟩ : Addr) 0 [.int .i64 t8, .int .i64 t9, .int .i64 t10, .slice t11 t11n t11c, .slice t12 t12n t12c] ∧ (Has w4 (⟨b3, 0, none⟩ : Addr) 5 ∧ Free w4 (⟨b3, 0, none⟩ : Addr) 5 ∧ ∀ w5 : World, w5 = setCells w4 (⟨b3, 0, none⟩ : Addr) 0 [.int .i64 t8, .int .i64 t9, .int .i64 t10, .slice t11 t11n t11c, .slice t12 t12n t12c] → (∃ (r8 : Int) (r9 : Int) (r10 : Int) (r11 : Option Addr) (r11n : Nat) (r11c : Nat) (r12 : Option Addr) (r12n : Nat) (r12c : Nat), CellsAt w5 (⟨b3, 0, none⟩ : Addr) 0 [.int .i64 r8, .int .i64 r9, .int .i64 r10, .slice r11 r11n r11c, .slice r12 r12n r12c] ∧ R r8 r9 r10 r11 r11n r11c r12 r12n r12c 2 w5))) ∧ ((!r7 || decide (set1 ≥ 65536)) = false → ∃ J1 : Bool → World → Prop, (∀ (b4 : Bool) (w6 : World), J1 b4 w6 → (b4 = true → ∃ (t20 : Int) (t21 : Int) (t22 : Int) (t23 : Option Addr) (t23n : Nat) (t23c : Nat) (t24 : Option Addr) (t24n : Nat) (t24c : Nat), CellsAt w6 (⟨b1, 0, none⟩ : Addr) 0 [.int .i64 t20, .int .i64 t21, .int .i64 t22, .slice t23 t23n t23c, .slice t24 t24n t24c] ∧ (Has w6 (⟨b3, 0, none⟩ : Addr) 5 ∧ Free w6 (⟨b3, 0, none⟩ : Addr) 5 ∧ ∀ w9 : World, w9 = setCells w6 (⟨b3, 0, none⟩ : Addr) 0 [.int .i64 t20, .int .i64 t21, .int .i64 t22, .slice t23 t23n t23c, .slice t24 t24n t24c] → (∃ (r14 : Int) (r15 : Int) (r16 : Int) (r17 : Option Addr) (r17n : Nat) (r17c : Nat) (r18 : Option Addr) (r18n : Nat) (r18c : Nat), CellsAt w9 (⟨b3, 0, none⟩ : Addr) 0 [.int .i64 r14, .int .i64 r15, .int .i64 r16, .slice r17 r17n r17c, .slice r18 r18n r18c] ∧ R r14 r15 r16 r17 r17n r17c r18 r18n r18c 4 w9))) ∧ (b4 = false → ∃ (t25 : Int) (t26 : Option Addr) (t26n : Nat) (t26c : Nat), CellsAt w6 (⟨b1, 2, none⟩ : Addr) 0 [.int .i64 t25, .slice t26 t26n t26c] ∧ (Calls Try.prog 104 #[.agg #[.int .i64 t25, .slice t26 t26n t26c], .int .u32 set1] w6 fun e w10 => ∃ (r19 : Int) (r20 : Option Addr) (r20n : Nat) (r20c : Nat) (r21 : Int) (r22 : Int), e = .returned (.tuple #[.agg #[.int .i64 r19, .slice r20 r20n r20c], .int .i64 r21, .int .i64 r22]) ∧ (∀ b6 : Nat, b6 = World.size w10 → ∀ w11 : World, w11 = World.alloc w10 (.cells #[.int .i64 0, .slice none 0 0] 33) → (Has w11 (⟨b6, 0, none⟩ : Addr) 2 ∧ Free w11 (⟨b6, 0, none⟩ : Addr) 2 ∧ ∀ w12 : World, w12 = setCells w11 (⟨b6, 0, none⟩ : Addr) 0 [.int .i64 r19, .slice r20 r20n r20c] → (((!(r22 == 0)) = true → ∃ (t27 : Int) (t28 : Int) (t29 : Int) (t30 : Option Addr) (t30n : Nat) (t30c : Nat) (t31 : Option Addr) (t31n : Nat) (t31c : Nat), CellsAt w12 (⟨b1, 0, none⟩ : Addr) 0 [.int .i64 t27, .int .i64 t28, .int .i64 t29, .slice t30 t30n t30c, .slice t31 t31n t31c] ∧ (Has w12 (⟨b3, 0, none⟩ : Addr) 5 ∧ Free w12 (⟨b3, 0, none⟩ : Addr) 5 ∧ ∀ w13 : World, w13 = setCells w12 (⟨b3, 0, none⟩ : Addr) 0 [.int .i64 t27, .int .i64 t28, .int .i64 t29, .slice t30 t30n t30c, .slice t31 t31n t31c] → (∃ (r23 : Int) (r24 : Int) (r25 : Int) (r26 : Option Addr) (r26n : Nat) (r26c : Nat) (r27 : Option Addr) (r27n : Nat) (r27c : Nat), CellsAt w13 (⟨b3, 0, none⟩ : Addr) 0 [.int .i64 r23, .int .i64 r24, .int .i64 r25, .slice r26 r26n r26c, .slice r27 r27n r27c] ∧ R r23 r24 r25 r26 r26n r26c r27 r27n r27c r22 w13))) ∧ ((!(r22 == 0)) = false → ∃ (t32 : Int) (t33 : Option Addr) (t33n : Nat) (t33c : Nat), CellsAt w12 (⟨b6, 0, none⟩ : Addr) 0 [.int .i64 t32, .slice t33 t33n t33c] ∧ (Has w12 (⟨b1, 2, none⟩ : Addr) 2 ∧ Free w12 (⟨b1, 2, none⟩ : Addr) 2 ∧ ∀ w14 : World, w14 = setCells w12 (⟨b1, 2, none⟩ : Addr) 0 [.int .i64 t32, .slice t33 t33n t33c] → (∃ (I1 : Int → World → Prop) (m1 : Int → World → Nat), I1 0 w14 ∧ ∀ (s1 : Int) (w15 : World), I1 s1 w15 → ((decide (s1 < n1)) = true → ∃ (t34 : Int) (t35 : Int) (t36 : Int) (t37 : Option Addr) (t37n : Nat) (t37c : Nat) (t38 : Option Addr) (t38n : Nat) (t38c : Nat), CellsAt w15 (⟨b1, 0, none⟩ : Addr) 0 [.int .i64 t34, .int .i64 t35, .int .i64 t36, .slice t37 t37n t37c, .slice t38 t38n t38c] ∧ (∃ (t39 : Int), w15.cell? (⟨b2, 0, none⟩ : Addr) = some (.int .i64 t39) ∧ (∃ (t40 : Int), w15.cell? (⟨b2, 1, none⟩ : Addr) = some (.int .i64 t40) ∧ (Calls Try.prog 105 #[.agg #[.int .i64 t34, .int .i64 t35, .int .i64 t36, .slice t37 t37n t37c, .slice t38 t38n t38c], .agg #[.int .i64 t39, .int .i64 (IntKind.wrap .i64 (t40 + s1))], .int .u32 set1] w15 fun e w16 => ∃ (r28 : Int) (r29 : Int) (r30 : Int) (r31 : Option Addr) (r31n : Nat) (r31c : Nat) (r32 : Option Addr) (r32n : Nat) (r32c : Nat), e = .returned (.agg #[.int .i64 r28, .int .i64 r29, .int .i64 r30, .slice r31 r31n r31c, .slice r32 r32n r32c]) ∧ (Has w16 (⟨b1, 0, none⟩ : Addr) 5 ∧ Free w16 (⟨b1, 0, none⟩ : Addr) 5 ∧ ∀ w17 : World, w17 = setCells w16 (⟨b1, 0, none⟩ : Addr) 0 [.int .i64 r28, .int .i64 r29, .int .i64 r30, .slice r31 r31n r31c, .slice r32 r32n r32c] → ((I1 (IntKind.wrap .i64 (s1 + 1)) w17 ∧ m1 (IntKind.wrap .i64 (s1 + 1)) w17 < m1 s1 w15))))))) ∧ ((decide (s1 < n1)) = false → ∃ (t41 : Int) (t42 : Int) (t43 : Int) (t44 : Option Addr) (t44n : Nat) (t44c : Nat) (t45 : Option Addr) (t45n : Nat) (t45c : Nat), CellsAt w15 (⟨b1, 0, none⟩ : Addr) 0 [.int .i64 t41, .int .i64 t42, .int .i64 t43, .slice t44 t44n t44c, .slice t45 t45n t45c] ∧ (Has w15 (⟨b3, 0, none⟩ : Addr) 5 ∧ Free w15 (⟨b3, 0, none⟩ : Addr) 5 ∧ ∀ w18 : World, w18 = setCells w15 (⟨b3, 0, none⟩ : Addr) 0 [.int .i64 t41, .int .i64 t42, .int .i64 t43, .slice t44 t44n t44c, .slice t45 t45n t45c] → (∃ (r33 : Int) (r34 : Int) (r35 : Int) (r36 : Option Addr) (r36n : Nat) (r36c : Nat) (r37 : Option Addr) (r37n : Nat) (r37c : Nat), CellsAt w18 (⟨b3, 0, none⟩ : Addr) 0 [.int .i64 r33, .int .i64 r34, .int .i64 r35, .slice r36 r36n r36c, .slice r37 r37n r37c] ∧ R r33 r34 r35 r36 r36n r36c r37 r37n r37c 0 w18)))))))))))) ∧ (((decide (n1 < 0) || decide (n1 > 65536)) = false → ∃ J2 : Bool → World → Prop, (∀ (b5 : Bool) (w7 : World), J2 b5 w7 → J1 b5 w7) ∧ (((decide (n1 > 0)) = true → ∃ (t13 : Int) (t14 : Int) (t15 : Int) (t16 : Option Addr) (t16n : Nat) (t16c : Nat) (t17 : Option Addr) (t17n : Nat) (t17c : Nat), CellsAt w4 (⟨b1, 0, none⟩ : Addr) 0 [.int .i64 t13, .int .i64 t14, .int .i64 t15, .slice t16 t16n t16c, .slice t17 t17n t17c] ∧ (∃ (t18 : Int), w4.cell? (⟨b2, 0, none⟩ : Addr) = some (.int .i64 t18) ∧ (∃ (t19 : Int), w4.cell? (⟨b2, 1, none⟩ : Addr) = some (.int .i64 t19) ∧ (Calls Try.prog 29 #[.agg #[.int .i64 t13, .int .i64 t14, .int .i64 t15, .slice t16 t16n t16c, .slice t17 t17n t17c], .agg #[.int .i64 t18, .int .i64 (IntKind.wrap .i64 ((IntKind.wrap .i64 (t19 + n1)) - 1))]] w4 fun e w8 => ∃ (r13 : Bool), e = .returned (.bool r13) ∧ (J2 (!r13) w8))))) ∧ ((decide (n1 > 0)) = false → J2 false w4))) ∧ ((decide (n1 < 0) || decide (n1 > 65536)) = true → J1 true w4)))))))))
set_option maxRecDepth 100000 in
theorem ok_pomanderref12_Flow_Mark (f1 : Int) (f2 : Int) (f3 : Int) (f4 : Option Addr) (f4n : Nat) (f4c : Nat) (f5 : Option Addr) (f5n : Nat) (f5c : Nat) (p1 : Int) (p2 : Int) (n1 : Int) (set1 : Int) (w : World) (R : Int → Int → Int → (Option Addr) → Nat → Nat → (Option Addr) → Nat → Nat → Int → World → Prop) (h : V_pomanderref12_Flow_Mark f1 f2 f3 f4 f4n f4c f5 f5n f5c p1 p2 n1 set1 w R) : Calls Try.prog 63 #[.agg #[.int .i64 f1, .int .i64 f2, .int .i64 f3, .slice f4 f4n f4c, .slice f5 f5n f5c], .agg #[.int .i64 p1, .int .i64 p2], .int .i64 n1, .int .u32 set1] w (fun e w' => ∃ (r1 : Int) (r2 : Int) (r3 : Int) (r4 : Option Addr) (r4n : Nat) (r4c : Nat) (r5 : Option Addr) (r5n : Nat) (r5c : Nat) (r6 : Int), e = .returned (.tuple #[.agg #[.int .i64 r1, .int .i64 r2, .int .i64 r3, .slice r4 r4n r4c, .slice r5 r5n r5c], .int .i64 r6]) ∧ R r1 r2 r3 r4 r4n r4c r5 r5n r5c r6 w') := by
  unfold V_pomanderref12_Flow_Mark at h
  refine enter (N := 77) Try.func63 rfl rfl ?_
  refine CW.seq ?_
  refine CW.region fun L hL => ?_
  obtain ⟨b1, hb_b1⟩ : ∃ b1, b1 = World.size w := ⟨_, rfl⟩
  obtain ⟨w1, hw_w1⟩ : ∃ w1, w1 = World.alloc w (.cells #[.int .i64 f1, .int .i64 f2, .int .i64 f3, .slice f4 f4n f4c, .slice f5 f5n f5c] 36) := ⟨_, rfl⟩
  replace h := h b1 hb_b1 w1 hw_w1
  refine LW.val hL rfl (Wants.free rfl) rfl (boxE hb_b1 hw_w1 (Vl.box (v := .agg #[.int .i64 f1, .int .i64 f2, .int .i64 f3, .slice f4 f4n f4c, .slice f5 f5n f5c]) rfl)) ?_
  obtain ⟨b2, hb_b2⟩ : ∃ b2, b2 = World.size w1 := ⟨_, rfl⟩
  obtain ⟨w2, hw_w2⟩ : ∃ w2, w2 = World.alloc w1 (.cells #[.int .i64 p1, .int .i64 p2] 56) := ⟨_, rfl⟩
  replace h := h b2 hb_b2 w2 hw_w2
  refine LW.val hL rfl (Wants.free rfl) rfl (boxE hb_b2 hw_w2 (Vl.box (v := .agg #[.int .i64 p1, .int .i64 p2]) rfl)) ?_
  obtain ⟨b3, hb_b3⟩ : ∃ b3, b3 = World.size w2 := ⟨_, rfl⟩
  obtain ⟨w3, hw_w3⟩ : ∃ w3, w3 = World.alloc w2 (.cells #[.int .i64 0, .int .i64 0, .int .i64 0, .slice none 0 0, .slice none 0 0] 36) := ⟨_, rfl⟩
  replace h := h b3 hb_b3 w3 hw_w3
  refine LW.val hL rfl (Wants.free rfl) rfl (boxE hb_b3 hw_w3 (Vl.alloc (z := .agg #[.int .i64 0, .int .i64 0, .int .i64 0, .slice none 0 0, .slice none 0 0]) (by kernel_rfl))) ?_
  refine LW.rd hL rfl (Wants.free rfl) rfl (Rd.assign (v := .int .i64 0) rfl) ?_
  refine LW.nil hL rfl ?_
  refine NW.then ?_
  refine CW.seq ?_
  refine CW.seq ?_
  refine CW.region fun L hL => ?_
  obtain ⟨t1, t2, t3, t4, t4n, t4c, t5, t5n, t5c, hc1, h⟩ := h
  refine LW.rd hL rfl (Wants.free rfl) rfl (Rd.ldN (cs := [.int .i64 t1, .int .i64 t2, .int .i64 t3, .slice t4 t4n t4c, .slice t5 t5n t5c]) rfl (by kernel_rfl) (by kernel_rfl) (cellsS hc1)) ?_
  obtain ⟨t6, t7, hc2, h⟩ := h
  refine LW.rd hL rfl (Wants.free rfl) rfl (Rd.ldN (cs := [.int .i64 t6, .int .i64 t7]) rfl (by kernel_rfl) (by kernel_rfl) (cellsS hc2)) ?_
  refine LW.call hL rfl (Wants.free rfl) rfl (Cl.fn (f := 29) rfl Try.func29 (by kernel_rfl) rfl) h (fun e w4 h_ => ?_)
  clear h
  obtain ⟨r7, rfl, h⟩ := h_
  refine ⟨_, rfl, ?_⟩
  refine LW.rd hL rfl (Wants.free rfl) rfl (Rd.un (v := .bool (!r7)) rfl (fun _ => by kernel_rfl)) ?_
  refine LW.rd hL rfl (Wants.free rfl) rfl (Rd.move (v := .bool (!r7)) rfl) ?_
  suffices K1 : L 8 [(2, .int .i64 n1), (3, .int .u32 set1), (4, .pointer (some (⟨b1, 0, none⟩ : Addr))), (5, .pointer (some (⟨b2, 0, none⟩ : Addr))), (8, .pointer (some (⟨b3, 0, none⟩ : Addr))), (9, .int .i64 0), (21, .bool (!r7 || decide (set1 ≥ 65536)))] w4 by
    rcases Bool.eq_false_or_eq_true (!r7) with hb2 | hb2
    · skip
      refine LW.skip hL rfl (Skips.on rfl rfl rfl rfl rfl hb2) rfl ?_
      refine LW.skip hL rfl (Skips.on rfl rfl rfl rfl rfl hb2) rfl ?_
      refine LW.rd hL rfl (Wants.free rfl) rfl (Rd.pickT rfl hb2 rfl) ?_
      exact LW.sub hL (by exact ⟨rfl, rfl, rfl, rfl, rfl, rfl, (by rw [hb2]; rfl), trivial⟩) K1
    · skip
      refine LW.rd hL rfl (Wants.on rfl rfl rfl rfl rfl hb2) rfl (Rd.move (v := .int .u32 set1) rfl) ?_
      refine LW.rd hL rfl (Wants.on rfl rfl rfl rfl rfl hb2) rfl (Rd.bin (v := .bool (decide (set1 ≥ 65536))) rfl rfl (fun w => by kernel_rfl)) ?_
      refine LW.rd hL rfl (Wants.free rfl) rfl (Rd.pickF rfl hb2 rfl) ?_
      exact LW.sub hL (by exact ⟨rfl, rfl, rfl, rfl, rfl, rfl, (by rw [hb2]; rfl), trivial⟩) K1
  refine LW.nil hL rfl ?_
  refine NW.then ?_
  refine CW.cond rfl (fun hb3 => ?_) (fun hb3 => ?_)
  · replace h := h.1 hb3
    refine CW.seq ?_
    refine CW.region fun L hL => ?_
    obtain ⟨t8, t9, t10, t11, t11n, t11c, t12, t12n, t12c, hc3, h⟩ := h
    refine LW.rd hL rfl (Wants.free rfl) rfl (Rd.ldN (cs := [.int .i64 t8, .int .i64 t9, .int .i64 t10, .slice t11 t11n t11c, .slice t12 t12n t12c]) rfl (by kernel_rfl) (by kernel_rfl) (cellsS hc3)) ?_
    obtain ⟨ho1, hf1, h⟩ := h
    obtain ⟨w5, hw_w5⟩ : ∃ w5, w5 = setCells w4 (⟨b3, 0, none⟩ : Addr) 0 [.int .i64 t8, .int .i64 t9, .int .i64 t10, .slice t11 t11n t11c, .slice t12 t12n t12c] := ⟨_, rfl⟩
    replace h := h w5 hw_w5
    refine LW.eff hL rfl (Wants.free rfl) rfl (stNE hw_w5 (Ef.stN (cs := [.int .i64 t8, .int .i64 t9, .int .i64 t10, .slice t11 t11n t11c, .slice t12 t12n t12c]) rfl rfl (by kernel_rfl) (List.forall_mem_cons.2 ⟨rfl, (List.forall_mem_cons.2 ⟨rfl, (List.forall_mem_cons.2 ⟨rfl, (List.forall_mem_cons.2 ⟨rfl, (List.forall_mem_cons.2 ⟨rfl, (List.forall_mem_nil _)⟩)⟩)⟩)⟩)⟩) ho1 hf1)) ?_
    refine LW.rd hL rfl (Wants.free rfl) rfl (Rd.assign (v := .int .i64 2) rfl) ?_
    refine LW.nil hL rfl ?_
    refine NW.then ?_
    refine CW.ret ?_
    refine RW.then ?_
    obtain ⟨r8, r9, r10, r11, r11n, r11c, r12, r12n, r12c, hr1, h⟩ := h
    exact resN (vs := [.agg #[.int .i64 r8, .int .i64 r9, .int .i64 r10, .slice r11 r11n r11c, .slice r12 r12n r12c], .int .i64 2]) (ResOK.c rfl (lvN (cs := [.int .i64 r8, .int .i64 r9, .int .i64 r10, .slice r11 r11n r11c, .slice r12 r12n r12c]) (by kernel_rfl) (by kernel_rfl) (cellsAt_get hr1)) (ResOK.t rfl ResOK.nil)) rfl ⟨r8, r9, r10, r11, r11n, r11c, r12, r12n, r12c, 2, rfl, h⟩
  · replace h := h.2 hb3
    refine CW.skip ?_
    refine NW.then ?_
    refine CW.seq ?_
    refine CW.seq ?_
    refine CW.region fun L hL => ?_
    refine LW.rd hL rfl (Wants.free rfl) rfl (Rd.move (v := .int .i64 n1) rfl) ?_
    refine LW.rd hL rfl (Wants.free rfl) rfl (Rd.bin (v := .bool (decide (n1 < 0))) rfl rfl (fun w => by kernel_rfl)) ?_
    refine LW.rd hL rfl (Wants.free rfl) rfl (Rd.move (v := .bool (decide (n1 < 0))) rfl) ?_
    suffices K2 : L 6 [(2, .int .i64 n1), (3, .int .u32 set1), (4, .pointer (some (⟨b1, 0, none⟩ : Addr))), (5, .pointer (some (⟨b2, 0, none⟩ : Addr))), (8, .pointer (some (⟨b3, 0, none⟩ : Addr))), (9, .int .i64 0), (28, .bool (decide (n1 < 0) || decide (n1 > 65536)))] w4 by
      rcases Bool.eq_false_or_eq_true (decide (n1 < 0)) with hb5 | hb5
      · skip
        refine LW.skip hL rfl (Skips.on rfl rfl rfl rfl rfl hb5) rfl ?_
        refine LW.skip hL rfl (Skips.on rfl rfl rfl rfl rfl hb5) rfl ?_
        refine LW.rd hL rfl (Wants.free rfl) rfl (Rd.pickT rfl hb5 rfl) ?_
        exact LW.sub hL (by exact ⟨rfl, rfl, rfl, rfl, rfl, rfl, (by rw [hb5]; rfl), trivial⟩) K2
      · skip
        refine LW.rd hL rfl (Wants.on rfl rfl rfl rfl rfl hb5) rfl (Rd.move (v := .int .i64 n1) rfl) ?_
        refine LW.rd hL rfl (Wants.on rfl rfl rfl rfl rfl hb5) rfl (Rd.bin (v := .bool (decide (n1 > 65536))) rfl rfl (fun w => by kernel_rfl)) ?_
        refine LW.rd hL rfl (Wants.free rfl) rfl (Rd.pickF rfl hb5 rfl) ?_
        exact LW.sub hL (by exact ⟨rfl, rfl, rfl, rfl, rfl, rfl, (by rw [hb5]; rfl), trivial⟩) K2
    refine LW.rd hL rfl (Wants.free rfl) rfl (Rd.move (v := .bool (decide (n1 < 0) || decide (n1 > 65536))) rfl) ?_
    obtain ⟨J1, hJ1, h1_J1, h0_J1⟩ := h
    suffices K3 : ∀ (b4 : Bool) (w6 : World), J1 b4 w6 → L 23 [(2, .int .i64 n1), (3, .int .u32 set1), (4, .pointer (some (⟨b1, 0, none⟩ : Addr))), (5, .pointer (some (⟨b2, 0, none⟩ : Addr))), (8, .pointer (some (⟨b3, 0, none⟩ : Addr))), (9, .int .i64 0), (45, .bool b4)] w6 by
      rcases Bool.eq_false_or_eq_true (decide (n1 < 0) || decide (n1 > 65536)) with hb6 | hb6
      · have h := h0_J1 hb6
        refine LW.skip hL rfl (Skips.on rfl rfl rfl rfl rfl hb6) rfl ?_
        refine LW.skip hL rfl (Skips.on rfl rfl rfl rfl rfl hb6) rfl ?_
        refine LW.skip hL rfl (Skips.on rfl rfl rfl rfl rfl hb6) rfl ?_
        refine LW.skip hL rfl (Skips.un rfl rfl rfl rfl rfl) rfl ?_
        refine LW.skip hL rfl (Skips.un rfl rfl rfl rfl rfl) rfl ?_
        refine LW.skip hL rfl (Skips.un rfl rfl rfl rfl rfl) rfl ?_
        refine LW.skip hL rfl (Skips.un rfl rfl rfl rfl rfl) rfl ?_
        refine LW.skip hL rfl (Skips.un rfl rfl rfl rfl rfl) rfl ?_
        refine LW.skip hL rfl (Skips.un rfl rfl rfl rfl rfl) rfl ?_
        refine LW.skip hL rfl (Skips.un rfl rfl rfl rfl rfl) rfl ?_
        refine LW.skip hL rfl (Skips.un rfl rfl rfl rfl rfl) rfl ?_
        refine LW.skip hL rfl (Skips.un rfl rfl rfl rfl rfl) rfl ?_
        refine LW.skip hL rfl (Skips.un rfl rfl rfl rfl rfl) rfl ?_
        refine LW.skip hL rfl (Skips.un rfl rfl rfl rfl rfl) rfl ?_
        refine LW.skip hL rfl (Skips.on rfl rfl rfl rfl rfl hb6) rfl ?_
        refine LW.rd hL rfl (Wants.free rfl) rfl (Rd.pickT rfl hb6 rfl) ?_
        exact LW.sub hL (by exact ⟨rfl, rfl, rfl, rfl, rfl, rfl, rfl, trivial⟩) (K3 true w4 h)
      · have h := h1_J1 hb6
        refine LW.rd hL rfl (Wants.on rfl rfl rfl rfl rfl hb6) rfl (Rd.move (v := .int .i64 n1) rfl) ?_
        refine LW.rd hL rfl (Wants.on rfl rfl rfl rfl rfl hb6) rfl (Rd.bin (v := .bool (decide (n1 > 0))) rfl rfl (fun w => by kernel_rfl)) ?_
        refine LW.rd hL rfl (Wants.on rfl rfl rfl rfl rfl hb6) rfl (Rd.move (v := .bool (decide (n1 > 0))) rfl) ?_
        obtain ⟨J2, hJ2, h1_J2, h0_J2⟩ := h
        suffices K4 : ∀ (b5 : Bool) (w7 : World), J2 b5 w7 → L 22 [(2, .int .i64 n1), (3, .int .u32 set1), (4, .pointer (some (⟨b1, 0, none⟩ : Addr))), (5, .pointer (some (⟨b2, 0, none⟩ : Addr))), (8, .pointer (some (⟨b3, 0, none⟩ : Addr))), (9, .int .i64 0), (29, .bool (decide (n1 < 0) || decide (n1 > 65536))), (44, .bool b5)] w7 by
          rcases Bool.eq_false_or_eq_true (decide (n1 > 0)) with hb7 | hb7
          · have h := h1_J2 hb7
            obtain ⟨t13, t14, t15, t16, t16n, t16c, t17, t17n, t17c, hc4, h⟩ := h
            refine LW.rd hL rfl (Wants.on rfl rfl rfl rfl rfl hb7) rfl (Rd.ldN (cs := [.int .i64 t13, .int .i64 t14, .int .i64 t15, .slice t16 t16n t16c, .slice t17 t17n t17c]) rfl (by kernel_rfl) (by kernel_rfl) (cellsS hc4)) ?_
            refine LW.rd hL rfl (Wants.on rfl rfl rfl rfl rfl hb7) rfl (Rd.fa (v := .pointer (some (⟨b2, 0, none⟩ : Addr))) rfl (fun _ => by kernel_rfl)) ?_
            obtain ⟨t18, hc5, h⟩ := h
            refine LW.rd hL rfl (Wants.on rfl rfl rfl rfl rfl hb7) rfl (Rd.ld (v := .int .i64 t18) rfl (by kernel_rfl) (eqs hc5)) ?_
            refine LW.rd hL rfl (Wants.on rfl rfl rfl rfl rfl hb7) rfl (Rd.fa (v := .pointer (some (⟨b2, 1, none⟩ : Addr))) rfl (fun _ => by kernel_rfl)) ?_
            obtain ⟨t19, hc6, h⟩ := h
            refine LW.rd hL rfl (Wants.on rfl rfl rfl rfl rfl hb7) rfl (Rd.ld (v := .int .i64 t19) rfl (by kernel_rfl) (eqs hc6)) ?_
            refine LW.rd hL rfl (Wants.on rfl rfl rfl rfl rfl hb7) rfl (Rd.move (v := .int .i64 n1) rfl) ?_
            refine LW.rd hL rfl (Wants.on rfl rfl rfl rfl rfl hb7) rfl (Rd.bin (v := .int .i64 (IntKind.wrap .i64 (t19 + n1))) rfl rfl (fun w => by kernel_rfl)) ?_
            refine LW.rd hL rfl (Wants.on rfl rfl rfl rfl rfl hb7) rfl (Rd.bin (v := .int .i64 (IntKind.wrap .i64 ((IntKind.wrap .i64 (t19 + n1)) - 1))) rfl rfl (fun w => by kernel_rfl)) ?_
            refine LW.rd hL rfl (Wants.on rfl rfl rfl rfl rfl hb7) rfl (Rd.build (v := .agg #[.int .i64 t18, .int .i64 (IntKind.wrap .i64 ((IntKind.wrap .i64 (t19 + n1)) - 1))]) rfl (fun _ => by kernel_rfl)) ?_
            refine LW.call hL rfl (Wants.on rfl rfl rfl rfl rfl hb7) rfl (Cl.fn (f := 29) rfl Try.func29 (by kernel_rfl) rfl) h (fun e w8 h_ => ?_)
            clear h
            obtain ⟨r13, rfl, h⟩ := h_
            refine ⟨_, rfl, ?_⟩
            refine LW.rd hL rfl (Wants.on rfl rfl rfl rfl rfl hb7) rfl (Rd.un (v := .bool (!r13)) rfl (fun _ => by kernel_rfl)) ?_
            refine LW.rd hL rfl (Wants.on rfl rfl rfl rfl rfl hb6) rfl (Rd.pickT rfl hb7 rfl) ?_
            exact LW.sub hL (by exact ⟨rfl, rfl, rfl, rfl, rfl, rfl, rfl, rfl, trivial⟩) (K4 (!r13) w8 h)
          · have h := h0_J2 hb7
            refine LW.skip hL rfl (Skips.on rfl rfl rfl rfl rfl hb7) rfl ?_
            refine LW.skip hL rfl (Skips.on rfl rfl rfl rfl rfl hb7) rfl ?_
            refine LW.skip hL rfl (Skips.on rfl rfl rfl rfl rfl hb7) rfl ?_
            refine LW.skip hL rfl (Skips.on rfl rfl rfl rfl rfl hb7) rfl ?_
            refine LW.skip hL rfl (Skips.on rfl rfl rfl rfl rfl hb7) rfl ?_
            refine LW.skip hL rfl (Skips.on rfl rfl rfl rfl rfl hb7) rfl ?_
            refine LW.skip hL rfl (Skips.on rfl rfl rfl rfl rfl hb7) rfl ?_
            refine LW.skip hL rfl (Skips.on rfl rfl rfl rfl rfl hb7) rfl ?_
            refine LW.skip hL rfl (Skips.on rfl rfl rfl rfl rfl hb7) rfl ?_
            refine LW.skip hL rfl (Skips.on rfl rfl rfl rfl rfl hb7) rfl ?_
            refine LW.skip hL rfl (Skips.on rfl rfl rfl rfl rfl hb7) rfl ?_
            refine LW.rd hL rfl (Wants.on rfl rfl rfl rfl rfl hb6) rfl (Rd.pickF rfl hb7 rfl) ?_
            exact LW.sub hL (by exact ⟨rfl, rfl, rfl, rfl, rfl, rfl, rfl, rfl, trivial⟩) (K4 false w4 h)
        intro b5 w7 h_
        have h := hJ2 b5 w7 h_; clear h_
        refine LW.rd hL rfl (Wants.free rfl) rfl (Rd.pickF rfl hb6 rfl) ?_
        exact LW.sub hL (by exact ⟨rfl, rfl, rfl, rfl, rfl, rfl, rfl, trivial⟩) (K3 b5 w7 h)
    intro b4 w6 h_
    have h := hJ1 b4 w6 h_; clear h_
    refine LW.nil hL rfl ?_
    refine NW.then ?_
    refine CW.cond rfl (fun hb8 => ?_) (fun hb8 => ?_)
    · replace h := h.1 hb8
      refine CW.seq ?_
      refine CW.region fun L hL => ?_
      obtain ⟨t20, t21, t22, t23, t23n, t23c, t24, t24n, t24c, hc7, h⟩ := h
      refine LW.rd hL rfl (Wants.free rfl) rfl (Rd.ldN (cs := [.int .i64 t20, .int .i64 t21, .int .i64 t22, .slice t23 t23n t23c, .slice t24 t24n t24c]) rfl (by kernel_rfl) (by kernel_rfl) (cellsS hc7)) ?_
      obtain ⟨ho2, hf2, h⟩ := h
      obtain ⟨w9, hw_w9⟩ : ∃ w9, w9 = setCells w6 (⟨b3, 0, none⟩ : Addr) 0 [.int .i64 t20, .int .i64 t21, .int .i64 t22, .slice t23 t23n t23c, .slice t24 t24n t24c] := ⟨_, rfl⟩
      replace h := h w9 hw_w9
      refine LW.eff hL rfl (Wants.free rfl) rfl (stNE hw_w9 (Ef.stN (cs := [.int .i64 t20, .int .i64 t21, .int .i64 t22, .slice t23 t23n t23c, .slice t24 t24n t24c]) rfl rfl (by kernel_rfl) (List.forall_mem_cons.2 ⟨rfl, (List.forall_mem_cons.2 ⟨rfl, (List.forall_mem_cons.2 ⟨rfl, (List.forall_mem_cons.2 ⟨rfl, (List.forall_mem_cons.2 ⟨rfl, (List.forall_mem_nil _)⟩)⟩)⟩)⟩)⟩) ho2 hf2)) ?_
      refine LW.rd hL rfl (Wants.free rfl) rfl (Rd.assign (v := .int .i64 4) rfl) ?_
      refine LW.nil hL rfl ?_
      refine NW.then ?_
      refine CW.ret ?_
      refine RW.then ?_
      obtain ⟨r14, r15, r16, r17, r17n, r17c, r18, r18n, r18c, hr2, h⟩ := h
      exact resN (vs := [.agg #[.int .i64 r14, .int .i64 r15, .int .i64 r16, .slice r17 r17n r17c, .slice r18 r18n r18c], .int .i64 4]) (ResOK.c rfl (lvN (cs := [.int .i64 r14, .int .i64 r15, .int .i64 r16, .slice r17 r17n r17c, .slice r18 r18n r18c]) (by kernel_rfl) (by kernel_rfl) (cellsAt_get hr2)) (ResOK.t rfl ResOK.nil)) rfl ⟨r14, r15, r16, r17, r17n, r17c, r18, r18n, r18c, 4, rfl, h⟩
    · replace h := h.2 hb8
      refine CW.skip ?_
      refine NW.then ?_
      refine CW.seq ?_
      refine CW.region fun L hL => ?_
      refine LW.rd hL rfl (Wants.free rfl) rfl (Rd.fa (v := .pointer (some (⟨b1, 2, none⟩ : Addr))) rfl (fun _ => by kernel_rfl)) ?_
      obtain ⟨t25, t26, t26n, t26c, hc8, h⟩ := h
      refine LW.rd hL rfl (Wants.free rfl) rfl (Rd.ldN (cs := [.int .i64 t25, .slice t26 t26n t26c]) rfl (by kernel_rfl) (by kernel_rfl) (cellsS hc8)) ?_
      refine LW.rd hL rfl (Wants.free rfl) rfl (Rd.move (v := .int .u32 set1) rfl) ?_
      refine LW.call hL rfl (Wants.free rfl) rfl (Cl.fn (f := 104) rfl Try.func104 (by kernel_rfl) rfl) h (fun e w10 h_ => ?_)
      clear h
      obtain ⟨r19, r20, r20n, r20c, r21, r22, rfl, h⟩ := h_
      refine ⟨_, rfl, ?_⟩
      refine LW.rd hL rfl (Wants.free rfl) rfl (Rd.move (v := .tuple #[.agg #[.int .i64 r19, .slice r20 r20n r20c], .int .i64 r21, .int .i64 r22]) rfl) ?_
      refine LW.rd hL rfl (Wants.free rfl) rfl (Rd.extract (v := .agg #[.int .i64 r19, .slice r20 r20n r20c]) rfl rfl) ?_
      refine LW.rd hL rfl (Wants.free rfl) rfl (Rd.extract (v := .int .i64 r21) rfl rfl) ?_
      refine LW.rd hL rfl (Wants.free rfl) rfl (Rd.extract (v := .int .i64 r22) rfl rfl) ?_
      obtain ⟨b6, hb_b6⟩ : ∃ b6, b6 = World.size w10 := ⟨_, rfl⟩
      obtain ⟨w11, hw_w11⟩ : ∃ w11, w11 = World.alloc w10 (.cells #[.int .i64 0, .slice none 0 0] 33) := ⟨_, rfl⟩
      replace h := h b6 hb_b6 w11 hw_w11
      refine LW.val hL rfl (Wants.free rfl) rfl (boxE hb_b6 hw_w11 (Vl.alloc (z := .agg #[.int .i64 0, .slice none 0 0]) (by kernel_rfl))) ?_
      obtain ⟨ho3, hf3, h⟩ := h
      obtain ⟨w12, hw_w12⟩ : ∃ w12, w12 = setCells w11 (⟨b6, 0, none⟩ : Addr) 0 [.int .i64 r19, .slice r20 r20n r20c] := ⟨_, rfl⟩
      replace h := h w12 hw_w12
      refine LW.eff hL rfl (Wants.free rfl) rfl (stNE hw_w12 (Ef.stN (cs := [.int .i64 r19, .slice r20 r20n r20c]) rfl rfl (by kernel_rfl) (List.forall_mem_cons.2 ⟨rfl, (List.forall_mem_cons.2 ⟨rfl, (List.forall_mem_nil _)⟩)⟩) ho3 hf3)) ?_
      refine LW.rd hL rfl (Wants.free rfl) rfl (Rd.assign (v := .int .i64 r21) rfl) ?_
      refine LW.rd hL rfl (Wants.free rfl) rfl (Rd.assign (v := .int .i64 r22) rfl) ?_
      refine LW.nil hL rfl ?_
      refine NW.then ?_
      refine CW.seq ?_
      refine CW.seq ?_
      refine CW.region fun L hL => ?_
      refine LW.rd hL rfl (Wants.free rfl) rfl (Rd.move (v := .int .i64 r22) rfl) ?_
      refine LW.rd hL rfl (Wants.free rfl) rfl (Rd.bin (v := .bool (!(r22 == 0))) rfl rfl (fun w => by kernel_rfl)) ?_
      refine LW.nil hL rfl ?_
      refine NW.then ?_
      refine CW.cond rfl (fun hb9 => ?_) (fun hb9 => ?_)
      · replace h := h.1 hb9
        refine CW.seq ?_
        refine CW.region fun L hL => ?_
        obtain ⟨t27, t28, t29, t30, t30n, t30c, t31, t31n, t31c, hc9, h⟩ := h
        refine LW.rd hL rfl (Wants.free rfl) rfl (Rd.ldN (cs := [.int .i64 t27, .int .i64 t28, .int .i64 t29, .slice t30 t30n t30c, .slice t31 t31n t31c]) rfl (by kernel_rfl) (by kernel_rfl) (cellsS hc9)) ?_
        refine LW.rd hL rfl (Wants.free rfl) rfl (Rd.move (v := .int .i64 r22) rfl) ?_
        obtain ⟨ho4, hf4, h⟩ := h
        obtain ⟨w13, hw_w13⟩ : ∃ w13, w13 = setCells w12 (⟨b3, 0, none⟩ : Addr) 0 [.int .i64 t27, .int .i64 t28, .int .i64 t29, .slice t30 t30n t30c, .slice t31 t31n t31c] := ⟨_, rfl⟩
        replace h := h w13 hw_w13
        refine LW.eff hL rfl (Wants.free rfl) rfl (stNE hw_w13 (Ef.stN (cs := [.int .i64 t27, .int .i64 t28, .int .i64 t29, .slice t30 t30n t30c, .slice t31 t31n t31c]) rfl rfl (by kernel_rfl) (List.forall_mem_cons.2 ⟨rfl, (List.forall_mem_cons.2 ⟨rfl, (List.forall_mem_cons.2 ⟨rfl, (List.forall_mem_cons.2 ⟨rfl, (List.forall_mem_cons.2 ⟨rfl, (List.forall_mem_nil _)⟩)⟩)⟩)⟩)⟩) ho4 hf4)) ?_
        refine LW.rd hL rfl (Wants.free rfl) rfl (Rd.assign (v := .int .i64 r22) rfl) ?_
        refine LW.nil hL rfl ?_
        refine NW.then ?_
        refine CW.ret ?_
        refine RW.then ?_
        obtain ⟨r23, r24, r25, r26, r26n, r26c, r27, r27n, r27c, hr3, h⟩ := h
        exact resN (vs := [.agg #[.int .i64 r23, .int .i64 r24, .int .i64 r25, .slice r26 r26n r26c, .slice r27 r27n r27c], .int .i64 r22]) (ResOK.c rfl (lvN (cs := [.int .i64 r23, .int .i64 r24, .int .i64 r25, .slice r26 r26n r26c, .slice r27 r27n r27c]) (by kernel_rfl) (by kernel_rfl) (cellsAt_get hr3)) (ResOK.t rfl ResOK.nil)) rfl ⟨r23, r24, r25, r26, r26n, r26c, r27, r27n, r27c, r22, rfl, h⟩
      · replace h := h.2 hb9
        refine CW.skip ?_
        refine NW.then ?_
        refine CW.seq ?_
        refine CW.region fun L hL => ?_
        obtain ⟨t32, t33, t33n, t33c, hc10, h⟩ := h
        refine LW.rd hL rfl (Wants.free rfl) rfl (Rd.ldN (cs := [.int .i64 t32, .slice t33 t33n t33c]) rfl (by kernel_rfl) (by kernel_rfl) (cellsS hc10)) ?_
        refine LW.rd hL rfl (Wants.free rfl) rfl (Rd.fa (v := .pointer (some (⟨b1, 2, none⟩ : Addr))) rfl (fun _ => by kernel_rfl)) ?_
        obtain ⟨ho5, hf5, h⟩ := h
        obtain ⟨w14, hw_w14⟩ : ∃ w14, w14 = setCells w12 (⟨b1, 2, none⟩ : Addr) 0 [.int .i64 t32, .slice t33 t33n t33c] := ⟨_, rfl⟩
        replace h := h w14 hw_w14
        refine LW.eff hL rfl (Wants.free rfl) rfl (stNE hw_w14 (Ef.stN (cs := [.int .i64 t32, .slice t33 t33n t33c]) rfl rfl (by kernel_rfl) (List.forall_mem_cons.2 ⟨rfl, (List.forall_mem_cons.2 ⟨rfl, (List.forall_mem_nil _)⟩)⟩) ho5 hf5)) ?_
        refine LW.nil hL rfl ?_
        refine NW.then ?_
        refine CW.seq ?_
        refine CW.seq ?_
        refine CW.region fun L hL => ?_
        refine LW.rd hL rfl (Wants.free rfl) rfl (Rd.assign (v := .int .i64 0) rfl) ?_
        refine LW.nil hL rfl ?_
        refine NW.then ?_
        refine CW.block ?_
        obtain ⟨I1, m1, hI1, h⟩ := h
        refine CW.loop (S := Int) (fun s1 => [(2, .int .i64 n1), (3, .int .u32 set1), (4, .pointer (some (⟨b1, 0, none⟩ : Addr))), (5, .pointer (some (⟨b2, 0, none⟩ : Addr))), (8, .pointer (some (⟨b3, 0, none⟩ : Addr))), (9, .int .i64 0), (13, .int .i64 s1)]) I1 m1 0 (by exact ⟨rfl, rfl, rfl, rfl, rfl, rfl, rfl, trivial⟩) hI1 (fun s1 w15 hI1 => ?_)
        replace h := h s1 w15 hI1
        refine CW.seq ?_
        refine CW.seq ?_
        refine CW.region fun L hL => ?_
        refine LW.rd hL rfl (Wants.free rfl) rfl (Rd.move (v := .int .i64 s1) rfl) ?_
        refine LW.rd hL rfl (Wants.free rfl) rfl (Rd.move (v := .int .i64 n1) rfl) ?_
        refine LW.rd hL rfl (Wants.free rfl) rfl (Rd.bin (v := .bool (decide (s1 < n1))) rfl rfl (fun w => by kernel_rfl)) ?_
        refine LW.nil hL rfl ?_
        refine NW.then ?_
        refine CW.cond rfl (fun hb10 => ?_) (fun hb10 => ?_)
        · replace h := h.1 hb10
          refine CW.skip ?_
          refine NW.then ?_
          refine CW.seq ?_
          refine CW.block ?_
          refine CW.region fun L hL => ?_
          obtain ⟨t34, t35, t36, t37, t37n, t37c, t38, t38n, t38c, hc11, h⟩ := h
          refine LW.rd hL rfl (Wants.free rfl) rfl (Rd.ldN (cs := [.int .i64 t34, .int .i64 t35, .int .i64 t36, .slice t37 t37n t37c, .slice t38 t38n t38c]) rfl (by kernel_rfl) (by kernel_rfl) (cellsS hc11)) ?_
          refine LW.rd hL rfl (Wants.free rfl) rfl (Rd.fa (v := .pointer (some (⟨b2, 0, none⟩ : Addr))) rfl (fun _ => by kernel_rfl)) ?_
          obtain ⟨t39, hc12, h⟩ := h
          refine LW.rd hL rfl (Wants.free rfl) rfl (Rd.ld (v := .int .i64 t39) rfl (by kernel_rfl) (eqs hc12)) ?_
          refine LW.rd hL rfl (Wants.free rfl) rfl (Rd.fa (v := .pointer (some (⟨b2, 1, none⟩ : Addr))) rfl (fun _ => by kernel_rfl)) ?_
          obtain ⟨t40, hc13, h⟩ := h
          refine LW.rd hL rfl (Wants.free rfl) rfl (Rd.ld (v := .int .i64 t40) rfl (by kernel_rfl) (eqs hc13)) ?_
          refine LW.rd hL rfl (Wants.free rfl) rfl (Rd.move (v := .int .i64 s1) rfl) ?_
          refine LW.rd hL rfl (Wants.free rfl) rfl (Rd.bin (v := .int .i64 (IntKind.wrap .i64 (t40 + s1))) rfl rfl (fun w => by kernel_rfl)) ?_
          refine LW.rd hL rfl (Wants.free rfl) rfl (Rd.build (v := .agg #[.int .i64 t39, .int .i64 (IntKind.wrap .i64 (t40 + s1))]) rfl (fun _ => by kernel_rfl)) ?_
          refine LW.rd hL rfl (Wants.free rfl) rfl (Rd.move (v := .int .u32 set1) rfl) ?_
          refine LW.call hL rfl (Wants.free rfl) rfl (Cl.fn (f := 105) rfl Try.func105 (by kernel_rfl) rfl) h (fun e w16 h_ => ?_)
          clear h
          obtain ⟨r28, r29, r30, r31, r31n, r31c, r32, r32n, r32c, rfl, h⟩ := h_
          refine ⟨_, rfl, ?_⟩
          obtain ⟨ho6, hf6, h⟩ := h
          obtain ⟨w17, hw_w17⟩ : ∃ w17, w17 = setCells w16 (⟨b1, 0, none⟩ : Addr) 0 [.int .i64 r28, .int .i64 r29, .int .i64 r30, .slice r31 r31n r31c, .slice r32 r32n r32c] := ⟨_, rfl⟩
          replace h := h w17 hw_w17
          refine LW.eff hL rfl (Wants.free rfl) rfl (stNE hw_w17 (Ef.stN (cs := [.int .i64 r28, .int .i64 r29, .int .i64 r30, .slice r31 r31n r31c, .slice r32 r32n r32c]) rfl rfl (by kernel_rfl) (List.forall_mem_cons.2 ⟨rfl, (List.forall_mem_cons.2 ⟨rfl, (List.forall_mem_cons.2 ⟨rfl, (List.forall_mem_cons.2 ⟨rfl, (List.forall_mem_cons.2 ⟨rfl, (List.forall_mem_nil _)⟩)⟩)⟩)⟩)⟩) ho6 hf6)) ?_
          refine LW.nil hL rfl ?_
          refine NW.block ?_
          refine NW.then ?_
          refine CW.region fun L hL => ?_
          refine LW.rd hL rfl (Wants.free rfl) rfl (Rd.move (v := .int .i64 s1) rfl) ?_
          refine LW.rd hL rfl (Wants.free rfl) rfl (Rd.bin (v := .int .i64 (IntKind.wrap .i64 (s1 + 1))) rfl rfl (fun w => by kernel_rfl)) ?_
          refine LW.rd hL rfl (Wants.free rfl) rfl (Rd.assign (v := .int .i64 (IntKind.wrap .i64 (s1 + 1))) rfl) ?_
          refine LW.nil hL rfl ?_
          exact NW.loop (S := Int) (Ek := fun s1 => [(2, .int .i64 n1), (3, .int .u32 set1), (4, .pointer (some (⟨b1, 0, none⟩ : Addr))), (5, .pointer (some (⟨b2, 0, none⟩ : Addr))), (8, .pointer (some (⟨b3, 0, none⟩ : Addr))), (9, .int .i64 0), (13, .int .i64 s1)]) (IntKind.wrap .i64 (s1 + 1)) (by exact ⟨rfl, rfl, rfl, rfl, rfl, rfl, rfl, trivial⟩) h
        · replace h := h.2 hb10
          refine CW.exit ?_
          refine XW.then ?_
          refine XW.then ?_
          refine XW.hit ?_
          refine NW.then ?_
          refine CW.seq ?_
          refine CW.region fun L hL => ?_
          obtain ⟨t41, t42, t43, t44, t44n, t44c, t45, t45n, t45c, hc14, h⟩ := h
          refine LW.rd hL rfl (Wants.free rfl) rfl (Rd.ldN (cs := [.int .i64 t41, .int .i64 t42, .int .i64 t43, .slice t44 t44n t44c, .slice t45 t45n t45c]) rfl (by kernel_rfl) (by kernel_rfl) (cellsS hc14)) ?_
          obtain ⟨ho7, hf7, h⟩ := h
          obtain ⟨w18, hw_w18⟩ : ∃ w18, w18 = setCells w15 (⟨b3, 0, none⟩ : Addr) 0 [.int .i64 t41, .int .i64 t42, .int .i64 t43, .slice t44 t44n t44c, .slice t45 t45n t45c] := ⟨_, rfl⟩
          replace h := h w18 hw_w18
          refine LW.eff hL rfl (Wants.free rfl) rfl (stNE hw_w18 (Ef.stN (cs := [.int .i64 t41, .int .i64 t42, .int .i64 t43, .slice t44 t44n t44c, .slice t45 t45n t45c]) rfl rfl (by kernel_rfl) (List.forall_mem_cons.2 ⟨rfl, (List.forall_mem_cons.2 ⟨rfl, (List.forall_mem_cons.2 ⟨rfl, (List.forall_mem_cons.2 ⟨rfl, (List.forall_mem_cons.2 ⟨rfl, (List.forall_mem_nil _)⟩)⟩)⟩)⟩)⟩) ho7 hf7)) ?_
          refine LW.rd hL rfl (Wants.free rfl) rfl (Rd.assign (v := .int .i64 0) rfl) ?_
          refine LW.nil hL rfl ?_
          refine NW.then ?_
          refine CW.ret ?_
          obtain ⟨r33, r34, r35, r36, r36n, r36c, r37, r37n, r37c, hr4, h⟩ := h
          exact resN (vs := [.agg #[.int .i64 r33, .int .i64 r34, .int .i64 r35, .slice r36 r36n r36c, .slice r37 r37n r37c], .int .i64 0]) (ResOK.c rfl (lvN (cs := [.int .i64 r33, .int .i64 r34, .int .i64 r35, .slice r36 r36n r36c, .slice r37 r37n r37c]) (by kernel_rfl) (by kernel_rfl) (cellsAt_get hr4)) (ResOK.t rfl ResOK.nil)) rfl ⟨r33, r34, r35, r36, r36n, r36c, r37, r37n, r37c, 0, rfl, h⟩

/- (*pomander/policy.Policy).none -/
def V_policy_Policy_none (p1 : Option Addr) (w : World) (R : Bool → World → Prop) : Prop :=
  ∃ J1 : Bool → World → Prop, (∀ (b1 : Bool) (w1 : World), J1 b1 w1 → R b1 w1) ∧ (((Option.isNone p1) = false → ∃ a1 : Addr, p1 = some a1 ∧ (∃ (t1 : Bool), w.cell? (a1.add 11) = some (.bool t1) ∧ (J1 (!t1) w))) ∧ ((Option.isNone p1) = true → J1 true w))
set_option maxRecDepth 100000 in
theorem ok_policy_Policy_none (p1 : Option Addr) (w : World) (R : Bool → World → Prop) (h : V_policy_Policy_none p1 w R) : Calls Try.prog 64 #[.pointer p1] w (fun e w' => ∃ (r1 : Bool), e = .returned (.bool r1) ∧ R r1 w') := by
  unfold V_policy_Policy_none at h
  refine enter (N := 12) Try.func64 rfl rfl ?_
  refine CW.seq ?_
  refine CW.region fun L hL => ?_
  refine LW.rd hL rfl (Wants.free rfl) rfl (Rd.assign (v := .bool false) rfl) ?_
  refine LW.nil hL rfl ?_
  refine NW.then ?_
  refine CW.seq ?_
  refine CW.region fun L hL => ?_
  refine LW.rd hL rfl (Wants.free rfl) rfl (Rd.move (v := .pointer p1) rfl) ?_
  refine LW.rd hL rfl (Wants.free rfl) rfl (Rd.bin (v := .bool (Option.isNone p1)) rfl rfl (fun w => ptr_nil_eq (by kernel_rfl) p1 w)) ?_
  refine LW.rd hL rfl (Wants.free rfl) rfl (Rd.move (v := .bool (Option.isNone p1)) rfl) ?_
  obtain ⟨J1, hJ1, h1_J1, h0_J1⟩ := h
  suffices K1 : ∀ (b1 : Bool) (w1 : World), J1 b1 w1 → L 9 [(2, .bool false), (11, .bool b1)] w1 by
    rcases Bool.eq_false_or_eq_true (Option.isNone p1) with hb1 | hb1
    · have h := h0_J1 hb1
      refine LW.skip hL rfl (Skips.on rfl rfl rfl rfl rfl hb1) rfl ?_
      refine LW.skip hL rfl (Skips.on rfl rfl rfl rfl rfl hb1) rfl ?_
      refine LW.skip hL rfl (Skips.on rfl rfl rfl rfl rfl hb1) rfl ?_
      refine LW.skip hL rfl (Skips.on rfl rfl rfl rfl rfl hb1) rfl ?_
      refine LW.skip hL rfl (Skips.on rfl rfl rfl rfl rfl hb1) rfl ?_
      refine LW.rd hL rfl (Wants.free rfl) rfl (Rd.pickT rfl hb1 rfl) ?_
      exact LW.sub hL (by exact ⟨rfl, rfl, trivial⟩) (K1 true w h)
    · have h := h1_J1 hb1
      refine LW.rd hL rfl (Wants.on rfl rfl rfl rfl rfl hb1) rfl (Rd.move (v := .pointer p1) rfl) ?_
      obtain ⟨a1, ha1, h⟩ := h
      refine LW.rd hL rfl (Wants.on rfl rfl rfl rfl rfl hb1) rfl (Rd.nil (q := a1) (by rw [← ha1]; rfl)) ?_
      refine LW.rd hL rfl (Wants.on rfl rfl rfl rfl rfl hb1) rfl (Rd.fa (v := .pointer (some (a1.add 11))) rfl (fun _ => by kernel_rfl)) ?_
      obtain ⟨t1, hc1, h⟩ := h
      refine LW.rd hL rfl (Wants.on rfl rfl rfl rfl rfl hb1) rfl (Rd.ld (v := .bool t1) rfl (by kernel_rfl) (eqs hc1)) ?_
      refine LW.rd hL rfl (Wants.on rfl rfl rfl rfl rfl hb1) rfl (Rd.un (v := .bool (!t1)) rfl (fun _ => by kernel_rfl)) ?_
      refine LW.rd hL rfl (Wants.free rfl) rfl (Rd.pickF rfl hb1 rfl) ?_
      exact LW.sub hL (by exact ⟨rfl, rfl, trivial⟩) (K1 (!t1) w h)
  intro b1 w1 h_
  have h := hJ1 b1 w1 h_; clear h_
  refine LW.rd hL rfl (Wants.free rfl) rfl (Rd.assign (v := .bool b1) rfl) ?_
  refine LW.nil hL rfl ?_
  refine NW.then ?_
  refine CW.ret ?_
  exact res1 rfl rfl ⟨b1, rfl, h⟩

/- (*pomander/flow.Flow).Decides -/
def V_flow_Flow_Decides (f1 : Option Addr) (l1 : Option Addr) (l1n : Nat) (l1c : Nat) (w : World) (R : Int → Int → World → Prop) : Prop :=
  Calls Try.prog 73 #[.pointer f1] w fun e w1 => ∃ (r3 : Bool), e = .returned (.bool r3) ∧ ((r3 = true → R 0 1 w1) ∧ (r3 = false → Calls Try.prog 81 #[.pointer f1, .slice l1 l1n l1c] w1 fun e w2 => ∃ (r4 : Bool), e = .returned (.bool r4) ∧ (((!r4) = true → R 0 2 w2) ∧ ((!r4) = false → ∃ (I1 : Int × Int → World → Prop) (m1 : Int × Int → World → Nat), I1 (0, 0) w2 ∧ ∀ (s1 : Int × Int) (w3 : World), I1 s1 w3 → ((decide (s1.2 < (l1n : Int))) = true → ∃ J1 : Int → World → Prop, (∀ (s2 : Int) (w4 : World), J1 s2 w4 → (I1 (s2, IntKind.wrap .i64 (s1.2 + 1)) w4 ∧ m1 (s2, IntKind.wrap .i64 (s1.2 + 1)) w4 < m1 s1 w3)) ∧ (∃ a1 : Addr, l1 = some a1 ∧ (0 : Int) ≤ s1.2 ∧ s1.2 < (l1n : Int) ∧ (∃ (t1 : Int) (t2 : Int) (t3 : Option Addr) (t3n : Nat) (t3c : Nat), CellsAt w3 (a1.add (Int.toNat s1.2 * 3)) 0 [.int .i64 t1, .int .i64 t2, .slice t3 t3n t3c] ∧ (∀ b1 : Nat, b1 = World.size w3 → ∀ w5 : World, w5 = World.alloc w3 (.cells #[.int .i64 0, .int .i64 0, .slice none 0 0] 81) → (Has w5 (⟨b1, 0, none⟩ : Addr) 3 ∧ Free w5 (⟨b1, 0, none⟩ : Addr) 3 ∧ ∀ w6 : World, w6 = setCells w5 (⟨b1, 0, none⟩ : Addr) 0 [.int .i64 t1, .int .i64 t2, .slice t3 t3n t3c] → (∃ (t4 : Int) (t5 : Int), CellsAt w6 (⟨b1, 0, none⟩ : Addr) 0 [.int .i64 t4, .int .i64 t5] ∧ ((((t4 == 0) && (t5 == 0)) = true → ∃ (t6 : Option Addr) (t6n : Nat) (t6c : Nat), w6.cell? (⟨b1, 2, none⟩ : Addr) = some (.slice t6 t6n t6c) ∧ (Calls Try.prog 82 #[.pointer f1, .slice t6 t6n t6c] w6 fun e w7 => ∃ (r5 : Int), e = .returned (.int .u32 r5) ∧ (J1 (bits .or .u32 s1.1 r5) w7))) ∧ (((t4 == 0) && (t5 == 0)) = false → J1 s1.1 w6)))))))) ∧ ((decide (s1.2 < (l1n : Int))) = false → R s1.1 0 w3)))))
set_option maxRecDepth 100000 in
theorem ok_flow_Flow_Decides (f1 : Option Addr) (l1 : Option Addr) (l1n : Nat) (l1c : Nat) (w : World) (R : Int → Int → World → Prop) (h : V_flow_Flow_Decides f1 l1 l1n l1c w R) : Calls Try.prog 65 #[.pointer f1, .slice l1 l1n l1c] w (fun e w' => ∃ (r1 : Int) (r2 : Int), e = .returned (.tuple #[.int .u32 r1, .int .i64 r2]) ∧ R r1 r2 w') := by
  unfold V_flow_Flow_Decides at h
  refine enter (N := 35) Try.func65 rfl rfl ?_
  refine CW.seq ?_
  refine CW.region fun L hL => ?_
  refine LW.rd hL rfl (Wants.free rfl) rfl (Rd.assign (v := .int .u32 0) rfl) ?_
  refine LW.rd hL rfl (Wants.free rfl) rfl (Rd.assign (v := .int .i64 0) rfl) ?_
  refine LW.nil hL rfl ?_
  refine NW.then ?_
  refine CW.seq ?_
  refine CW.block ?_
  refine CW.seq ?_
  refine CW.region fun L hL => ?_
  refine LW.rd hL rfl (Wants.free rfl) rfl (Rd.move (v := .pointer f1) rfl) ?_
  refine LW.call hL rfl (Wants.free rfl) rfl (Cl.fn (f := 73) rfl Try.func73 (by kernel_rfl) rfl) h (fun e w1 h_ => ?_)
  clear h
  obtain ⟨r3, rfl, h⟩ := h_
  refine ⟨_, rfl, ?_⟩
  refine LW.rd hL rfl (Wants.free rfl) rfl (Rd.assign (v := .bool r3) rfl) ?_
  refine LW.nil hL rfl ?_
  refine NW.then ?_
  refine CW.cond rfl (fun hb1 => ?_) (fun hb1 => ?_)
  · replace h := h.1 hb1
    refine CW.seq ?_
    refine CW.region fun L hL => ?_
    refine LW.rd hL rfl (Wants.free rfl) rfl (Rd.assign (v := .int .u32 0) rfl) ?_
    refine LW.rd hL rfl (Wants.free rfl) rfl (Rd.assign (v := .int .i64 1) rfl) ?_
    refine LW.nil hL rfl ?_
    refine NW.then ?_
    refine CW.ret ?_
    refine RW.block ?_
    refine RW.then ?_
    exact res2 rfl rfl rfl ⟨0, 1, rfl, h⟩
  · replace h := h.2 hb1
    refine CW.seq ?_
    refine CW.region fun L hL => ?_
    refine LW.rd hL rfl (Wants.free rfl) rfl (Rd.move (v := .pointer f1) rfl) ?_
    refine LW.rd hL rfl (Wants.free rfl) rfl (Rd.move (v := .slice l1 l1n l1c) rfl) ?_
    refine LW.call hL rfl (Wants.free rfl) rfl (Cl.fn (f := 81) rfl Try.func81 (by kernel_rfl) rfl) h (fun e w2 h_ => ?_)
    clear h
    obtain ⟨r4, rfl, h⟩ := h_
    refine ⟨_, rfl, ?_⟩
    refine LW.rd hL rfl (Wants.free rfl) rfl (Rd.un (v := .bool (!r4)) rfl (fun _ => by kernel_rfl)) ?_
    refine LW.rd hL rfl (Wants.free rfl) rfl (Rd.assign (v := .bool (!r4)) rfl) ?_
    refine LW.nil hL rfl ?_
    refine NW.then ?_
    refine CW.cond rfl (fun hb2 => ?_) (fun hb2 => ?_)
    · replace h := h.1 hb2
      refine CW.seq ?_
      refine CW.region fun L hL => ?_
      refine LW.rd hL rfl (Wants.free rfl) rfl (Rd.assign (v := .int .u32 0) rfl) ?_
      refine LW.rd hL rfl (Wants.free rfl) rfl (Rd.assign (v := .int .i64 2) rfl) ?_
      refine LW.nil hL rfl ?_
      refine NW.then ?_
      refine CW.ret ?_
      refine RW.block ?_
      refine RW.then ?_
      exact res2 rfl rfl rfl ⟨0, 2, rfl, h⟩
    · replace h := h.2 hb2
      refine CW.skip ?_
      refine NW.block ?_
      refine NW.then ?_
      refine CW.seq ?_
      refine CW.region fun L hL => ?_
      refine LW.rd hL rfl (Wants.free rfl) rfl (Rd.assign (v := .int .u32 0) rfl) ?_
      refine LW.nil hL rfl ?_
      refine NW.then ?_
      refine CW.seq ?_
      refine CW.seq ?_
      refine CW.region fun L hL => ?_
      refine LW.rd hL rfl (Wants.free rfl) rfl (Rd.move (v := .slice l1 l1n l1c) rfl) ?_
      refine LW.rd hL rfl (Wants.free rfl) rfl (Rd.builtin (v := .int .i64 (l1n : Int)) rfl (fun _ _ => by kernel_rfl)) ?_
      refine LW.rd hL rfl (Wants.free rfl) rfl (Rd.move (v := .int .i64 0) rfl) ?_
      refine LW.nil hL rfl ?_
      refine NW.then ?_
      refine CW.block ?_
      obtain ⟨I1, m1, hI1, h⟩ := h
      refine CW.loop (S := Int × Int) (fun s1 => [(0, .pointer f1), (4, .int .u32 0), (5, .int .i64 0), (17, .slice l1 l1n l1c), (18, .int .i64 (l1n : Int)), (6, .int .u32 s1.1), (19, .int .i64 s1.2)]) I1 m1 (0, 0) (by exact ⟨rfl, rfl, rfl, rfl, rfl, rfl, rfl, trivial⟩) hI1 (fun s1 w3 hI1 => ?_)
      replace h := h s1 w3 hI1
      refine CW.seq ?_
      refine CW.region fun L hL => ?_
      refine LW.rd hL rfl (Wants.free rfl) rfl (Rd.bin (v := .bool (decide (s1.2 < (l1n : Int)))) rfl rfl (fun w => by kernel_rfl)) ?_
      refine LW.nil hL rfl ?_
      refine NW.then ?_
      refine CW.seq ?_
      refine CW.cond rfl (fun hb3 => ?_) (fun hb3 => ?_)
      · replace h := h.1 hb3
        refine CW.skip ?_
        refine NW.then ?_
        obtain ⟨J1, hJ1, h⟩ := h
        refine CW.cut (S := Int) (fun s2 => [(0, .pointer f1), (4, .int .u32 0), (5, .int .i64 0), (17, .slice l1 l1n l1c), (18, .int .i64 (l1n : Int)), (19, .int .i64 s1.2), (6, .int .u32 s2)]) J1 (fun s2 w4 h_ => ?_) ?_
        · replace h := hJ1 s2 w4 h_; clear h_
          refine CW.region fun L hL => ?_
          refine LW.rd hL rfl (Wants.free rfl) rfl (Rd.bin (v := .int .i64 (IntKind.wrap .i64 (s1.2 + 1))) rfl rfl (fun w => by kernel_rfl)) ?_
          refine LW.rd hL rfl (Wants.free rfl) rfl (Rd.move (v := .int .i64 (IntKind.wrap .i64 (s1.2 + 1))) rfl) ?_
          refine LW.nil hL rfl ?_
          exact NW.loop (S := Int × Int) (Ek := fun s1 => [(0, .pointer f1), (4, .int .u32 0), (5, .int .i64 0), (17, .slice l1 l1n l1c), (18, .int .i64 (l1n : Int)), (6, .int .u32 s1.1), (19, .int .i64 s1.2)]) (s2, IntKind.wrap .i64 (s1.2 + 1)) (by exact ⟨rfl, rfl, rfl, rfl, rfl, rfl, rfl, trivial⟩) h
        · skip
          refine CW.block ?_
          refine CW.seq ?_
          refine CW.region fun L hL => ?_
          obtain ⟨a1, he1, hi1, hi2, h⟩ := h
          refine LW.rd hL rfl (Wants.free rfl) rfl (Rd.iaS (q := a1) (sz := 3) (by rw [← he1]; rfl) rfl Try.underlying25 (by kernel_rfl) hi1 hi2) ?_
          obtain ⟨t1, t2, t3, t3n, t3c, hc1, h⟩ := h
          refine LW.rd hL rfl (Wants.free rfl) rfl (Rd.ldN (cs := [.int .i64 t1, .int .i64 t2, .slice t3 t3n t3c]) rfl (by kernel_rfl) (by kernel_rfl) (cellsS hc1)) ?_
          obtain ⟨b1, hb_b1⟩ : ∃ b1, b1 = World.size w3 := ⟨_, rfl⟩
          obtain ⟨w5, hw_w5⟩ : ∃ w5, w5 = World.alloc w3 (.cells #[.int .i64 0, .int .i64 0, .slice none 0 0] 81) := ⟨_, rfl⟩
          replace h := h b1 hb_b1 w5 hw_w5
          refine LW.val hL rfl (Wants.free rfl) rfl (boxE hb_b1 hw_w5 (Vl.alloc (z := .agg #[.int .i64 0, .int .i64 0, .slice none 0 0]) (by kernel_rfl))) ?_
          obtain ⟨ho1, hf1, h⟩ := h
          obtain ⟨w6, hw_w6⟩ : ∃ w6, w6 = setCells w5 (⟨b1, 0, none⟩ : Addr) 0 [.int .i64 t1, .int .i64 t2, .slice t3 t3n t3c] := ⟨_, rfl⟩
          replace h := h w6 hw_w6
          refine LW.eff hL rfl (Wants.free rfl) rfl (stNE hw_w6 (Ef.stN (cs := [.int .i64 t1, .int .i64 t2, .slice t3 t3n t3c]) rfl rfl (by kernel_rfl) (List.forall_mem_cons.2 ⟨rfl, (List.forall_mem_cons.2 ⟨rfl, (List.forall_mem_cons.2 ⟨rfl, (List.forall_mem_nil _)⟩)⟩)⟩) ho1 hf1)) ?_
          refine LW.nil hL rfl ?_
          refine NW.then ?_
          refine CW.seq ?_
          refine CW.region fun L hL => ?_
          refine LW.rd hL rfl (Wants.free rfl) rfl (Rd.fa (v := .pointer (some (⟨b1, 0, none⟩ : Addr))) rfl (fun _ => by kernel_rfl)) ?_
          obtain ⟨t4, t5, hc2, h⟩ := h
          refine LW.rd hL rfl (Wants.free rfl) rfl (Rd.ldN (cs := [.int .i64 t4, .int .i64 t5]) rfl (by kernel_rfl) (by kernel_rfl) (cellsS hc2)) ?_
          refine LW.rd hL rfl (Wants.free rfl) rfl (Rd.build (v := .agg #[.int .i64 0, .int .i64 0]) rfl (fun _ => by kernel_rfl)) ?_
          refine LW.rd hL rfl (Wants.free rfl) rfl (Rd.bin (v := .bool ((t4 == 0) && (t5 == 0))) rfl rfl (fun w => eqS_56 _ _ _ _ w)) ?_
          refine LW.nil hL rfl ?_
          refine NW.then ?_
          refine CW.cond rfl (fun hb4 => ?_) (fun hb4 => ?_)
          · replace h := h.1 hb4
            refine CW.region fun L hL => ?_
            refine LW.rd hL rfl (Wants.free rfl) rfl (Rd.move (v := .int .u32 s1.1) rfl) ?_
            refine LW.rd hL rfl (Wants.free rfl) rfl (Rd.move (v := .pointer f1) rfl) ?_
            refine LW.rd hL rfl (Wants.free rfl) rfl (Rd.fa (v := .pointer (some (⟨b1, 2, none⟩ : Addr))) rfl (fun _ => by kernel_rfl)) ?_
            obtain ⟨t6, t6n, t6c, hc3, h⟩ := h
            refine LW.rd hL rfl (Wants.free rfl) rfl (Rd.ld (v := .slice t6 t6n t6c) rfl (by kernel_rfl) (eqs hc3)) ?_
            refine LW.call hL rfl (Wants.free rfl) rfl (Cl.fn (f := 82) rfl Try.func82 (by kernel_rfl) rfl) h (fun e w7 h_ => ?_)
            clear h
            obtain ⟨r5, rfl, h⟩ := h_
            refine ⟨_, rfl, ?_⟩
            refine LW.rd hL rfl (Wants.free rfl) rfl (Rd.bin (v := .int .u32 (bits .or .u32 s1.1 r5)) rfl rfl (fun w => by kernel_rfl)) ?_
            refine LW.rd hL rfl (Wants.free rfl) rfl (Rd.assign (v := .int .u32 (bits .or .u32 s1.1 r5)) rfl) ?_
            refine LW.nil hL rfl ?_
            refine NW.block ?_
            exact NW.cut (S := Int) (Ek := fun s2 => [(0, .pointer f1), (4, .int .u32 0), (5, .int .i64 0), (17, .slice l1 l1n l1c), (18, .int .i64 (l1n : Int)), (19, .int .i64 s1.2), (6, .int .u32 s2)]) (bits .or .u32 s1.1 r5) (by exact ⟨rfl, rfl, rfl, rfl, rfl, rfl, rfl, trivial⟩) h
          · replace h := h.2 hb4
            refine CW.skip ?_
            refine NW.block ?_
            exact NW.cut (S := Int) (Ek := fun s2 => [(0, .pointer f1), (4, .int .u32 0), (5, .int .i64 0), (17, .slice l1 l1n l1c), (18, .int .i64 (l1n : Int)), (19, .int .i64 s1.2), (6, .int .u32 s2)]) s1.1 (by exact ⟨rfl, rfl, rfl, rfl, rfl, rfl, rfl, trivial⟩) h
      · replace h := h.2 hb3
        refine CW.exit ?_
        refine XW.then ?_
        refine XW.then ?_
        refine XW.hit ?_
        refine NW.then ?_
        refine CW.seq ?_
        refine CW.region fun L hL => ?_
        refine LW.rd hL rfl (Wants.free rfl) rfl (Rd.move (v := .int .u32 s1.1) rfl) ?_
        refine LW.rd hL rfl (Wants.free rfl) rfl (Rd.assign (v := .int .u32 s1.1) rfl) ?_
        refine LW.rd hL rfl (Wants.free rfl) rfl (Rd.assign (v := .int .i64 0) rfl) ?_
        refine LW.nil hL rfl ?_
        refine NW.then ?_
        refine CW.ret ?_
        exact res2 rfl rfl rfl ⟨s1.1, 0, rfl, h⟩

/- pomander/policy.set -/
def V_policy_set (n1 : Int) (w : World) (R : Bool → World → Prop) : Prop :=
  R (decide (n1 < 65536)) w
set_option maxRecDepth 100000 in
theorem ok_policy_set (n1 : Int) (w : World) (R : Bool → World → Prop) (h : V_policy_set n1 w R) : Calls Try.prog 66 #[.int .u32 n1] w (fun e w' => ∃ (r1 : Bool), e = .returned (.bool r1) ∧ R r1 w') := by
  unfold V_policy_set at h
  refine enter (N := 5) Try.func66 rfl rfl ?_
  refine CW.seq ?_
  refine CW.region fun L hL => ?_
  refine LW.rd hL rfl (Wants.free rfl) rfl (Rd.assign (v := .bool false) rfl) ?_
  refine LW.nil hL rfl ?_
  refine NW.then ?_
  refine CW.seq ?_
  refine CW.region fun L hL => ?_
  refine LW.rd hL rfl (Wants.free rfl) rfl (Rd.move (v := .int .u32 n1) rfl) ?_
  refine LW.rd hL rfl (Wants.free rfl) rfl (Rd.bin (v := .bool (decide (n1 < 65536))) rfl rfl (fun w => by kernel_rfl)) ?_
  refine LW.rd hL rfl (Wants.free rfl) rfl (Rd.assign (v := .bool (decide (n1 < 65536))) rfl) ?_
  refine LW.nil hL rfl ?_
  refine NW.then ?_
  refine CW.ret ?_
  exact res1 rfl rfl ⟨decide (n1 < 65536), rfl, h⟩

/- pomander/labels.New -/
def V_labels_New (most1 : Int) (w : World) (R : (Option Addr) → Int → World → Prop) : Prop :=
  ((decide (most1 < 1) || decide (most1 > 65536)) = true → R none 2 w) ∧ ((decide (most1 < 1) || decide (most1 > 65536)) = false → ∀ b1 : Nat, b1 = World.size w → ∀ w1 : World, w1 = World.alloc w (.cells #[.int .u32 0] 22) → (∀ b2 : Nat, b2 = World.size w1 → ∀ w2 : World, w2 = World.alloc w1 (.map #[] 0) → (∃ w3 : World, (Instr.mapUpdate 198 (.map (some b2)) (.int .u32 0) (.int .i64 0)).run Try.prog w2 = .ok () w3 ∧ (∀ b3 : Nat, b3 = World.size w3 → ∀ w4 : World, w4 = World.alloc w3 (.map #[] 0) → (∀ b4 : Nat, b4 = World.size w4 → ∀ w5 : World, w5 = World.alloc w4 (.cells #[.int .i64 most1, .slice (some (⟨b1, 0, none⟩ : Addr)) 1 1, .map (some b2), .map (some b3)] 201) → (R (some (⟨b4, 0, none⟩ : Addr)) 0 w5))))))
set_option maxRecDepth 100000 in
theorem ok_labels_New (most1 : Int) (w : World) (R : (Option Addr) → Int → World → Prop) (h : V_labels_New most1 w R) : Calls Try.prog 68 #[.int .i64 most1] w (fun e w' => ∃ (r1 : Option Addr) (r2 : Int), e = .returned (.tuple #[.pointer r1, .int .i64 r2]) ∧ R r1 r2 w') := by
  unfold V_labels_New at h
  refine enter (N := 17) Try.func68 rfl rfl ?_
  refine CW.seq ?_
  refine CW.region fun L hL => ?_
  refine LW.rd hL rfl (Wants.free rfl) rfl (Rd.assign (v := .pointer none) rfl) ?_
  refine LW.rd hL rfl (Wants.free rfl) rfl (Rd.assign (v := .int .i64 0) rfl) ?_
  refine LW.nil hL rfl ?_
  refine NW.then ?_
  refine CW.seq ?_
  refine CW.seq ?_
  refine CW.region fun L hL => ?_
  refine LW.rd hL rfl (Wants.free rfl) rfl (Rd.move (v := .int .i64 most1) rfl) ?_
  refine LW.rd hL rfl (Wants.free rfl) rfl (Rd.bin (v := .bool (decide (most1 < 1))) rfl rfl (fun w => by kernel_rfl)) ?_
  refine LW.rd hL rfl (Wants.free rfl) rfl (Rd.move (v := .bool (decide (most1 < 1))) rfl) ?_
  suffices K1 : L 6 [(0, .int .i64 most1), (2, .pointer none), (3, .int .i64 0), (9, .bool (decide (most1 < 1) || decide (most1 > 65536)))] w by
    rcases Bool.eq_false_or_eq_true (decide (most1 < 1)) with hb2 | hb2
    · skip
      refine LW.skip hL rfl (Skips.on rfl rfl rfl rfl rfl hb2) rfl ?_
      refine LW.skip hL rfl (Skips.on rfl rfl rfl rfl rfl hb2) rfl ?_
      refine LW.rd hL rfl (Wants.free rfl) rfl (Rd.pickT rfl hb2 rfl) ?_
      exact LW.sub hL (by exact ⟨rfl, rfl, rfl, (by rw [hb2]; rfl), trivial⟩) K1
    · skip
      refine LW.rd hL rfl (Wants.on rfl rfl rfl rfl rfl hb2) rfl (Rd.move (v := .int .i64 most1) rfl) ?_
      refine LW.rd hL rfl (Wants.on rfl rfl rfl rfl rfl hb2) rfl (Rd.bin (v := .bool (decide (most1 > 65536))) rfl rfl (fun w => by kernel_rfl)) ?_
      refine LW.rd hL rfl (Wants.free rfl) rfl (Rd.pickF rfl hb2 rfl) ?_
      exact LW.sub hL (by exact ⟨rfl, rfl, rfl, (by rw [hb2]; rfl), trivial⟩) K1
  refine LW.nil hL rfl ?_
  refine NW.then ?_
  refine CW.cond rfl (fun hb3 => ?_) (fun hb3 => ?_)
  · replace h := h.1 hb3
    refine CW.seq ?_
    refine CW.region fun L hL => ?_
    refine LW.rd hL rfl (Wants.free rfl) rfl (Rd.assign (v := .pointer none) rfl) ?_
    refine LW.rd hL rfl (Wants.free rfl) rfl (Rd.assign (v := .int .i64 2) rfl) ?_
    refine LW.nil hL rfl ?_
    refine NW.then ?_
    refine CW.ret ?_
    refine RW.then ?_
    exact res2 rfl rfl rfl ⟨none, 2, rfl, h⟩
  · replace h := h.2 hb3
    refine CW.skip ?_
    refine NW.then ?_
    refine CW.seq ?_
    refine CW.region fun L hL => ?_
    refine LW.rd hL rfl (Wants.free rfl) rfl (Rd.move (v := .int .i64 most1) rfl) ?_
    obtain ⟨b1, hb_b1⟩ : ∃ b1, b1 = World.size w := ⟨_, rfl⟩
    obtain ⟨w1, hw_w1⟩ : ∃ w1, w1 = World.alloc w (.cells #[.int .u32 0] 22) := ⟨_, rfl⟩
    replace h := h b1 hb_b1 w1 hw_w1
    refine LW.val hL rfl (Wants.free rfl) rfl (sliceE (n := 1) hb_b1 hw_w1 (fun w => Vl.buildSlice (vs := [(0, .int .u32 0)]) rfl (by kernel_rfl))) ?_
    obtain ⟨b2, hb_b2⟩ : ∃ b2, b2 = World.size w1 := ⟨_, rfl⟩
    obtain ⟨w2, hw_w2⟩ : ∃ w2, w2 = World.alloc w1 (.map #[] 0) := ⟨_, rfl⟩
    replace h := h b2 hb_b2 w2 hw_w2
    refine LW.val hL rfl (Wants.free rfl) rfl (mapE hb_b2 hw_w2 Vl.makeMap) ?_
    obtain ⟨w3, hm1, h⟩ := h
    refine LW.eff hL rfl (Wants.free rfl) rfl (Ef.insert rfl rfl rfl hm1) ?_
    refine LW.rd hL rfl (Wants.free rfl) rfl (Rd.move (v := .map (some b2)) rfl) ?_
    obtain ⟨b3, hb_b3⟩ : ∃ b3, b3 = World.size w3 := ⟨_, rfl⟩
    obtain ⟨w4, hw_w4⟩ : ∃ w4, w4 = World.alloc w3 (.map #[] 0) := ⟨_, rfl⟩
    replace h := h b3 hb_b3 w4 hw_w4
    refine LW.val hL rfl (Wants.free rfl) rfl (mapE hb_b3 hw_w4 Vl.makeMap) ?_
    refine LW.rd hL rfl (Wants.free rfl) rfl (Rd.build (v := .agg #[.int .i64 most1, .slice (some (⟨b1, 0, none⟩ : Addr)) 1 1, .map (some b2), .map (some b3)]) rfl (fun _ => by kernel_rfl)) ?_
    obtain ⟨b4, hb_b4⟩ : ∃ b4, b4 = World.size w4 := ⟨_, rfl⟩
    obtain ⟨w5, hw_w5⟩ : ∃ w5, w5 = World.alloc w4 (.cells #[.int .i64 most1, .slice (some (⟨b1, 0, none⟩ : Addr)) 1 1, .map (some b2), .map (some b3)] 201) := ⟨_, rfl⟩
    replace h := h b4 hb_b4 w5 hw_w5
    refine LW.val hL rfl (Wants.free rfl) rfl (boxE hb_b4 hw_w5 (Vl.box (v := .agg #[.int .i64 most1, .slice (some (⟨b1, 0, none⟩ : Addr)) 1 1, .map (some b2), .map (some b3)]) rfl)) ?_
    refine LW.rd hL rfl (Wants.free rfl) rfl (Rd.assign (v := .pointer (some (⟨b4, 0, none⟩ : Addr))) rfl) ?_
    refine LW.rd hL rfl (Wants.free rfl) rfl (Rd.assign (v := .int .i64 0) rfl) ?_
    refine LW.nil hL rfl ?_
    refine NW.then ?_
    refine CW.ret ?_
    exact res2 rfl rfl rfl ⟨some (⟨b4, 0, none⟩ : Addr), 0, rfl, h⟩

/- pomander/pomanderref02.New -/
def V_pomanderref02_New (most1 : Int) (w : World) (R : Int → (Option Addr) → Nat → Nat → World → Prop) : Prop :=
  ∀ b1 : Nat, b1 = World.size w → ∀ w1 : World, w1 = World.alloc w (.cells #[.int .i64 0, .slice none 0 0] 33) → (∀ b2 : Nat, b2 = World.size w1 → ∀ w2 : World, w2 = World.alloc w1 (.cells #[.int .u32 0] 22) → (Has w2 (⟨b1, 0, none⟩ : Addr) 2 ∧ Free w2 (⟨b1, 0, none⟩ : Addr) 2 ∧ ∀ w3 : World, w3 = setCells w2 (⟨b1, 0, none⟩ : Addr) 0 [.int .i64 most1, .slice (some (⟨b2, 0, none⟩ : Addr)) 1 1] → (∃ (r3 : Int) (r4 : Option Addr) (r4n : Nat) (r4c : Nat), CellsAt w3 (⟨b1, 0, none⟩ : Addr) 0 [.int .i64 r3, .slice r4 r4n r4c] ∧ R r3 r4 r4n r4c w3)))
set_option maxRecDepth 100000 in
theorem ok_pomanderref02_New (most1 : Int) (w : World) (R : Int → (Option Addr) → Nat → Nat → World → Prop) (h : V_pomanderref02_New most1 w R) : Calls Try.prog 69 #[.int .i64 most1] w (fun e w' => ∃ (r1 : Int) (r2 : Option Addr) (r2n : Nat) (r2c : Nat), e = .returned (.agg #[.int .i64 r1, .slice r2 r2n r2c]) ∧ R r1 r2 r2n r2c w') := by
  unfold V_pomanderref02_New at h
  refine enter (N := 6) Try.func69 rfl rfl ?_
  refine CW.seq ?_
  refine CW.region fun L hL => ?_
  obtain ⟨b1, hb_b1⟩ : ∃ b1, b1 = World.size w := ⟨_, rfl⟩
  obtain ⟨w1, hw_w1⟩ : ∃ w1, w1 = World.alloc w (.cells #[.int .i64 0, .slice none 0 0] 33) := ⟨_, rfl⟩
  replace h := h b1 hb_b1 w1 hw_w1
  refine LW.val hL rfl (Wants.free rfl) rfl (boxE hb_b1 hw_w1 (Vl.alloc (z := .agg #[.int .i64 0, .slice none 0 0]) (by kernel_rfl))) ?_
  refine LW.nil hL rfl ?_
  refine NW.then ?_
  refine CW.seq ?_
  refine CW.region fun L hL => ?_
  refine LW.rd hL rfl (Wants.free rfl) rfl (Rd.move (v := .int .i64 most1) rfl) ?_
  obtain ⟨b2, hb_b2⟩ : ∃ b2, b2 = World.size w1 := ⟨_, rfl⟩
  obtain ⟨w2, hw_w2⟩ : ∃ w2, w2 = World.alloc w1 (.cells #[.int .u32 0] 22) := ⟨_, rfl⟩
  replace h := h b2 hb_b2 w2 hw_w2
  refine LW.val hL rfl (Wants.free rfl) rfl (sliceE (n := 1) hb_b2 hw_w2 (fun w => Vl.buildSlice (vs := [(0, .int .u32 0)]) rfl (by kernel_rfl))) ?_
  refine LW.rd hL rfl (Wants.free rfl) rfl (Rd.build (v := .agg #[.int .i64 most1, .slice (some (⟨b2, 0, none⟩ : Addr)) 1 1]) rfl (fun _ => by kernel_rfl)) ?_
  obtain ⟨ho1, hf1, h⟩ := h
  obtain ⟨w3, hw_w3⟩ : ∃ w3, w3 = setCells w2 (⟨b1, 0, none⟩ : Addr) 0 [.int .i64 most1, .slice (some (⟨b2, 0, none⟩ : Addr)) 1 1] := ⟨_, rfl⟩
  replace h := h w3 hw_w3
  refine LW.eff hL rfl (Wants.free rfl) rfl (stNE hw_w3 (Ef.stN (cs := [.int .i64 most1, .slice (some (⟨b2, 0, none⟩ : Addr)) 1 1]) rfl rfl (by kernel_rfl) (List.forall_mem_cons.2 ⟨rfl, (List.forall_mem_cons.2 ⟨rfl, (List.forall_mem_nil _)⟩)⟩) ho1 hf1)) ?_
  refine LW.nil hL rfl ?_
  refine NW.then ?_
  refine CW.ret ?_
  obtain ⟨r3, r4, r4n, r4c, hr1, h⟩ := h
  exact resN (vs := [.agg #[.int .i64 r3, .slice r4 r4n r4c]]) (ResOK.c rfl (lvN (cs := [.int .i64 r3, .slice r4 r4n r4c]) (by kernel_rfl) (by kernel_rfl) (cellsAt_get hr1)) ResOK.nil) rfl ⟨r3, r4, r4n, r4c, rfl, h⟩

/- (*pomander/flow.Flow).none -/
def V_flow_Flow_none (f1 : Option Addr) (w : World) (R : Bool → World → Prop) : Prop :=
  ∃ J1 : Bool → World → Prop, (∀ (b1 : Bool) (w1 : World), J1 b1 w1 → R b1 w1) ∧ (((Option.isNone f1) = false → ∃ a1 : Addr, f1 = some a1 ∧ (∃ (t1 : Option Addr), w.cell? (a1.add 2) = some (.pointer t1) ∧ (J1 (Option.isNone t1) w))) ∧ ((Option.isNone f1) = true → J1 true w))
set_option maxRecDepth 100000 in
theorem ok_flow_Flow_none (f1 : Option Addr) (w : World) (R : Bool → World → Prop) (h : V_flow_Flow_none f1 w R) : Calls Try.prog 73 #[.pointer f1] w (fun e w' => ∃ (r1 : Bool), e = .returned (.bool r1) ∧ R r1 w') := by
  unfold V_flow_Flow_none at h
  refine enter (N := 12) Try.func73 rfl rfl ?_
  refine CW.seq ?_
  refine CW.region fun L hL => ?_
  refine LW.rd hL rfl (Wants.free rfl) rfl (Rd.assign (v := .bool false) rfl) ?_
  refine LW.nil hL rfl ?_
  refine NW.then ?_
  refine CW.seq ?_
  refine CW.region fun L hL => ?_
  refine LW.rd hL rfl (Wants.free rfl) rfl (Rd.move (v := .pointer f1) rfl) ?_
  refine LW.rd hL rfl (Wants.free rfl) rfl (Rd.bin (v := .bool (Option.isNone f1)) rfl rfl (fun w => ptr_nil_eq (by kernel_rfl) f1 w)) ?_
  refine LW.rd hL rfl (Wants.free rfl) rfl (Rd.move (v := .bool (Option.isNone f1)) rfl) ?_
  obtain ⟨J1, hJ1, h1_J1, h0_J1⟩ := h
  suffices K1 : ∀ (b1 : Bool) (w1 : World), J1 b1 w1 → L 9 [(2, .bool false), (11, .bool b1)] w1 by
    rcases Bool.eq_false_or_eq_true (Option.isNone f1) with hb1 | hb1
    · have h := h0_J1 hb1
      refine LW.skip hL rfl (Skips.on rfl rfl rfl rfl rfl hb1) rfl ?_
      refine LW.skip hL rfl (Skips.on rfl rfl rfl rfl rfl hb1) rfl ?_
      refine LW.skip hL rfl (Skips.on rfl rfl rfl rfl rfl hb1) rfl ?_
      refine LW.skip hL rfl (Skips.on rfl rfl rfl rfl rfl hb1) rfl ?_
      refine LW.skip hL rfl (Skips.on rfl rfl rfl rfl rfl hb1) rfl ?_
      refine LW.rd hL rfl (Wants.free rfl) rfl (Rd.pickT rfl hb1 rfl) ?_
      exact LW.sub hL (by exact ⟨rfl, rfl, trivial⟩) (K1 true w h)
    · have h := h1_J1 hb1
      refine LW.rd hL rfl (Wants.on rfl rfl rfl rfl rfl hb1) rfl (Rd.move (v := .pointer f1) rfl) ?_
      obtain ⟨a1, ha1, h⟩ := h
      refine LW.rd hL rfl (Wants.on rfl rfl rfl rfl rfl hb1) rfl (Rd.nil (q := a1) (by rw [← ha1]; rfl)) ?_
      refine LW.rd hL rfl (Wants.on rfl rfl rfl rfl rfl hb1) rfl (Rd.fa (v := .pointer (some (a1.add 2))) rfl (fun _ => by kernel_rfl)) ?_
      obtain ⟨t1, hc1, h⟩ := h
      refine LW.rd hL rfl (Wants.on rfl rfl rfl rfl rfl hb1) rfl (Rd.ld (v := .pointer t1) rfl (by kernel_rfl) (eqs hc1)) ?_
      refine LW.rd hL rfl (Wants.on rfl rfl rfl rfl rfl hb1) rfl (Rd.bin (v := .bool (Option.isNone t1)) rfl rfl (fun w => ptr_nil_eq (by kernel_rfl) t1 w)) ?_
      refine LW.rd hL rfl (Wants.free rfl) rfl (Rd.pickF rfl hb1 rfl) ?_
      exact LW.sub hL (by exact ⟨rfl, rfl, trivial⟩) (K1 (Option.isNone t1) w h)
  intro b1 w1 h_
  have h := hJ1 b1 w1 h_; clear h_
  refine LW.rd hL rfl (Wants.free rfl) rfl (Rd.assign (v := .bool b1) rfl) ?_
  refine LW.nil hL rfl ?_
  refine NW.then ?_
  refine CW.ret ?_
  exact res1 rfl rfl ⟨b1, rfl, h⟩

/- (*pomander/flow.Flow).may -/
def V_flow_Flow_may (f1 : Option Addr) (p1 : Int) (p2 : Int) (w : World) (R : Bool → World → Prop) : Prop :=
  ∀ b1 : Nat, b1 = World.size w → ∀ w1 : World, w1 = World.alloc w (.cells #[.int .i64 p1, .int .i64 p2] 56) → (∀ w2 : World, w2 = World.drew w1 → ∃ (t1 : Int), w2.cell? (⟨b1, 0, none⟩ : Addr) = some (.int .i64 t1) ∧ (∃ (t2 : Int), w2.cell? (⟨b1, 1, none⟩ : Addr) = some (.int .i64 t2) ∧ (∃ J1 : Bool → World → Prop, (∀ (b2 : Bool) (w3 : World), J1 b2 w3 → ∃ J2 : Bool → World → Prop, (∀ (b3 : Bool) (w4 : World), J2 b3 w4 → ∃ J3 : Bool → World → Prop, (∀ (b4 : Bool) (w5 : World), J3 b4 w5 → R b4 w5) ∧ ((b3 = true → Calls Try.prog 108 #[.pointer f1] w4 fun e w6 => ∃ (r2 : Value) (r3 : Value) (r4 : Value) (r5 : Value) (r6 : Value) (r7 : Value) (r8 : Value) (r9 : Value) (r10 : Value) (r11 : Value) (r12 : Value) (r13 : Value) (r14 : Value) (r15 : Value) (r16 : Value) (r17 : Value) (r18 : Value) (r19 : Value), e = .returned (.agg #[r2, r3, r4, r5, r6, r7, r8, r9, r10, r11, r12, r13, r14, r15, r16, r17, r18, r19]) ∧ ((w6.cell? (⟨b1, 0, none⟩ : Addr) = some (.int .i64 t1) ∧ w6.cell? (⟨b1, 1, none⟩ : Addr) = some (.int .i64 t2) ∧ True) ∧ (∃ (x1 : Value), (∀ w : World, (Instr.index 202 (.agg #[r2, r3, r4, r5, r6, r7, r8, r9, r10, r11, r12, r13, r14, r15, r16, r17, r18, r19]) (.int .i64 t1)).run Try.prog w = .ok (x1) w) ∧ (CallsV Try.prog x1 #[] w6 fun e w7 => ∃ (r20 : Int), e = .returned (.int .i64 r20) ∧ ((w7.cell? (⟨b1, 0, none⟩ : Addr) = some (.int .i64 t1) ∧ w7.cell? (⟨b1, 1, none⟩ : Addr) = some (.int .i64 t2) ∧ True) ∧ (J3 (decide (t2 < r20)) w7)))))) ∧ (b3 = false → J3 false w4))) ∧ ((b2 = true → J2 (decide (t2 ≥ 0)) w3) ∧ (b2 = false → J2 false w3))) ∧ (((decide (t1 ≥ 1)) = true → J1 (decide (t1 ≤ 17)) w2) ∧ ((decide (t1 ≥ 1)) = false → J1 false w2)))))
set_option maxRecDepth 100000 in
theorem ok_flow_Flow_may (f1 : Option Addr) (p1 : Int) (p2 : Int) (w : World) (R : Bool → World → Prop) (h : V_flow_Flow_may f1 p1 p2 w R) : Calls Try.prog 74 #[.pointer f1, .agg #[.int .i64 p1, .int .i64 p2]] w (fun e w' => ∃ (r1 : Bool), e = .returned (.bool r1) ∧ R r1 w') := by
  unfold V_flow_Flow_may at h
  refine enter (N := 29) Try.func74 rfl rfl ?_
  refine CW.seq ?_
  refine CW.region fun L hL => ?_
  obtain ⟨b1, hb_b1⟩ : ∃ b1, b1 = World.size w := ⟨_, rfl⟩
  obtain ⟨w1, hw_w1⟩ : ∃ w1, w1 = World.alloc w (.cells #[.int .i64 p1, .int .i64 p2] 56) := ⟨_, rfl⟩
  replace h := h b1 hb_b1 w1 hw_w1
  refine LW.val hL rfl (Wants.free rfl) rfl (boxE hb_b1 hw_w1 (Vl.box (v := .agg #[.int .i64 p1, .int .i64 p2]) rfl)) ?_
  refine LW.rd hL rfl (Wants.free rfl) rfl (Rd.assign (v := .bool false) rfl) ?_
  refine LW.nil hL rfl ?_
  refine NW.then ?_
  refine CW.seq ?_
  replace h := h _ rfl
  obtain ⟨t1, hc1, h⟩ := h
  obtain ⟨t2, hc2, h⟩ := h
  refine CW.drawn (fun w => w.cell? (⟨b1, 0, none⟩ : Addr) = some (.int .i64 t1) ∧ w.cell? (⟨b1, 1, none⟩ : Addr) = some (.int .i64 t2) ∧ True) 25 (by kernel_rfl) fun H hH => ?_
  generalize World.drew _ = w2 at *
  have hS1 : w2.cell? (⟨b1, 0, none⟩ : Addr) = some (.int .i64 t1) ∧ w2.cell? (⟨b1, 1, none⟩ : Addr) = some (.int .i64 t2) ∧ True := ⟨hc1, hc2, trivial⟩
  refine HW.pure (i := 0) hH rfl (by kernel_rfl) (Wants.free rfl) rfl (fun _ => hS1) (Rd.fa (v := .pointer (some (⟨b1, 0, none⟩ : Addr))) rfl (fun _ => by kernel_rfl)) ?_
  refine HW.take (i := 1) hH rfl (by kernel_rfl) (by kernel_rfl) (Wants.free rfl) rfl (fun _ => hS1) (Rd.ld (v := .int .i64 t1) rfl (by kernel_rfl) (fun w h => h.1)) ?_
  refine HW.pure (i := 2) hH rfl (by kernel_rfl) (Wants.free rfl) rfl (fun _ => hS1) (Rd.bin (v := .bool (decide (t1 ≥ 1))) rfl rfl (fun w => by kernel_rfl)) ?_
  refine HW.pure (i := 3) hH rfl (by kernel_rfl) (Wants.free rfl) rfl (fun _ => hS1) (Rd.move (v := .bool (decide (t1 ≥ 1))) rfl) ?_
  obtain ⟨J1, hJ1, h1_J1, h0_J1⟩ := h
  suffices K1 : ∀ (b2 : Bool) (w3 : World), (w3.cell? (⟨b1, 0, none⟩ : Addr) = some (.int .i64 t1) ∧ w3.cell? (⟨b1, 1, none⟩ : Addr) = some (.int .i64 t2) ∧ True) → J1 b2 w3 → H 17 #[true, true, true, true, true, true, true, true, false, false, false, false, false, false, false, false, false, false, false, false, false, false, false, false, false] [(0, .pointer f1), (3, .pointer (some (⟨b1, 0, none⟩ : Addr))), (4, .bool false), (12, .bool b2)] w3 by
    rcases Bool.eq_false_or_eq_true (decide (t1 ≥ 1)) with hb1 | hb1
    · have h := h1_J1 hb1
      refine HW.pure (i := 4) hH rfl (by kernel_rfl) (Wants.on rfl rfl rfl rfl rfl hb1) rfl (fun _ => hS1) (Rd.fa (v := .pointer (some (⟨b1, 0, none⟩ : Addr))) rfl (fun _ => by kernel_rfl)) ?_
      refine HW.take (i := 5) hH rfl (by kernel_rfl) (by kernel_rfl) (Wants.on rfl rfl rfl rfl rfl hb1) rfl (fun _ => hS1) (Rd.ld (v := .int .i64 t1) rfl (by kernel_rfl) (fun w h => h.1)) ?_
      refine HW.pure (i := 6) hH rfl (by kernel_rfl) (Wants.on rfl rfl rfl rfl rfl hb1) rfl (fun _ => hS1) (Rd.bin (v := .bool (decide (t1 ≤ 17))) rfl rfl (fun w => by kernel_rfl)) ?_
      refine HW.pure (i := 7) hH rfl (by kernel_rfl) (Wants.free rfl) rfl (fun _ => hS1) (Rd.pickT rfl hb1 rfl) ?_
      exact HW.sub hH (by exact ⟨rfl, rfl, rfl, rfl, trivial⟩) (K1 (decide (t1 ≤ 17)) w2 hS1 h)
    · have h := h0_J1 hb1
      refine HW.skip (i := 4) hH rfl (by kernel_rfl) (Skips.on rfl rfl rfl rfl rfl hb1) rfl (fun _ => hS1) ?_
      refine HW.skip (i := 5) hH rfl (by kernel_rfl) (Skips.on rfl rfl rfl rfl rfl hb1) rfl (fun _ => hS1) ?_
      refine HW.skip (i := 6) hH rfl (by kernel_rfl) (Skips.on rfl rfl rfl rfl rfl hb1) rfl (fun _ => hS1) ?_
      refine HW.pure (i := 7) hH rfl (by kernel_rfl) (Wants.free rfl) rfl (fun _ => hS1) (Rd.pickF rfl hb1 rfl) ?_
      exact HW.sub hH (by exact ⟨rfl, rfl, rfl, rfl, trivial⟩) (K1 false w2 hS1 h)
  intro b2 w3 hS2 h_
  have h := hJ1 b2 w3 h_; clear h_
  refine HW.pure (i := 8) hH rfl (by kernel_rfl) (Wants.free rfl) rfl (fun _ => hS2) (Rd.move (v := .bool b2) rfl) ?_
  obtain ⟨J2, hJ2, h1_J2, h0_J2⟩ := h
  suffices K2 : ∀ (b3 : Bool) (w4 : World), (w4.cell? (⟨b1, 0, none⟩ : Addr) = some (.int .i64 t1) ∧ w4.cell? (⟨b1, 1, none⟩ : Addr) = some (.int .i64 t2) ∧ True) → J2 b3 w4 → H 12 #[true, true, true, true, true, true, true, true, true, true, true, true, true, false, false, false, false, false, false, false, false, false, false, false, false] [(0, .pointer f1), (3, .pointer (some (⟨b1, 0, none⟩ : Addr))), (4, .bool false), (17, .bool b3)] w4 by
    rcases Bool.eq_false_or_eq_true b2 with hb2 | hb2
    · have h := h1_J2 hb2
      refine HW.pure (i := 9) hH rfl (by kernel_rfl) (Wants.on rfl rfl rfl rfl rfl hb2) rfl (fun _ => hS2) (Rd.fa (v := .pointer (some (⟨b1, 1, none⟩ : Addr))) rfl (fun _ => by kernel_rfl)) ?_
      refine HW.take (i := 10) hH rfl (by kernel_rfl) (by kernel_rfl) (Wants.on rfl rfl rfl rfl rfl hb2) rfl (fun _ => hS2) (Rd.ld (v := .int .i64 t2) rfl (by kernel_rfl) (fun w h => h.2.1)) ?_
      refine HW.pure (i := 11) hH rfl (by kernel_rfl) (Wants.on rfl rfl rfl rfl rfl hb2) rfl (fun _ => hS2) (Rd.bin (v := .bool (decide (t2 ≥ 0))) rfl rfl (fun w => by kernel_rfl)) ?_
      refine HW.pure (i := 12) hH rfl (by kernel_rfl) (Wants.free rfl) rfl (fun _ => hS2) (Rd.pickT rfl hb2 rfl) ?_
      exact HW.sub hH (by exact ⟨rfl, rfl, rfl, rfl, trivial⟩) (K2 (decide (t2 ≥ 0)) w3 hS2 h)
    · have h := h0_J2 hb2
      refine HW.skip (i := 9) hH rfl (by kernel_rfl) (Skips.on rfl rfl rfl rfl rfl hb2) rfl (fun _ => hS2) ?_
      refine HW.skip (i := 10) hH rfl (by kernel_rfl) (Skips.on rfl rfl rfl rfl rfl hb2) rfl (fun _ => hS2) ?_
      refine HW.skip (i := 11) hH rfl (by kernel_rfl) (Skips.on rfl rfl rfl rfl rfl hb2) rfl (fun _ => hS2) ?_
      refine HW.pure (i := 12) hH rfl (by kernel_rfl) (Wants.free rfl) rfl (fun _ => hS2) (Rd.pickF rfl hb2 rfl) ?_
      exact HW.sub hH (by exact ⟨rfl, rfl, rfl, rfl, trivial⟩) (K2 false w3 hS2 h)
  intro b3 w4 hS3 h_
  have h := hJ2 b3 w4 h_; clear h_
  refine HW.pure (i := 13) hH rfl (by kernel_rfl) (Wants.free rfl) rfl (fun _ => hS3) (Rd.move (v := .bool b3) rfl) ?_
  obtain ⟨J3, hJ3, h1_J3, h0_J3⟩ := h
  suffices K3 : ∀ (b4 : Bool) (w5 : World), (w5.cell? (⟨b1, 0, none⟩ : Addr) = some (.int .i64 t1) ∧ w5.cell? (⟨b1, 1, none⟩ : Addr) = some (.int .i64 t2) ∧ True) → J3 b4 w5 → H 1 #[true, true, true, true, true, true, true, true, true, true, true, true, true, true, true, true, true, true, true, true, true, true, true, true, false] [(4, .bool false), (28, .bool b4)] w5 by
    rcases Bool.eq_false_or_eq_true b3 with hb3 | hb3
    · have h := h1_J3 hb3
      refine HW.pure (i := 14) hH rfl (by kernel_rfl) (Wants.on rfl rfl rfl rfl rfl hb3) rfl (fun _ => hS3) (Rd.fa (v := .pointer (some (⟨b1, 1, none⟩ : Addr))) rfl (fun _ => by kernel_rfl)) ?_
      refine HW.take (i := 15) hH rfl (by kernel_rfl) (by kernel_rfl) (Wants.on rfl rfl rfl rfl rfl hb3) rfl (fun _ => hS3) (Rd.ld (v := .int .i64 t2) rfl (by kernel_rfl) (fun w h => h.2.1)) ?_
      refine HW.pure (i := 16) hH rfl (by kernel_rfl) (Wants.on rfl rfl rfl rfl rfl hb3) rfl (fun _ => hS3) (Rd.move (v := .pointer f1) rfl) ?_
      refine HW.pure (i := 18) hH rfl (by kernel_rfl) (Wants.on rfl rfl rfl rfl rfl hb3) rfl (fun _ => hS3) (Rd.fa (v := .pointer (some (⟨b1, 0, none⟩ : Addr))) rfl (fun _ => by kernel_rfl)) ?_
      refine HW.take (i := 19) hH rfl (by kernel_rfl) (by kernel_rfl) (Wants.on rfl rfl rfl rfl rfl hb3) rfl (fun _ => hS3) (Rd.ld (v := .int .i64 t1) rfl (by kernel_rfl) (fun w h => h.1)) ?_
      refine HW.call (i := 17) hH (by kernel_rfl) rfl (Wants.on rfl rfl rfl rfl rfl hb3) rfl (Cl.fn (f := 108) rfl Try.func108 (by kernel_rfl) rfl) h (fun e w6 h_ => ?_)
      clear h
      obtain ⟨r2, r3, r4, r5, r6, r7, r8, r9, r10, r11, r12, r13, r14, r15, r16, r17, r18, r19, rfl, hS4, h⟩ := h_
      refine ⟨_, rfl, (fun _ => hS4), ?_⟩
      obtain ⟨x1, hx1, h⟩ := h
      refine HW.pure (i := 20) hH rfl (by kernel_rfl) (Wants.on rfl rfl rfl rfl rfl hb3) rfl (fun _ => hS4) (Rd.index (v := x1) rfl rfl hx1) ?_
      obtain ⟨f2, cap_f2, fn_f2, he_f2, hf_f2, hn_f2, hb_f2, h⟩ := h
      refine HW.call (i := 21) hH (by kernel_rfl) rfl (Wants.on rfl rfl rfl rfl rfl hb3) rfl (Cl.fv (f := f2) (cap := cap_f2) (by rw [← he_f2]; rfl) rfl hf_f2 hn_f2 hb_f2) h (fun e w7 h_ => ?_)
      clear h
      obtain ⟨r20, rfl, hS5, h⟩ := h_
      refine ⟨_, rfl, (fun _ => hS5), ?_⟩
      refine HW.pure (i := 22) hH rfl (by kernel_rfl) (Wants.on rfl rfl rfl rfl rfl hb3) rfl (fun _ => hS5) (Rd.bin (v := .bool (decide (t2 < r20))) rfl rfl (fun w => by kernel_rfl)) ?_
      refine HW.pure (i := 23) hH rfl (by kernel_rfl) (Wants.free rfl) rfl (fun _ => hS5) (Rd.pickT rfl hb3 rfl) ?_
      exact HW.sub hH (by exact ⟨rfl, rfl, trivial⟩) (K3 (decide (t2 < r20)) w7 hS5 h)
    · have h := h0_J3 hb3
      refine HW.skip (i := 14) hH rfl (by kernel_rfl) (Skips.on rfl rfl rfl rfl rfl hb3) rfl (fun _ => hS3) ?_
      refine HW.skip (i := 15) hH rfl (by kernel_rfl) (Skips.on rfl rfl rfl rfl rfl hb3) rfl (fun _ => hS3) ?_
      refine HW.skip (i := 16) hH rfl (by kernel_rfl) (Skips.on rfl rfl rfl rfl rfl hb3) rfl (fun _ => hS3) ?_
      refine HW.skip (i := 17) hH rfl (by kernel_rfl) (Skips.on rfl rfl rfl rfl rfl hb3) rfl (fun _ => hS3) ?_
      refine HW.skip (i := 18) hH rfl (by kernel_rfl) (Skips.on rfl rfl rfl rfl rfl hb3) rfl (fun _ => hS3) ?_
      refine HW.skip (i := 19) hH rfl (by kernel_rfl) (Skips.on rfl rfl rfl rfl rfl hb3) rfl (fun _ => hS3) ?_
      refine HW.skip (i := 20) hH rfl (by kernel_rfl) (Skips.on rfl rfl rfl rfl rfl hb3) rfl (fun _ => hS3) ?_
      refine HW.skip (i := 21) hH rfl (by kernel_rfl) (Skips.on rfl rfl rfl rfl rfl hb3) rfl (fun _ => hS3) ?_
      refine HW.skip (i := 22) hH rfl (by kernel_rfl) (Skips.on rfl rfl rfl rfl rfl hb3) rfl (fun _ => hS3) ?_
      refine HW.pure (i := 23) hH rfl (by kernel_rfl) (Wants.free rfl) rfl (fun _ => hS3) (Rd.pickF rfl hb3 rfl) ?_
      exact HW.sub hH (by exact ⟨rfl, rfl, trivial⟩) (K3 false w4 hS3 h)
  intro b4 w5 hS6 h_
  have h := hJ3 b4 w5 h_; clear h_
  refine HW.pure (i := 24) hH rfl (by kernel_rfl) (Wants.free rfl) rfl (fun _ => hS6) (Rd.assign (v := .bool b4) rfl) ?_
  refine HW.done hH (by kernel_rfl) ?_
  refine NW.then ?_
  refine CW.ret ?_
  exact res1 rfl rfl ⟨b4, rfl, h⟩

/- (*pomander/flow.Flow).get -/
def V_flow_Flow_get (f1 : Option Addr) (p1 : Int) (p2 : Int) (w : World) (R : Int → World → Prop) : Prop :=
  ∀ b1 : Nat, b1 = World.size w → ∀ w1 : World, w1 = World.alloc w (.cells #[.int .i64 p1, .int .i64 p2] 56) → (∃ (t1 : Int), w1.cell? (⟨b1, 0, none⟩ : Addr) = some (.int .i64 t1) ∧ (((t1 == 10) = true → ∀ w2 : World, w2 = World.drew w1 → ∃ a1 : Addr, f1 = some a1 ∧ (∃ (t2 : Option Addr), w2.cell? (a1.add 3) = some (.pointer t2) ∧ (∃ (t3 : Int), w2.cell? (⟨b1, 1, none⟩ : Addr) = some (.int .i64 t3) ∧ (Calls Try.prog 42 #[.pointer t2, .int .i64 t3] w2 fun e w3 => ∃ (r2 : Int) (r3 : Int), e = .returned (.tuple #[.int .u32 r2, .int .i64 r3]) ∧ (R r2 w3))))) ∧ ((t1 == 10) = false → ((t1 == 12) = true → ∀ w4 : World, w4 = World.drew w1 → ∃ a2 : Addr, f1 = some a2 ∧ (∃ (t4 : Option Addr), w4.cell? (a2.add 4) = some (.pointer t4) ∧ (∃ (t5 : Int), w4.cell? (⟨b1, 1, none⟩ : Addr) = some (.int .i64 t5) ∧ (Calls Try.prog 42 #[.pointer t4, .int .i64 t5] w4 fun e w5 => ∃ (r4 : Int) (r5 : Int), e = .returned (.tuple #[.int .u32 r4, .int .i64 r5]) ∧ (R r4 w5))))) ∧ ((t1 == 12) = false → ∀ w6 : World, w6 = World.drew w1 → ∃ a3 : Addr, f1 = some a3 ∧ (∃ (t6 : Option Nat), w6.cell? (a3.add 5) = some (.map t6) ∧ (∃ (t7 : Int) (t8 : Int), CellsAt w6 (⟨b1, 0, none⟩ : Addr) 0 [.int .i64 t7, .int .i64 t8] ∧ (∃ (v1 : Int), (Instr.lookup 143 (.map t6) (.agg #[.int .i64 t7, .int .i64 t8]) false).run Try.prog w6 = .ok (.int .u32 v1) w6 ∧ (R v1 w6))))))))
set_option maxRecDepth 100000 in
theorem ok_flow_Flow_get (f1 : Option Addr) (p1 : Int) (p2 : Int) (w : World) (R : Int → World → Prop) (h : V_flow_Flow_get f1 p1 p2 w R) : Calls Try.prog 75 #[.pointer f1, .agg #[.int .i64 p1, .int .i64 p2]] w (fun e w' => ∃ (r1 : Int), e = .returned (.int .u32 r1) ∧ R r1 w') := by
  unfold V_flow_Flow_get at h
  refine enter (N := 43) Try.func75 rfl rfl ?_
  refine CW.seq ?_
  refine CW.region fun L hL => ?_
  obtain ⟨b1, hb_b1⟩ : ∃ b1, b1 = World.size w := ⟨_, rfl⟩
  obtain ⟨w1, hw_w1⟩ : ∃ w1, w1 = World.alloc w (.cells #[.int .i64 p1, .int .i64 p2] 56) := ⟨_, rfl⟩
  replace h := h b1 hb_b1 w1 hw_w1
  refine LW.val hL rfl (Wants.free rfl) rfl (boxE hb_b1 hw_w1 (Vl.box (v := .agg #[.int .i64 p1, .int .i64 p2]) rfl)) ?_
  refine LW.rd hL rfl (Wants.free rfl) rfl (Rd.assign (v := .int .u32 0) rfl) ?_
  refine LW.nil hL rfl ?_
  refine NW.then ?_
  refine CW.seq ?_
  refine CW.seq ?_
  refine CW.region fun L hL => ?_
  refine LW.rd hL rfl (Wants.free rfl) rfl (Rd.fa (v := .pointer (some (⟨b1, 0, none⟩ : Addr))) rfl (fun _ => by kernel_rfl)) ?_
  obtain ⟨t1, hc1, h⟩ := h
  refine LW.rd hL rfl (Wants.free rfl) rfl (Rd.ld (v := .int .i64 t1) rfl (by kernel_rfl) (eqs hc1)) ?_
  refine LW.nil hL rfl ?_
  refine NW.then ?_
  refine CW.block ?_
  refine CW.seq ?_
  refine CW.region fun L hL => ?_
  refine LW.rd hL rfl (Wants.free rfl) rfl (Rd.bin (v := .bool (t1 == 10)) rfl rfl (fun w => by kernel_rfl)) ?_
  refine LW.rd hL rfl (Wants.free rfl) rfl (Rd.assign (v := .bool (t1 == 10)) rfl) ?_
  refine LW.nil hL rfl ?_
  refine NW.then ?_
  refine CW.cond rfl (fun hb1 => ?_) (fun hb1 => ?_)
  · replace h := h.1 hb1
    refine CW.seq ?_
    replace h := h _ rfl
    refine CW.drawn (fun w => w = World.drew w1) 6 (by kernel_rfl) fun H hH => ?_
    generalize World.drew w1 = w2 at h hH ⊢
    refine HW.pure (i := 0) hH rfl (by kernel_rfl) (Wants.free rfl) rfl (fun _ => rfl) (Rd.move (v := .pointer f1) rfl) ?_
    obtain ⟨a1, ha1, h⟩ := h
    refine HW.pure (i := 1) hH rfl (by kernel_rfl) (Wants.free rfl) rfl (fun _ => rfl) (Rd.nil (q := a1) (by rw [← ha1]; rfl)) ?_
    refine HW.pure (i := 2) hH rfl (by kernel_rfl) (Wants.free rfl) rfl (fun _ => rfl) (Rd.fa (v := .pointer (some (a1.add 3))) rfl (fun _ => by kernel_rfl)) ?_
    obtain ⟨t2, hc2, h⟩ := h
    refine HW.take (i := 3) hH rfl (by kernel_rfl) (by kernel_rfl) (Wants.free rfl) rfl (fun _ => rfl) (Rd.ld (v := .pointer t2) rfl (by kernel_rfl) (eqs hc2)) ?_
    refine HW.pure (i := 4) hH rfl (by kernel_rfl) (Wants.free rfl) rfl (fun _ => rfl) (Rd.fa (v := .pointer (some (⟨b1, 1, none⟩ : Addr))) rfl (fun _ => by kernel_rfl)) ?_
    obtain ⟨t3, hc3, h⟩ := h
    refine HW.take (i := 5) hH rfl (by kernel_rfl) (by kernel_rfl) (Wants.free rfl) rfl (fun _ => rfl) (Rd.ld (v := .int .i64 t3) rfl (by kernel_rfl) (eqs hc3)) ?_
    refine HW.call (i := 6) hH (by kernel_rfl) rfl (Wants.free rfl) rfl (Cl.fn (f := 42) rfl Try.func42 (by kernel_rfl) rfl) h (fun e w3 h_ => ?_)
    clear h
    obtain ⟨r2, r3, rfl, h⟩ := h_
    refine ⟨_, rfl, (fun hc => by cases hc), ?_⟩
    refine HW.pure (i := 7) hH rfl (by kernel_rfl) (Wants.free rfl) rfl (fun hc => by cases hc) (Rd.move (v := .tuple #[.int .u32 r2, .int .i64 r3]) rfl) ?_
    refine HW.pure (i := 8) hH rfl (by kernel_rfl) (Wants.free rfl) rfl (fun hc => by cases hc) (Rd.extract (v := .int .u32 r2) rfl rfl) ?_
    refine HW.pure (i := 9) hH rfl (by kernel_rfl) (Wants.free rfl) rfl (fun hc => by cases hc) (Rd.extract (v := .int .i64 r3) rfl rfl) ?_
    refine HW.pure (i := 10) hH rfl (by kernel_rfl) (Wants.free rfl) rfl (fun hc => by cases hc) (Rd.assign (v := .int .u32 r2) rfl) ?_
    refine HW.pure (i := 11) hH rfl (by kernel_rfl) (Wants.free rfl) rfl (fun hc => by cases hc) (Rd.assign (v := .int .i64 r3) rfl) ?_
    refine HW.done hH (by kernel_rfl) ?_
    refine NW.then ?_
    refine CW.seq ?_
    refine CW.region fun L hL => ?_
    refine LW.rd hL rfl (Wants.free rfl) rfl (Rd.move (v := .int .u32 r2) rfl) ?_
    refine LW.rd hL rfl (Wants.free rfl) rfl (Rd.assign (v := .int .u32 r2) rfl) ?_
    refine LW.nil hL rfl ?_
    refine NW.then ?_
    refine CW.ret ?_
    refine RW.block ?_
    refine RW.then ?_
    exact res1 rfl rfl ⟨r2, rfl, h⟩
  · replace h := h.2 hb1
    refine CW.seq ?_
    refine CW.region fun L hL => ?_
    refine LW.rd hL rfl (Wants.free rfl) rfl (Rd.bin (v := .bool (t1 == 12)) rfl rfl (fun w => by kernel_rfl)) ?_
    refine LW.rd hL rfl (Wants.free rfl) rfl (Rd.assign (v := .bool (t1 == 12)) rfl) ?_
    refine LW.nil hL rfl ?_
    refine NW.then ?_
    refine CW.cond rfl (fun hb2 => ?_) (fun hb2 => ?_)
    · replace h := h.1 hb2
      refine CW.seq ?_
      replace h := h _ rfl
      refine CW.drawn (fun w => w = World.drew w1) 6 (by kernel_rfl) fun H hH => ?_
      generalize World.drew w1 = w4 at h hH ⊢
      refine HW.pure (i := 0) hH rfl (by kernel_rfl) (Wants.free rfl) rfl (fun _ => rfl) (Rd.move (v := .pointer f1) rfl) ?_
      obtain ⟨a2, ha2, h⟩ := h
      refine HW.pure (i := 1) hH rfl (by kernel_rfl) (Wants.free rfl) rfl (fun _ => rfl) (Rd.nil (q := a2) (by rw [← ha2]; rfl)) ?_
      refine HW.pure (i := 2) hH rfl (by kernel_rfl) (Wants.free rfl) rfl (fun _ => rfl) (Rd.fa (v := .pointer (some (a2.add 4))) rfl (fun _ => by kernel_rfl)) ?_
      obtain ⟨t4, hc4, h⟩ := h
      refine HW.take (i := 3) hH rfl (by kernel_rfl) (by kernel_rfl) (Wants.free rfl) rfl (fun _ => rfl) (Rd.ld (v := .pointer t4) rfl (by kernel_rfl) (eqs hc4)) ?_
      refine HW.pure (i := 4) hH rfl (by kernel_rfl) (Wants.free rfl) rfl (fun _ => rfl) (Rd.fa (v := .pointer (some (⟨b1, 1, none⟩ : Addr))) rfl (fun _ => by kernel_rfl)) ?_
      obtain ⟨t5, hc5, h⟩ := h
      refine HW.take (i := 5) hH rfl (by kernel_rfl) (by kernel_rfl) (Wants.free rfl) rfl (fun _ => rfl) (Rd.ld (v := .int .i64 t5) rfl (by kernel_rfl) (eqs hc5)) ?_
      refine HW.call (i := 6) hH (by kernel_rfl) rfl (Wants.free rfl) rfl (Cl.fn (f := 42) rfl Try.func42 (by kernel_rfl) rfl) h (fun e w5 h_ => ?_)
      clear h
      obtain ⟨r4, r5, rfl, h⟩ := h_
      refine ⟨_, rfl, (fun hc => by cases hc), ?_⟩
      refine HW.pure (i := 7) hH rfl (by kernel_rfl) (Wants.free rfl) rfl (fun hc => by cases hc) (Rd.move (v := .tuple #[.int .u32 r4, .int .i64 r5]) rfl) ?_
      refine HW.pure (i := 8) hH rfl (by kernel_rfl) (Wants.free rfl) rfl (fun hc => by cases hc) (Rd.extract (v := .int .u32 r4) rfl rfl) ?_
      refine HW.pure (i := 9) hH rfl (by kernel_rfl) (Wants.free rfl) rfl (fun hc => by cases hc) (Rd.extract (v := .int .i64 r5) rfl rfl) ?_
      refine HW.pure (i := 10) hH rfl (by kernel_rfl) (Wants.free rfl) rfl (fun hc => by cases hc) (Rd.assign (v := .int .u32 r4) rfl) ?_
      refine HW.pure (i := 11) hH rfl (by kernel_rfl) (Wants.free rfl) rfl (fun hc => by cases hc) (Rd.assign (v := .int .i64 r5) rfl) ?_
      refine HW.done hH (by kernel_rfl) ?_
      refine NW.then ?_
      refine CW.seq ?_
      refine CW.region fun L hL => ?_
      refine LW.rd hL rfl (Wants.free rfl) rfl (Rd.move (v := .int .u32 r4) rfl) ?_
      refine LW.rd hL rfl (Wants.free rfl) rfl (Rd.assign (v := .int .u32 r4) rfl) ?_
      refine LW.nil hL rfl ?_
      refine NW.then ?_
      refine CW.ret ?_
      refine RW.block ?_
      refine RW.then ?_
      exact res1 rfl rfl ⟨r4, rfl, h⟩
    · replace h := h.2 hb2
      refine CW.skip ?_
      refine NW.block ?_
      refine NW.then ?_
      refine CW.seq ?_
      replace h := h _ rfl
      refine CW.drawn (fun w => w = World.drew w1) 7 (by kernel_rfl) fun H hH => ?_
      generalize World.drew w1 = w6 at h hH ⊢
      refine HW.pure (i := 0) hH rfl (by kernel_rfl) (Wants.free rfl) rfl (fun _ => rfl) (Rd.move (v := .pointer f1) rfl) ?_
      obtain ⟨a3, ha3, h⟩ := h
      refine HW.pure (i := 1) hH rfl (by kernel_rfl) (Wants.free rfl) rfl (fun _ => rfl) (Rd.nil (q := a3) (by rw [← ha3]; rfl)) ?_
      refine HW.pure (i := 2) hH rfl (by kernel_rfl) (Wants.free rfl) rfl (fun _ => rfl) (Rd.fa (v := .pointer (some (a3.add 5))) rfl (fun _ => by kernel_rfl)) ?_
      obtain ⟨t6, hc6, h⟩ := h
      refine HW.take (i := 3) hH rfl (by kernel_rfl) (by kernel_rfl) (Wants.free rfl) rfl (fun _ => rfl) (Rd.ld (v := .map t6) rfl (by kernel_rfl) (eqs hc6)) ?_
      obtain ⟨t7, t8, hc7, h⟩ := h
      refine HW.take (i := 4) hH rfl (by kernel_rfl) (by kernel_rfl) (Wants.free rfl) rfl (fun _ => rfl) (Rd.ldN (cs := [.int .i64 t7, .int .i64 t8]) rfl (by kernel_rfl) (by kernel_rfl) (cellsS hc7)) ?_
      obtain ⟨v1, hl1, h⟩ := h
      refine HW.take (i := 5) hH rfl (by kernel_rfl) (by kernel_rfl) (Wants.free rfl) rfl (fun _ => rfl) (Rd.lookup (v := .int .u32 v1) rfl rfl (fun _ e => e ▸ hl1)) ?_
      refine HW.pure (i := 6) hH rfl (by kernel_rfl) (Wants.free rfl) rfl (fun _ => rfl) (Rd.assign (v := .int .u32 v1) rfl) ?_
      refine HW.done hH (by kernel_rfl) ?_
      refine NW.then ?_
      refine CW.ret ?_
      exact res1 rfl rfl ⟨v1, rfl, h⟩

/- (*pomander/flow.Flow).keep -/
def V_flow_Flow_keep (f1 : Option Addr) (set1 : Int) (w : World) (R : Int → World → Prop) : Prop :=
  ∃ a1 : Addr, f1 = some a1 ∧ (∃ (t1 : Option Addr), w.cell? (a1.add 2) = some (.pointer t1) ∧ (Calls Try.prog 109 #[.pointer t1, .int .u32 set1] w fun e w1 => ∃ (r2 : Int) (r3 : Int), e = .returned (.tuple #[.int .i64 r2, .int .i64 r3]) ∧ (R r3 w1)))
set_option maxRecDepth 100000 in
theorem ok_flow_Flow_keep (f1 : Option Addr) (set1 : Int) (w : World) (R : Int → World → Prop) (h : V_flow_Flow_keep f1 set1 w R) : Calls Try.prog 77 #[.pointer f1, .int .u32 set1] w (fun e w' => ∃ (r1 : Int), e = .returned (.int .i64 r1) ∧ R r1 w') := by
  unfold V_flow_Flow_keep at h
  refine enter (N := 17) Try.func77 rfl rfl ?_
  refine CW.seq ?_
  refine CW.region fun L hL => ?_
  refine LW.rd hL rfl (Wants.free rfl) rfl (Rd.assign (v := .int .i64 0) rfl) ?_
  refine LW.nil hL rfl ?_
  refine NW.then ?_
  refine CW.seq ?_
  refine CW.region fun L hL => ?_
  refine LW.rd hL rfl (Wants.free rfl) rfl (Rd.move (v := .pointer f1) rfl) ?_
  obtain ⟨a1, ha1, h⟩ := h
  refine LW.rd hL rfl (Wants.free rfl) rfl (Rd.nil (q := a1) (by rw [← ha1]; rfl)) ?_
  refine LW.rd hL rfl (Wants.free rfl) rfl (Rd.fa (v := .pointer (some (a1.add 2))) rfl (fun _ => by kernel_rfl)) ?_
  obtain ⟨t1, hc1, h⟩ := h
  refine LW.rd hL rfl (Wants.free rfl) rfl (Rd.ld (v := .pointer t1) rfl (by kernel_rfl) (eqs hc1)) ?_
  refine LW.rd hL rfl (Wants.free rfl) rfl (Rd.move (v := .int .u32 set1) rfl) ?_
  refine LW.call hL rfl (Wants.free rfl) rfl (Cl.fn (f := 109) rfl Try.func109 (by kernel_rfl) rfl) h (fun e w1 h_ => ?_)
  clear h
  obtain ⟨r2, r3, rfl, h⟩ := h_
  refine ⟨_, rfl, ?_⟩
  refine LW.rd hL rfl (Wants.free rfl) rfl (Rd.move (v := .tuple #[.int .i64 r2, .int .i64 r3]) rfl) ?_
  refine LW.rd hL rfl (Wants.free rfl) rfl (Rd.extract (v := .int .i64 r2) rfl rfl) ?_
  refine LW.rd hL rfl (Wants.free rfl) rfl (Rd.extract (v := .int .i64 r3) rfl rfl) ?_
  refine LW.rd hL rfl (Wants.free rfl) rfl (Rd.assign (v := .int .i64 r2) rfl) ?_
  refine LW.rd hL rfl (Wants.free rfl) rfl (Rd.assign (v := .int .i64 r3) rfl) ?_
  refine LW.nil hL rfl ?_
  refine NW.then ?_
  refine CW.seq ?_
  refine CW.region fun L hL => ?_
  refine LW.rd hL rfl (Wants.free rfl) rfl (Rd.move (v := .int .i64 r3) rfl) ?_
  refine LW.rd hL rfl (Wants.free rfl) rfl (Rd.assign (v := .int .i64 r3) rfl) ?_
  refine LW.nil hL rfl ?_
  refine NW.then ?_
  refine CW.ret ?_
  exact res1 rfl rfl ⟨r3, rfl, h⟩

/- (*pomander/flow.Flow).put -/
def V_flow_Flow_put (f1 : Option Addr) (p1 : Int) (p2 : Int) (set1 : Int) (w : World) (R : World → Prop) : Prop :=
  ∀ b1 : Nat, b1 = World.size w → ∀ w1 : World, w1 = World.alloc w (.cells #[.int .i64 p1, .int .i64 p2] 56) → (∃ (t1 : Int), w1.cell? (⟨b1, 0, none⟩ : Addr) = some (.int .i64 t1) ∧ (((t1 == 10) = true → ∀ w2 : World, w2 = World.drew w1 → ∃ a1 : Addr, f1 = some a1 ∧ (∃ (t2 : Option Addr), w2.cell? (a1.add 3) = some (.pointer t2) ∧ (∃ (t3 : Int), w2.cell? (⟨b1, 1, none⟩ : Addr) = some (.int .i64 t3) ∧ (Calls Try.prog 52 #[.pointer t2, .int .i64 t3, .int .u32 set1] w2 fun e w3 => ∃ (r1 : Int), e = .returned (.int .i64 r1) ∧ (R w3))))) ∧ ((t1 == 10) = false → ∃ (t4 : Int), w1.cell? (⟨b1, 0, none⟩ : Addr) = some (.int .i64 t4) ∧ (((t4 == 12) = true → ∀ w4 : World, w4 = World.drew w1 → ∃ a2 : Addr, f1 = some a2 ∧ (∃ (t5 : Option Addr), w4.cell? (a2.add 4) = some (.pointer t5) ∧ (∃ (t6 : Int), w4.cell? (⟨b1, 1, none⟩ : Addr) = some (.int .i64 t6) ∧ (Calls Try.prog 52 #[.pointer t5, .int .i64 t6, .int .u32 set1] w4 fun e w5 => ∃ (r2 : Int), e = .returned (.int .i64 r2) ∧ (R w5))))) ∧ ((t4 == 12) = false → ((set1 == 0) = true → ∀ w6 : World, w6 = World.drew w1 → ∃ a3 : Addr, f1 = some a3 ∧ (∃ (t7 : Option Nat), w6.cell? (a3.add 5) = some (.map t7) ∧ (∃ (t8 : Int) (t9 : Int), CellsAt w6 (⟨b1, 0, none⟩ : Addr) 0 [.int .i64 t8, .int .i64 t9] ∧ (∃ w7 : World, (Builtin.delete_ #[143, 56] 0 #[.map t7, .agg #[.int .i64 t8, .int .i64 t9]]).run Try.prog w6 = .ok (.tuple #[]) w7 ∧ (R w7))))) ∧ ((set1 == 0) = false → ∀ w8 : World, w8 = World.drew w1 → ∃ a4 : Addr, f1 = some a4 ∧ (∃ (t10 : Option Nat), w8.cell? (a4.add 5) = some (.map t10) ∧ (∃ (t11 : Int) (t12 : Int), CellsAt w8 (⟨b1, 0, none⟩ : Addr) 0 [.int .i64 t11, .int .i64 t12] ∧ (∃ w9 : World, (Instr.mapUpdate 143 (.map t10) (.agg #[.int .i64 t11, .int .i64 t12]) (.int .u32 set1)).run Try.prog w8 = .ok () w9 ∧ (R w9))))))))))
set_option maxRecDepth 100000 in
theorem ok_flow_Flow_put (f1 : Option Addr) (p1 : Int) (p2 : Int) (set1 : Int) (w : World) (R : World → Prop) (h : V_flow_Flow_put f1 p1 p2 set1 w R) : Calls Try.prog 78 #[.pointer f1, .agg #[.int .i64 p1, .int .i64 p2], .int .u32 set1] w (fun e w' => e = .returned (.tuple #[]) ∧ R w') := by
  unfold V_flow_Flow_put at h
  refine enter (N := 44) Try.func78 rfl rfl ?_
  refine CW.seq ?_
  refine CW.region fun L hL => ?_
  obtain ⟨b1, hb_b1⟩ : ∃ b1, b1 = World.size w := ⟨_, rfl⟩
  obtain ⟨w1, hw_w1⟩ : ∃ w1, w1 = World.alloc w (.cells #[.int .i64 p1, .int .i64 p2] 56) := ⟨_, rfl⟩
  replace h := h b1 hb_b1 w1 hw_w1
  refine LW.val hL rfl (Wants.free rfl) rfl (boxE hb_b1 hw_w1 (Vl.box (v := .agg #[.int .i64 p1, .int .i64 p2]) rfl)) ?_
  refine LW.nil hL rfl ?_
  refine NW.then ?_
  refine CW.block ?_
  refine CW.seq ?_
  refine CW.region fun L hL => ?_
  refine LW.rd hL rfl (Wants.free rfl) rfl (Rd.fa (v := .pointer (some (⟨b1, 0, none⟩ : Addr))) rfl (fun _ => by kernel_rfl)) ?_
  obtain ⟨t1, hc1, h⟩ := h
  refine LW.rd hL rfl (Wants.free rfl) rfl (Rd.ld (v := .int .i64 t1) rfl (by kernel_rfl) (eqs hc1)) ?_
  refine LW.rd hL rfl (Wants.free rfl) rfl (Rd.bin (v := .bool (t1 == 10)) rfl rfl (fun w => by kernel_rfl)) ?_
  refine LW.rd hL rfl (Wants.free rfl) rfl (Rd.assign (v := .bool (t1 == 10)) rfl) ?_
  refine LW.nil hL rfl ?_
  refine NW.then ?_
  refine CW.cond rfl (fun hb1 => ?_) (fun hb1 => ?_)
  · replace h := h.1 hb1
    replace h := h _ rfl
    refine CW.drawn (fun w => w = World.drew w1) 7 (by kernel_rfl) fun H hH => ?_
    generalize World.drew w1 = w2 at h hH ⊢
    refine HW.pure (i := 0) hH rfl (by kernel_rfl) (Wants.free rfl) rfl (fun _ => rfl) (Rd.move (v := .pointer f1) rfl) ?_
    obtain ⟨a1, ha1, h⟩ := h
    refine HW.pure (i := 1) hH rfl (by kernel_rfl) (Wants.free rfl) rfl (fun _ => rfl) (Rd.nil (q := a1) (by rw [← ha1]; rfl)) ?_
    refine HW.pure (i := 2) hH rfl (by kernel_rfl) (Wants.free rfl) rfl (fun _ => rfl) (Rd.fa (v := .pointer (some (a1.add 3))) rfl (fun _ => by kernel_rfl)) ?_
    obtain ⟨t2, hc2, h⟩ := h
    refine HW.take (i := 3) hH rfl (by kernel_rfl) (by kernel_rfl) (Wants.free rfl) rfl (fun _ => rfl) (Rd.ld (v := .pointer t2) rfl (by kernel_rfl) (eqs hc2)) ?_
    refine HW.pure (i := 4) hH rfl (by kernel_rfl) (Wants.free rfl) rfl (fun _ => rfl) (Rd.fa (v := .pointer (some (⟨b1, 1, none⟩ : Addr))) rfl (fun _ => by kernel_rfl)) ?_
    obtain ⟨t3, hc3, h⟩ := h
    refine HW.take (i := 5) hH rfl (by kernel_rfl) (by kernel_rfl) (Wants.free rfl) rfl (fun _ => rfl) (Rd.ld (v := .int .i64 t3) rfl (by kernel_rfl) (eqs hc3)) ?_
    refine HW.pure (i := 6) hH rfl (by kernel_rfl) (Wants.free rfl) rfl (fun _ => rfl) (Rd.move (v := .int .u32 set1) rfl) ?_
    refine HW.call (i := 7) hH (by kernel_rfl) rfl (Wants.free rfl) rfl (Cl.fn (f := 52) rfl Try.func52 (by kernel_rfl) rfl) h (fun e w3 h_ => ?_)
    clear h
    obtain ⟨r1, rfl, h⟩ := h_
    refine ⟨_, rfl, (fun hc => by cases hc), ?_⟩
    refine HW.done hH (by kernel_rfl) ?_
    refine NW.block ?_
    exact res0n rfl (by exact ⟨rfl, h⟩)
  · replace h := h.2 hb1
    refine CW.seq ?_
    refine CW.region fun L hL => ?_
    refine LW.rd hL rfl (Wants.free rfl) rfl (Rd.fa (v := .pointer (some (⟨b1, 0, none⟩ : Addr))) rfl (fun _ => by kernel_rfl)) ?_
    obtain ⟨t4, hc4, h⟩ := h
    refine LW.rd hL rfl (Wants.free rfl) rfl (Rd.ld (v := .int .i64 t4) rfl (by kernel_rfl) (eqs hc4)) ?_
    refine LW.rd hL rfl (Wants.free rfl) rfl (Rd.bin (v := .bool (t4 == 12)) rfl rfl (fun w => by kernel_rfl)) ?_
    refine LW.rd hL rfl (Wants.free rfl) rfl (Rd.assign (v := .bool (t4 == 12)) rfl) ?_
    refine LW.nil hL rfl ?_
    refine NW.then ?_
    refine CW.cond rfl (fun hb2 => ?_) (fun hb2 => ?_)
    · replace h := h.1 hb2
      replace h := h _ rfl
      refine CW.drawn (fun w => w = World.drew w1) 7 (by kernel_rfl) fun H hH => ?_
      generalize World.drew w1 = w4 at h hH ⊢
      refine HW.pure (i := 0) hH rfl (by kernel_rfl) (Wants.free rfl) rfl (fun _ => rfl) (Rd.move (v := .pointer f1) rfl) ?_
      obtain ⟨a2, ha2, h⟩ := h
      refine HW.pure (i := 1) hH rfl (by kernel_rfl) (Wants.free rfl) rfl (fun _ => rfl) (Rd.nil (q := a2) (by rw [← ha2]; rfl)) ?_
      refine HW.pure (i := 2) hH rfl (by kernel_rfl) (Wants.free rfl) rfl (fun _ => rfl) (Rd.fa (v := .pointer (some (a2.add 4))) rfl (fun _ => by kernel_rfl)) ?_
      obtain ⟨t5, hc5, h⟩ := h
      refine HW.take (i := 3) hH rfl (by kernel_rfl) (by kernel_rfl) (Wants.free rfl) rfl (fun _ => rfl) (Rd.ld (v := .pointer t5) rfl (by kernel_rfl) (eqs hc5)) ?_
      refine HW.pure (i := 4) hH rfl (by kernel_rfl) (Wants.free rfl) rfl (fun _ => rfl) (Rd.fa (v := .pointer (some (⟨b1, 1, none⟩ : Addr))) rfl (fun _ => by kernel_rfl)) ?_
      obtain ⟨t6, hc6, h⟩ := h
      refine HW.take (i := 5) hH rfl (by kernel_rfl) (by kernel_rfl) (Wants.free rfl) rfl (fun _ => rfl) (Rd.ld (v := .int .i64 t6) rfl (by kernel_rfl) (eqs hc6)) ?_
      refine HW.pure (i := 6) hH rfl (by kernel_rfl) (Wants.free rfl) rfl (fun _ => rfl) (Rd.move (v := .int .u32 set1) rfl) ?_
      refine HW.call (i := 7) hH (by kernel_rfl) rfl (Wants.free rfl) rfl (Cl.fn (f := 52) rfl Try.func52 (by kernel_rfl) rfl) h (fun e w5 h_ => ?_)
      clear h
      obtain ⟨r2, rfl, h⟩ := h_
      refine ⟨_, rfl, (fun hc => by cases hc), ?_⟩
      refine HW.done hH (by kernel_rfl) ?_
      refine NW.block ?_
      exact res0n rfl (by exact ⟨rfl, h⟩)
    · replace h := h.2 hb2
      refine CW.seq ?_
      refine CW.region fun L hL => ?_
      refine LW.rd hL rfl (Wants.free rfl) rfl (Rd.move (v := .int .u32 set1) rfl) ?_
      refine LW.rd hL rfl (Wants.free rfl) rfl (Rd.bin (v := .bool (set1 == 0)) rfl rfl (fun w => by kernel_rfl)) ?_
      refine LW.rd hL rfl (Wants.free rfl) rfl (Rd.assign (v := .bool (set1 == 0)) rfl) ?_
      refine LW.nil hL rfl ?_
      refine NW.then ?_
      refine CW.cond rfl (fun hb3 => ?_) (fun hb3 => ?_)
      · replace h := h.1 hb3
        replace h := h _ rfl
        refine CW.drawn (fun w => w = World.drew w1) 5 (by kernel_rfl) fun H hH => ?_
        generalize World.drew w1 = w6 at h hH ⊢
        refine HW.pure (i := 0) hH rfl (by kernel_rfl) (Wants.free rfl) rfl (fun _ => rfl) (Rd.move (v := .pointer f1) rfl) ?_
        obtain ⟨a3, ha3, h⟩ := h
        refine HW.pure (i := 1) hH rfl (by kernel_rfl) (Wants.free rfl) rfl (fun _ => rfl) (Rd.nil (q := a3) (by rw [← ha3]; rfl)) ?_
        refine HW.pure (i := 2) hH rfl (by kernel_rfl) (Wants.free rfl) rfl (fun _ => rfl) (Rd.fa (v := .pointer (some (a3.add 5))) rfl (fun _ => by kernel_rfl)) ?_
        obtain ⟨t7, hc7, h⟩ := h
        refine HW.take (i := 3) hH rfl (by kernel_rfl) (by kernel_rfl) (Wants.free rfl) rfl (fun _ => rfl) (Rd.ld (v := .map t7) rfl (by kernel_rfl) (eqs hc7)) ?_
        obtain ⟨t8, t9, hc8, h⟩ := h
        refine HW.take (i := 4) hH rfl (by kernel_rfl) (by kernel_rfl) (Wants.free rfl) rfl (fun _ => rfl) (Rd.ldN (cs := [.int .i64 t8, .int .i64 t9]) rfl (by kernel_rfl) (by kernel_rfl) (cellsS hc8)) ?_
        obtain ⟨w7, hd1, h⟩ := h
        refine HW.val (i := 5) hH (by kernel_rfl) rfl (Wants.free rfl) rfl (Vl.builtin (v := .tuple #[]) rfl (valB hd1)) (fun hc => by cases hc) ?_
        refine HW.done hH (by kernel_rfl) ?_
        refine NW.block ?_
        exact res0n rfl (by exact ⟨rfl, h⟩)
      · replace h := h.2 hb3
        replace h := h _ rfl
        refine CW.drawn (fun w => w = World.drew w1) 6 (by kernel_rfl) fun H hH => ?_
        generalize World.drew w1 = w8 at h hH ⊢
        refine HW.pure (i := 0) hH rfl (by kernel_rfl) (Wants.free rfl) rfl (fun _ => rfl) (Rd.move (v := .pointer f1) rfl) ?_
        obtain ⟨a4, ha4, h⟩ := h
        refine HW.pure (i := 1) hH rfl (by kernel_rfl) (Wants.free rfl) rfl (fun _ => rfl) (Rd.nil (q := a4) (by rw [← ha4]; rfl)) ?_
        refine HW.pure (i := 2) hH rfl (by kernel_rfl) (Wants.free rfl) rfl (fun _ => rfl) (Rd.fa (v := .pointer (some (a4.add 5))) rfl (fun _ => by kernel_rfl)) ?_
        obtain ⟨t10, hc9, h⟩ := h
        refine HW.take (i := 3) hH rfl (by kernel_rfl) (by kernel_rfl) (Wants.free rfl) rfl (fun _ => rfl) (Rd.ld (v := .map t10) rfl (by kernel_rfl) (eqs hc9)) ?_
        obtain ⟨t11, t12, hc10, h⟩ := h
        refine HW.take (i := 4) hH rfl (by kernel_rfl) (by kernel_rfl) (Wants.free rfl) rfl (fun _ => rfl) (Rd.ldN (cs := [.int .i64 t11, .int .i64 t12]) rfl (by kernel_rfl) (by kernel_rfl) (cellsS hc10)) ?_
        refine HW.pure (i := 5) hH rfl (by kernel_rfl) (Wants.free rfl) rfl (fun _ => rfl) (Rd.move (v := .int .u32 set1) rfl) ?_
        obtain ⟨w9, hm1, h⟩ := h
        refine HW.eff (i := 6) hH (by kernel_rfl) rfl (Wants.free rfl) rfl (Ef.mapUpdate rfl rfl rfl hm1) (fun hc => by cases hc) ?_
        refine HW.done hH (by kernel_rfl) ?_
        refine NW.block ?_
        exact res0n rfl (by exact ⟨rfl, h⟩)

/- (*pomander/flow.Flow).right -/
def V_flow_Flow_right (f1 : Option Addr) (l1 : Option Addr) (l1n : Nat) (l1c : Nat) (w : World) (R : Bool → World → Prop) : Prop :=
  ∃ (I1 : Bool × Int → World → Prop) (m1 : Bool × Int → World → Nat), I1 (false, 0) w ∧ ∀ (s1 : Bool × Int) (w1 : World), I1 s1 w1 → ((decide (s1.2 < (l1n : Int))) = true → ∃ a1 : Addr, l1 = some a1 ∧ (0 : Int) ≤ s1.2 ∧ s1.2 < (l1n : Int) ∧ (∃ (t1 : Int) (t2 : Int) (t3 : Option Addr) (t3n : Nat) (t3c : Nat), CellsAt w1 (a1.add (Int.toNat s1.2 * 3)) 0 [.int .i64 t1, .int .i64 t2, .slice t3 t3n t3c] ∧ (∀ b1 : Nat, b1 = World.size w1 → ∀ w2 : World, w2 = World.alloc w1 (.cells #[.int .i64 0, .int .i64 0, .slice none 0 0] 81) → (Has w2 (⟨b1, 0, none⟩ : Addr) 3 ∧ Free w2 (⟨b1, 0, none⟩ : Addr) 3 ∧ ∀ w3 : World, w3 = setCells w2 (⟨b1, 0, none⟩ : Addr) 0 [.int .i64 t1, .int .i64 t2, .slice t3 t3n t3c] → (∃ (t4 : Int) (t5 : Int), CellsAt w3 (⟨b1, 0, none⟩ : Addr) 0 [.int .i64 t4, .int .i64 t5] ∧ (∃ J1 : Bool → World → Prop, (∀ (b2 : Bool) (w4 : World), J1 b2 w4 → (b2 = true → R false w4) ∧ (b2 = false → ∃ (t8 : Option Addr) (t8n : Nat) (t8c : Nat), w4.cell? (⟨b1, 2, none⟩ : Addr) = some (.slice t8 t8n t8c) ∧ (∃ (I2 : Bool × Int → World → Prop) (m2 : Bool × Int → World → Nat), I2 (s1.1, 0) w4 ∧ ∀ (s2 : Bool × Int) (w6 : World), I2 s2 w6 → ((decide (s2.2 < (t8n : Int))) = true → ∃ a2 : Addr, t8 = some a2 ∧ (0 : Int) ≤ s2.2 ∧ s2.2 < (t8n : Int) ∧ (∃ (t9 : Int) (t10 : Int), CellsAt w6 (a2.add (Int.toNat s2.2 * 2)) 0 [.int .i64 t9, .int .i64 t10] ∧ (∀ b3 : Nat, b3 = World.size w6 → ∀ w7 : World, w7 = World.alloc w6 (.cells #[.int .i64 0, .int .i64 0] 56) → (Has w7 (⟨b3, 0, none⟩ : Addr) 2 ∧ Free w7 (⟨b3, 0, none⟩ : Addr) 2 ∧ ∀ w8 : World, w8 = setCells w7 (⟨b3, 0, none⟩ : Addr) 0 [.int .i64 t9, .int .i64 t10] → (∃ (t11 : Int) (t12 : Int), CellsAt w8 (⟨b3, 0, none⟩ : Addr) 0 [.int .i64 t11, .int .i64 t12] ∧ (Calls Try.prog 74 #[.pointer f1, .agg #[.int .i64 t11, .int .i64 t12]] w8 fun e w9 => ∃ (r3 : Bool), e = .returned (.bool r3) ∧ (((!r3) = true → R false w9) ∧ ((!r3) = false → (I2 (s2.1, IntKind.wrap .i64 (s2.2 + 1)) w9 ∧ m2 (s2.1, IntKind.wrap .i64 (s2.2 + 1)) w9 < m2 s2 w6))))))))) ∧ ((decide (s2.2 < (t8n : Int))) = false → (I1 (s2.1, IntKind.wrap .i64 (s1.2 + 1)) w6 ∧ m1 (s2.1, IntKind.wrap .i64 (s1.2 + 1)) w6 < m1 s1 w1))))) ∧ (((!((t4 == 0) && (t5 == 0))) = true → ∃ (t6 : Int) (t7 : Int), CellsAt w3 (⟨b1, 0, none⟩ : Addr) 0 [.int .i64 t6, .int .i64 t7] ∧ (Calls Try.prog 74 #[.pointer f1, .agg #[.int .i64 t6, .int .i64 t7]] w3 fun e w5 => ∃ (r2 : Bool), e = .returned (.bool r2) ∧ (J1 (!r2) w5))) ∧ ((!((t4 == 0) && (t5 == 0))) = false → J1 false w3)))))))) ∧ ((decide (s1.2 < (l1n : Int))) = false → R true w1)
set_option maxRecDepth 100000 in
theorem ok_flow_Flow_right (f1 : Option Addr) (l1 : Option Addr) (l1n : Nat) (l1c : Nat) (w : World) (R : Bool → World → Prop) (h : V_flow_Flow_right f1 l1 l1n l1c w R) : Calls Try.prog 81 #[.pointer f1, .slice l1 l1n l1c] w (fun e w' => ∃ (r1 : Bool), e = .returned (.bool r1) ∧ R r1 w') := by
  unfold V_flow_Flow_right at h
  refine enter (N := 39) Try.func81 rfl rfl ?_
  refine CW.seq ?_
  refine CW.region fun L hL => ?_
  refine LW.rd hL rfl (Wants.free rfl) rfl (Rd.assign (v := .bool false) rfl) ?_
  refine LW.nil hL rfl ?_
  refine NW.then ?_
  refine CW.seq ?_
  refine CW.seq ?_
  refine CW.region fun L hL => ?_
  refine LW.rd hL rfl (Wants.free rfl) rfl (Rd.move (v := .slice l1 l1n l1c) rfl) ?_
  refine LW.rd hL rfl (Wants.free rfl) rfl (Rd.builtin (v := .int .i64 (l1n : Int)) rfl (fun _ _ => by kernel_rfl)) ?_
  refine LW.rd hL rfl (Wants.free rfl) rfl (Rd.move (v := .int .i64 0) rfl) ?_
  refine LW.nil hL rfl ?_
  refine NW.then ?_
  refine CW.block ?_
  obtain ⟨I1, m1, hI1, h⟩ := h
  refine CW.loop (S := Bool × Int) (fun s1 => [(0, .pointer f1), (9, .slice l1 l1n l1c), (10, .int .i64 (l1n : Int)), (4, .bool s1.1), (11, .int .i64 s1.2)]) I1 m1 (false, 0) (by exact ⟨rfl, rfl, rfl, rfl, rfl, trivial⟩) hI1 (fun s1 w1 hI1 => ?_)
  replace h := h s1 w1 hI1
  refine CW.seq ?_
  refine CW.region fun L hL => ?_
  refine LW.rd hL rfl (Wants.free rfl) rfl (Rd.bin (v := .bool (decide (s1.2 < (l1n : Int)))) rfl rfl (fun w => by kernel_rfl)) ?_
  refine LW.nil hL rfl ?_
  refine NW.then ?_
  refine CW.seq ?_
  refine CW.cond rfl (fun hb1 => ?_) (fun hb1 => ?_)
  · replace h := h.1 hb1
    refine CW.skip ?_
    refine NW.then ?_
    refine CW.seq ?_
    refine CW.block ?_
    refine CW.seq ?_
    refine CW.region fun L hL => ?_
    obtain ⟨a1, he1, hi1, hi2, h⟩ := h
    refine LW.rd hL rfl (Wants.free rfl) rfl (Rd.iaS (q := a1) (sz := 3) (by rw [← he1]; rfl) rfl Try.underlying25 (by kernel_rfl) hi1 hi2) ?_
    obtain ⟨t1, t2, t3, t3n, t3c, hc1, h⟩ := h
    refine LW.rd hL rfl (Wants.free rfl) rfl (Rd.ldN (cs := [.int .i64 t1, .int .i64 t2, .slice t3 t3n t3c]) rfl (by kernel_rfl) (by kernel_rfl) (cellsS hc1)) ?_
    obtain ⟨b1, hb_b1⟩ : ∃ b1, b1 = World.size w1 := ⟨_, rfl⟩
    obtain ⟨w2, hw_w2⟩ : ∃ w2, w2 = World.alloc w1 (.cells #[.int .i64 0, .int .i64 0, .slice none 0 0] 81) := ⟨_, rfl⟩
    replace h := h b1 hb_b1 w2 hw_w2
    refine LW.val hL rfl (Wants.free rfl) rfl (boxE hb_b1 hw_w2 (Vl.alloc (z := .agg #[.int .i64 0, .int .i64 0, .slice none 0 0]) (by kernel_rfl))) ?_
    obtain ⟨ho1, hf1, h⟩ := h
    obtain ⟨w3, hw_w3⟩ : ∃ w3, w3 = setCells w2 (⟨b1, 0, none⟩ : Addr) 0 [.int .i64 t1, .int .i64 t2, .slice t3 t3n t3c] := ⟨_, rfl⟩
    replace h := h w3 hw_w3
    refine LW.eff hL rfl (Wants.free rfl) rfl (stNE hw_w3 (Ef.stN (cs := [.int .i64 t1, .int .i64 t2, .slice t3 t3n t3c]) rfl rfl (by kernel_rfl) (List.forall_mem_cons.2 ⟨rfl, (List.forall_mem_cons.2 ⟨rfl, (List.forall_mem_cons.2 ⟨rfl, (List.forall_mem_nil _)⟩)⟩)⟩) ho1 hf1)) ?_
    refine LW.nil hL rfl ?_
    refine NW.then ?_
    refine CW.seq ?_
    refine CW.seq ?_
    refine CW.region fun L hL => ?_
    refine LW.rd hL rfl (Wants.free rfl) rfl (Rd.fa (v := .pointer (some (⟨b1, 0, none⟩ : Addr))) rfl (fun _ => by kernel_rfl)) ?_
    obtain ⟨t4, t5, hc2, h⟩ := h
    refine LW.rd hL rfl (Wants.free rfl) rfl (Rd.ldN (cs := [.int .i64 t4, .int .i64 t5]) rfl (by kernel_rfl) (by kernel_rfl) (cellsS hc2)) ?_
    refine LW.rd hL rfl (Wants.free rfl) rfl (Rd.build (v := .agg #[.int .i64 0, .int .i64 0]) rfl (fun _ => by kernel_rfl)) ?_
    refine LW.rd hL rfl (Wants.free rfl) rfl (Rd.bin (v := .bool (!((t4 == 0) && (t5 == 0)))) rfl rfl (fun w => neS_56 _ _ _ _ w)) ?_
    refine LW.rd hL rfl (Wants.free rfl) rfl (Rd.move (v := .bool (!((t4 == 0) && (t5 == 0)))) rfl) ?_
    obtain ⟨J1, hJ1, h1_J1, h0_J1⟩ := h
    suffices K1 : ∀ (b2 : Bool) (w4 : World), J1 b2 w4 → L 11 [(0, .pointer f1), (4, .bool s1.1), (6, .pointer (some (⟨b1, 0, none⟩ : Addr))), (9, .slice l1 l1n l1c), (10, .int .i64 (l1n : Int)), (11, .int .i64 s1.2), (25, .bool b2)] w4 by
      rcases Bool.eq_false_or_eq_true (!((t4 == 0) && (t5 == 0))) with hb2 | hb2
      · have h := h1_J1 hb2
        refine LW.rd hL rfl (Wants.on rfl rfl rfl rfl rfl hb2) rfl (Rd.move (v := .pointer f1) rfl) ?_
        refine LW.rd hL rfl (Wants.on rfl rfl rfl rfl rfl hb2) rfl (Rd.fa (v := .pointer (some (⟨b1, 0, none⟩ : Addr))) rfl (fun _ => by kernel_rfl)) ?_
        obtain ⟨t6, t7, hc3, h⟩ := h
        refine LW.rd hL rfl (Wants.on rfl rfl rfl rfl rfl hb2) rfl (Rd.ldN (cs := [.int .i64 t6, .int .i64 t7]) rfl (by kernel_rfl) (by kernel_rfl) (cellsS hc3)) ?_
        refine LW.call hL rfl (Wants.on rfl rfl rfl rfl rfl hb2) rfl (Cl.fn (f := 74) rfl Try.func74 (by kernel_rfl) rfl) h (fun e w5 h_ => ?_)
        clear h
        obtain ⟨r2, rfl, h⟩ := h_
        refine ⟨_, rfl, ?_⟩
        refine LW.rd hL rfl (Wants.on rfl rfl rfl rfl rfl hb2) rfl (Rd.un (v := .bool (!r2)) rfl (fun _ => by kernel_rfl)) ?_
        refine LW.rd hL rfl (Wants.free rfl) rfl (Rd.pickT rfl hb2 rfl) ?_
        exact LW.sub hL (by exact ⟨rfl, rfl, rfl, rfl, rfl, rfl, rfl, trivial⟩) (K1 (!r2) w5 h)
      · have h := h0_J1 hb2
        refine LW.skip hL rfl (Skips.on rfl rfl rfl rfl rfl hb2) rfl ?_
        refine LW.skip hL rfl (Skips.on rfl rfl rfl rfl rfl hb2) rfl ?_
        refine LW.skip hL rfl (Skips.on rfl rfl rfl rfl rfl hb2) rfl ?_
        refine LW.skip hL rfl (Skips.on rfl rfl rfl rfl rfl hb2) rfl ?_
        refine LW.skip hL rfl (Skips.on rfl rfl rfl rfl rfl hb2) rfl ?_
        refine LW.rd hL rfl (Wants.free rfl) rfl (Rd.pickF rfl hb2 rfl) ?_
        exact LW.sub hL (by exact ⟨rfl, rfl, rfl, rfl, rfl, rfl, rfl, trivial⟩) (K1 false w3 h)
    intro b2 w4 h_
    have h := hJ1 b2 w4 h_; clear h_
    refine LW.nil hL rfl ?_
    refine NW.then ?_
    refine CW.cond rfl (fun hb3 => ?_) (fun hb3 => ?_)
    · replace h := h.1 hb3
      refine CW.seq ?_
      refine CW.region fun L hL => ?_
      refine LW.rd hL rfl (Wants.free rfl) rfl (Rd.assign (v := .bool false) rfl) ?_
      refine LW.nil hL rfl ?_
      refine NW.then ?_
      refine CW.ret ?_
      refine RW.then ?_
      refine RW.block ?_
      refine RW.then ?_
      refine RW.then ?_
      refine RW.block ?_
      refine RW.then ?_
      exact res1 rfl rfl ⟨false, rfl, h⟩
    · replace h := h.2 hb3
      refine CW.skip ?_
      refine NW.then ?_
      refine CW.seq ?_
      refine CW.region fun L hL => ?_
      refine LW.rd hL rfl (Wants.free rfl) rfl (Rd.fa (v := .pointer (some (⟨b1, 2, none⟩ : Addr))) rfl (fun _ => by kernel_rfl)) ?_
      obtain ⟨t8, t8n, t8c, hc4, h⟩ := h
      refine LW.rd hL rfl (Wants.free rfl) rfl (Rd.ld (v := .slice t8 t8n t8c) rfl (by kernel_rfl) (eqs hc4)) ?_
      refine LW.rd hL rfl (Wants.free rfl) rfl (Rd.builtin (v := .int .i64 (t8n : Int)) rfl (fun _ _ => by kernel_rfl)) ?_
      refine LW.rd hL rfl (Wants.free rfl) rfl (Rd.move (v := .int .i64 0) rfl) ?_
      refine LW.nil hL rfl ?_
      refine NW.then ?_
      refine CW.block ?_
      obtain ⟨I2, m2, hI2, h⟩ := h
      refine CW.loop (S := Bool × Int) (fun s2 => [(0, .pointer f1), (9, .slice l1 l1n l1c), (10, .int .i64 (l1n : Int)), (11, .int .i64 s1.2), (27, .slice t8 t8n t8c), (28, .int .i64 (t8n : Int)), (4, .bool s2.1), (29, .int .i64 s2.2)]) I2 m2 (s1.1, 0) (by exact ⟨rfl, rfl, rfl, rfl, rfl, rfl, rfl, rfl, trivial⟩) hI2 (fun s2 w6 hI2 => ?_)
      replace h := h s2 w6 hI2
      refine CW.seq ?_
      refine CW.region fun L hL => ?_
      refine LW.rd hL rfl (Wants.free rfl) rfl (Rd.bin (v := .bool (decide (s2.2 < (t8n : Int)))) rfl rfl (fun w => by kernel_rfl)) ?_
      refine LW.nil hL rfl ?_
      refine NW.then ?_
      refine CW.seq ?_
      refine CW.cond rfl (fun hb4 => ?_) (fun hb4 => ?_)
      · replace h := h.1 hb4
        refine CW.skip ?_
        refine NW.then ?_
        refine CW.seq ?_
        refine CW.block ?_
        refine CW.seq ?_
        refine CW.region fun L hL => ?_
        obtain ⟨a2, he2, hi3, hi4, h⟩ := h
        refine LW.rd hL rfl (Wants.free rfl) rfl (Rd.iaS (q := a2) (sz := 2) (by rw [← he2]; rfl) rfl Try.underlying47 (by kernel_rfl) hi3 hi4) ?_
        obtain ⟨t9, t10, hc5, h⟩ := h
        refine LW.rd hL rfl (Wants.free rfl) rfl (Rd.ldN (cs := [.int .i64 t9, .int .i64 t10]) rfl (by kernel_rfl) (by kernel_rfl) (cellsS hc5)) ?_
        obtain ⟨b3, hb_b3⟩ : ∃ b3, b3 = World.size w6 := ⟨_, rfl⟩
        obtain ⟨w7, hw_w7⟩ : ∃ w7, w7 = World.alloc w6 (.cells #[.int .i64 0, .int .i64 0] 56) := ⟨_, rfl⟩
        replace h := h b3 hb_b3 w7 hw_w7
        refine LW.val hL rfl (Wants.free rfl) rfl (boxE hb_b3 hw_w7 (Vl.alloc (z := .agg #[.int .i64 0, .int .i64 0]) (by kernel_rfl))) ?_
        obtain ⟨ho2, hf2, h⟩ := h
        obtain ⟨w8, hw_w8⟩ : ∃ w8, w8 = setCells w7 (⟨b3, 0, none⟩ : Addr) 0 [.int .i64 t9, .int .i64 t10] := ⟨_, rfl⟩
        replace h := h w8 hw_w8
        refine LW.eff hL rfl (Wants.free rfl) rfl (stNE hw_w8 (Ef.stN (cs := [.int .i64 t9, .int .i64 t10]) rfl rfl (by kernel_rfl) (List.forall_mem_cons.2 ⟨rfl, (List.forall_mem_cons.2 ⟨rfl, (List.forall_mem_nil _)⟩)⟩) ho2 hf2)) ?_
        refine LW.nil hL rfl ?_
        refine NW.then ?_
        refine CW.seq ?_
        refine CW.region fun L hL => ?_
        refine LW.rd hL rfl (Wants.free rfl) rfl (Rd.move (v := .pointer f1) rfl) ?_
        obtain ⟨t11, t12, hc6, h⟩ := h
        refine LW.rd hL rfl (Wants.free rfl) rfl (Rd.ldN (cs := [.int .i64 t11, .int .i64 t12]) rfl (by kernel_rfl) (by kernel_rfl) (cellsS hc6)) ?_
        refine LW.call hL rfl (Wants.free rfl) rfl (Cl.fn (f := 74) rfl Try.func74 (by kernel_rfl) rfl) h (fun e w9 h_ => ?_)
        clear h
        obtain ⟨r3, rfl, h⟩ := h_
        refine ⟨_, rfl, ?_⟩
        refine LW.rd hL rfl (Wants.free rfl) rfl (Rd.un (v := .bool (!r3)) rfl (fun _ => by kernel_rfl)) ?_
        refine LW.nil hL rfl ?_
        refine NW.then ?_
        refine CW.cond rfl (fun hb5 => ?_) (fun hb5 => ?_)
        · replace h := h.1 hb5
          refine CW.seq ?_
          refine CW.region fun L hL => ?_
          refine LW.rd hL rfl (Wants.free rfl) rfl (Rd.assign (v := .bool false) rfl) ?_
          refine LW.nil hL rfl ?_
          refine NW.then ?_
          refine CW.ret ?_
          refine RW.block ?_
          refine RW.then ?_
          refine RW.then ?_
          refine RW.block ?_
          refine RW.block ?_
          refine RW.then ?_
          refine RW.then ?_
          refine RW.block ?_
          refine RW.then ?_
          exact res1 rfl rfl ⟨false, rfl, h⟩
        · replace h := h.2 hb5
          refine CW.skip ?_
          refine NW.block ?_
          refine NW.then ?_
          refine CW.region fun L hL => ?_
          refine LW.rd hL rfl (Wants.free rfl) rfl (Rd.bin (v := .int .i64 (IntKind.wrap .i64 (s2.2 + 1))) rfl rfl (fun w => by kernel_rfl)) ?_
          refine LW.rd hL rfl (Wants.free rfl) rfl (Rd.move (v := .int .i64 (IntKind.wrap .i64 (s2.2 + 1))) rfl) ?_
          refine LW.nil hL rfl ?_
          exact NW.loop (S := Bool × Int) (Ek := fun s2 => [(0, .pointer f1), (9, .slice l1 l1n l1c), (10, .int .i64 (l1n : Int)), (11, .int .i64 s1.2), (27, .slice t8 t8n t8c), (28, .int .i64 (t8n : Int)), (4, .bool s2.1), (29, .int .i64 s2.2)]) (s2.1, IntKind.wrap .i64 (s2.2 + 1)) (by exact ⟨rfl, rfl, rfl, rfl, rfl, rfl, rfl, rfl, trivial⟩) h
      · replace h := h.2 hb4
        refine CW.exit ?_
        refine XW.then ?_
        refine XW.then ?_
        refine XW.hit ?_
        refine NW.block ?_
        refine NW.then ?_
        refine CW.region fun L hL => ?_
        refine LW.rd hL rfl (Wants.free rfl) rfl (Rd.bin (v := .int .i64 (IntKind.wrap .i64 (s1.2 + 1))) rfl rfl (fun w => by kernel_rfl)) ?_
        refine LW.rd hL rfl (Wants.free rfl) rfl (Rd.move (v := .int .i64 (IntKind.wrap .i64 (s1.2 + 1))) rfl) ?_
        refine LW.nil hL rfl ?_
        exact NW.loop (S := Bool × Int) (Ek := fun s1 => [(0, .pointer f1), (9, .slice l1 l1n l1c), (10, .int .i64 (l1n : Int)), (4, .bool s1.1), (11, .int .i64 s1.2)]) (s2.1, IntKind.wrap .i64 (s1.2 + 1)) (by exact ⟨rfl, rfl, rfl, rfl, rfl, trivial⟩) h
  · replace h := h.2 hb1
    refine CW.exit ?_
    refine XW.then ?_
    refine XW.then ?_
    refine XW.hit ?_
    refine NW.then ?_
    refine CW.seq ?_
    refine CW.region fun L hL => ?_
    refine LW.rd hL rfl (Wants.free rfl) rfl (Rd.assign (v := .bool true) rfl) ?_
    refine LW.nil hL rfl ?_
    refine NW.then ?_
    refine CW.ret ?_
    exact res1 rfl rfl ⟨true, rfl, h⟩

/- (*pomander/flow.Flow).together -/
def V_flow_Flow_together (f1 : Option Addr) (l1 : Option Addr) (l1n : Nat) (l1c : Nat) (w : World) (R : Int → World → Prop) : Prop :=
  ∃ (I1 : Int × Int → World → Prop) (m1 : Int × Int → World → Nat), I1 (0, 0) w ∧ ∀ (s1 : Int × Int) (w1 : World), I1 s1 w1 → ((decide (s1.2 < (l1n : Int))) = true → ∃ a1 : Addr, l1 = some a1 ∧ (0 : Int) ≤ s1.2 ∧ s1.2 < (l1n : Int) ∧ (∃ (t1 : Int) (t2 : Int), CellsAt w1 (a1.add (Int.toNat s1.2 * 2)) 0 [.int .i64 t1, .int .i64 t2] ∧ (∀ b1 : Nat, b1 = World.size w1 → ∀ w2 : World, w2 = World.alloc w1 (.cells #[.int .i64 0, .int .i64 0] 56) → (Has w2 (⟨b1, 0, none⟩ : Addr) 2 ∧ Free w2 (⟨b1, 0, none⟩ : Addr) 2 ∧ ∀ w3 : World, w3 = setCells w2 (⟨b1, 0, none⟩ : Addr) 0 [.int .i64 t1, .int .i64 t2] → (∃ (t3 : Int) (t4 : Int), CellsAt w3 (⟨b1, 0, none⟩ : Addr) 0 [.int .i64 t3, .int .i64 t4] ∧ (Calls Try.prog 75 #[.pointer f1, .agg #[.int .i64 t3, .int .i64 t4]] w3 fun e w4 => ∃ (r2 : Int), e = .returned (.int .u32 r2) ∧ ((I1 (bits .or .u32 s1.1 r2, IntKind.wrap .i64 (s1.2 + 1)) w4 ∧ m1 (bits .or .u32 s1.1 r2, IntKind.wrap .i64 (s1.2 + 1)) w4 < m1 s1 w1)))))))) ∧ ((decide (s1.2 < (l1n : Int))) = false → R s1.1 w1)
set_option maxRecDepth 100000 in
theorem ok_flow_Flow_together (f1 : Option Addr) (l1 : Option Addr) (l1n : Nat) (l1c : Nat) (w : World) (R : Int → World → Prop) (h : V_flow_Flow_together f1 l1 l1n l1c w R) : Calls Try.prog 82 #[.pointer f1, .slice l1 l1n l1c] w (fun e w' => ∃ (r1 : Int), e = .returned (.int .u32 r1) ∧ R r1 w') := by
  unfold V_flow_Flow_together at h
  refine enter (N := 21) Try.func82 rfl rfl ?_
  refine CW.seq ?_
  refine CW.region fun L hL => ?_
  refine LW.rd hL rfl (Wants.free rfl) rfl (Rd.assign (v := .int .u32 0) rfl) ?_
  refine LW.nil hL rfl ?_
  refine NW.then ?_
  refine CW.seq ?_
  refine CW.region fun L hL => ?_
  refine LW.rd hL rfl (Wants.free rfl) rfl (Rd.assign (v := .int .u32 0) rfl) ?_
  refine LW.nil hL rfl ?_
  refine NW.then ?_
  refine CW.seq ?_
  refine CW.seq ?_
  refine CW.region fun L hL => ?_
  refine LW.rd hL rfl (Wants.free rfl) rfl (Rd.move (v := .slice l1 l1n l1c) rfl) ?_
  refine LW.rd hL rfl (Wants.free rfl) rfl (Rd.builtin (v := .int .i64 (l1n : Int)) rfl (fun _ _ => by kernel_rfl)) ?_
  refine LW.rd hL rfl (Wants.free rfl) rfl (Rd.move (v := .int .i64 0) rfl) ?_
  refine LW.nil hL rfl ?_
  refine NW.then ?_
  refine CW.block ?_
  obtain ⟨I1, m1, hI1, h⟩ := h
  refine CW.loop (S := Int × Int) (fun s1 => [(0, .pointer f1), (4, .int .u32 0), (8, .slice l1 l1n l1c), (9, .int .i64 (l1n : Int)), (5, .int .u32 s1.1), (10, .int .i64 s1.2)]) I1 m1 (0, 0) (by exact ⟨rfl, rfl, rfl, rfl, rfl, rfl, trivial⟩) hI1 (fun s1 w1 hI1 => ?_)
  replace h := h s1 w1 hI1
  refine CW.seq ?_
  refine CW.region fun L hL => ?_
  refine LW.rd hL rfl (Wants.free rfl) rfl (Rd.bin (v := .bool (decide (s1.2 < (l1n : Int)))) rfl rfl (fun w => by kernel_rfl)) ?_
  refine LW.nil hL rfl ?_
  refine NW.then ?_
  refine CW.seq ?_
  refine CW.cond rfl (fun hb1 => ?_) (fun hb1 => ?_)
  · replace h := h.1 hb1
    refine CW.skip ?_
    refine NW.then ?_
    refine CW.seq ?_
    refine CW.block ?_
    refine CW.seq ?_
    refine CW.region fun L hL => ?_
    obtain ⟨a1, he1, hi1, hi2, h⟩ := h
    refine LW.rd hL rfl (Wants.free rfl) rfl (Rd.iaS (q := a1) (sz := 2) (by rw [← he1]; rfl) rfl Try.underlying47 (by kernel_rfl) hi1 hi2) ?_
    obtain ⟨t1, t2, hc1, h⟩ := h
    refine LW.rd hL rfl (Wants.free rfl) rfl (Rd.ldN (cs := [.int .i64 t1, .int .i64 t2]) rfl (by kernel_rfl) (by kernel_rfl) (cellsS hc1)) ?_
    obtain ⟨b1, hb_b1⟩ : ∃ b1, b1 = World.size w1 := ⟨_, rfl⟩
    obtain ⟨w2, hw_w2⟩ : ∃ w2, w2 = World.alloc w1 (.cells #[.int .i64 0, .int .i64 0] 56) := ⟨_, rfl⟩
    replace h := h b1 hb_b1 w2 hw_w2
    refine LW.val hL rfl (Wants.free rfl) rfl (boxE hb_b1 hw_w2 (Vl.alloc (z := .agg #[.int .i64 0, .int .i64 0]) (by kernel_rfl))) ?_
    obtain ⟨ho1, hf1, h⟩ := h
    obtain ⟨w3, hw_w3⟩ : ∃ w3, w3 = setCells w2 (⟨b1, 0, none⟩ : Addr) 0 [.int .i64 t1, .int .i64 t2] := ⟨_, rfl⟩
    replace h := h w3 hw_w3
    refine LW.eff hL rfl (Wants.free rfl) rfl (stNE hw_w3 (Ef.stN (cs := [.int .i64 t1, .int .i64 t2]) rfl rfl (by kernel_rfl) (List.forall_mem_cons.2 ⟨rfl, (List.forall_mem_cons.2 ⟨rfl, (List.forall_mem_nil _)⟩)⟩) ho1 hf1)) ?_
    refine LW.nil hL rfl ?_
    refine NW.then ?_
    refine CW.region fun L hL => ?_
    refine LW.rd hL rfl (Wants.free rfl) rfl (Rd.move (v := .int .u32 s1.1) rfl) ?_
    refine LW.rd hL rfl (Wants.free rfl) rfl (Rd.move (v := .pointer f1) rfl) ?_
    obtain ⟨t3, t4, hc2, h⟩ := h
    refine LW.rd hL rfl (Wants.free rfl) rfl (Rd.ldN (cs := [.int .i64 t3, .int .i64 t4]) rfl (by kernel_rfl) (by kernel_rfl) (cellsS hc2)) ?_
    refine LW.call hL rfl (Wants.free rfl) rfl (Cl.fn (f := 75) rfl Try.func75 (by kernel_rfl) rfl) h (fun e w4 h_ => ?_)
    clear h
    obtain ⟨r2, rfl, h⟩ := h_
    refine ⟨_, rfl, ?_⟩
    refine LW.rd hL rfl (Wants.free rfl) rfl (Rd.bin (v := .int .u32 (bits .or .u32 s1.1 r2)) rfl rfl (fun w => by kernel_rfl)) ?_
    refine LW.rd hL rfl (Wants.free rfl) rfl (Rd.assign (v := .int .u32 (bits .or .u32 s1.1 r2)) rfl) ?_
    refine LW.nil hL rfl ?_
    refine NW.block ?_
    refine NW.then ?_
    refine CW.region fun L hL => ?_
    refine LW.rd hL rfl (Wants.free rfl) rfl (Rd.bin (v := .int .i64 (IntKind.wrap .i64 (s1.2 + 1))) rfl rfl (fun w => by kernel_rfl)) ?_
    refine LW.rd hL rfl (Wants.free rfl) rfl (Rd.move (v := .int .i64 (IntKind.wrap .i64 (s1.2 + 1))) rfl) ?_
    refine LW.nil hL rfl ?_
    exact NW.loop (S := Int × Int) (Ek := fun s1 => [(0, .pointer f1), (4, .int .u32 0), (8, .slice l1 l1n l1c), (9, .int .i64 (l1n : Int)), (5, .int .u32 s1.1), (10, .int .i64 s1.2)]) (bits .or .u32 s1.1 r2, IntKind.wrap .i64 (s1.2 + 1)) (by exact ⟨rfl, rfl, rfl, rfl, rfl, rfl, trivial⟩) h
  · replace h := h.2 hb1
    refine CW.exit ?_
    refine XW.then ?_
    refine XW.then ?_
    refine XW.hit ?_
    refine NW.then ?_
    refine CW.seq ?_
    refine CW.region fun L hL => ?_
    refine LW.rd hL rfl (Wants.free rfl) rfl (Rd.move (v := .int .u32 s1.1) rfl) ?_
    refine LW.rd hL rfl (Wants.free rfl) rfl (Rd.assign (v := .int .u32 s1.1) rfl) ?_
    refine LW.nil hL rfl ?_
    refine NW.then ?_
    refine CW.ret ?_
    exact res1 rfl rfl ⟨s1.1, rfl, h⟩

end Go.Proofs.Ytkfncibmfcdokaa
end
