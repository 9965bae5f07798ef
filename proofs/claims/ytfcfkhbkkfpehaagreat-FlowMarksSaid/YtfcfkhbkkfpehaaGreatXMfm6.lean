/- Texts of the claim, merged: XGz1 XGz3 XFSame XPages XMisc XSame12 XLoop12 XHfplay XFplayW XHfmarks XFmarksW XOpen4 XOpen5 XOpen6 XStep. -/
import Derived.Test.YtfcfkhbkkfpehaaGreatXMfm5
import Derived.Test.YtfcfkhbkkfpehaaGreatProg
import Derived.Test.YtfcfkhbkkfpehaaGreatRows

/- XGz1 -/
section
set_option linter.unusedVariables false
set_option linter.unusedSimpArgs false
namespace Go.Proofs.YtfcfkhbkkfpehaaGreat
open Go Go.X

/- pomander/pomanderlaw12.same -/
def W_pomanderlaw12_same (f1 : Option Addr) (g1 : Int) (g2 : Int) (g3 : Int) (g4 : Option Addr) (g4n : Nat) (g4c : Nat) (g5 : Option Addr) (g5n : Nat) (g5c : Nat) (w : World) (R : Bool → World → Prop) : Prop :=
  ∀ (b3 b2 b1 : Nat) (w4 : World), (w.heap.size ≤ b3 ∧ b3 < w4.heap.size) → (w.heap.size ≤ b2 ∧ b2 < w4.heap.size) → (w.heap.size ≤ b1 ∧ b1 < w4.heap.size) → Chg [] w w4 → (Calls Tryz.prog 34 #[.pointer f1] w4 fun e w5 => ∃ (r2 : Value), e = .returned (r2) ∧ (Same w4 w5 [b3, b2, b1] ∧ (∃ (t1 : Bool), (∀ w : World, ((do eqGuard .eql 88 (.tmp 11) (.const (.nilFunc)) (r2) (.nilFunc); binOp .eql 88 (r2) (.nilFunc) : Sem Value)).run Tryz.prog w = .ok (.bool t1) w) ∧ ((t1 = true → ∀ (w6 : World), Chg [b2] w5 w6 → (R false w6)) ∧ (t1 = false → Calls Tryz.prog 34 #[.pointer f1] w5 fun e w7 => ∃ (r3 : Value), e = .returned (r3) ∧ (Same w5 w7 [b3, b2, b1] ∧ (∃ (S1 Sp1 : List (Int × Int × Int) → Prop) (keep1 : List Nat), XR.IsFn Tryz.prog r3 ∧ XR.Iterates Tryz.prog r3 (fun x : Int × Int × Int => #[.agg #[.int .i64 x.1, .int .i64 x.2.1], .int .u32 x.2.2]) S1 Sp1 keep1 w7 ∧ (∀ i_ ∈ keep1, i_ < w7.heap.size) ∧ ∃ (I1 : Int → List Nat → List (Int × Int × Int) → World → Prop) (X1 : Bool → Int → List Nat → List (Int × Int × Int) → World → Prop), (∀ (c1 : Int) (pre_ : List (Int × Int × Int)), XR.Stab w7 (fun O_ w_ => I1 c1 O_ pre_ w_)) ∧ (∀ (c2 : Bool) (c3 : Int) (pre_ : List (Int × Int × Int)), XR.Stab w7 (fun O_ w_ => X1 c2 c3 O_ pre_ w_)) ∧ (∀ (O1 : List Nat) (w8 : World), Chg [] w7 w8 → XR.InO w7 O1 w8 → I1 0 O1 ([]) w8) ∧ (∀ (l1 : Nat) (O1 : List Nat) (pre1 : List (Int × Int × Int)) (x1 : Int) (x2 : Int) (x3 : Int) (c1 : Int) (w8 : World), XR.InO w7 O1 w8 → l1 ∈ O1 → Sp1 (pre1 ++ [(x1, x2, x3)]) → I1 c1 O1 pre1 w8 → (∀ (b4 : Nat) (w11 : World), (w8.heap.size ≤ b4 ∧ b4 < w11.heap.size) → Chg [l1] w8 w11 → (∀ (w12 : World), Chg [] w11 w12 → (∃ J1 : Bool → World → Prop, (∀ (b5 : Bool) (w13 : World), J1 b5 w13 → ∃ J2 : Bool → World → Prop, (∀ (b6 : Bool) (w14 : World), J2 b6 w14 → (b6 = true → ∀ (w15 : World), Chg [b2] w14 w15 → ((w11.heap.size ≤ w15.heap.size ∧ X1 false c1 O1 (pre1 ++ [(x1, x2, x3)]) w15 ∧ Same w11 w15 (keep1 ++ O1)))) ∧ (b6 = false → ∀ (w16 : World), Chg [b3] w14 w16 → ((w11.heap.size ≤ w16.heap.size ∧ I1 (IntKind.wrap .i64 (c1 + 1)) O1 (pre1 ++ [(x1, x2, x3)]) w16 ∧ Same w11 w16 (keep1 ++ O1))))) ∧ ((b5 = false → ∃ a2 : Addr, g5 = some a2 ∧ (0 : Int) ≤ c1 ∧ c1 < (g5n : Int) ∧ (∃ (t4 : Int), w13.cell? ((a2.add (Int.toNat c1 * 3)).add 2) = some (.int .u32 t4) ∧ (J2 (!(t4 == x3)) w13))) ∧ (b5 = true → J2 true w13))) ∧ (((decide (c1 ≥ (g5n : Int))) = false → ∃ a1 : Addr, g5 = some a1 ∧ (0 : Int) ≤ c1 ∧ c1 < (g5n : Int) ∧ (∃ (t2 : Int) (t3 : Int), CellsAt w12 (a1.add (Int.toNat c1 * 3)) 0 [.int .i64 t2, .int .i64 t3] ∧ (J1 (!((t2 == x1) && (t3 == x2))) w12))) ∧ ((decide (c1 ≥ (g5n : Int))) = true → J1 true w12)))))) ∧ (∀ (d1 : Nat) (O2 : List Nat) (xs1 : List (Int × Int × Int)) (c1 : Int) (w17 : World), XR.InO w7 O2 w17 → d1 ∈ O2 → S1 xs1 → I1 c1 O2 xs1 w17 → (Calls Tryz.prog 36 #[.pointer f1] w17 fun e w18 => ∃ (r4 : Int) (r5 : Int), e = .returned (.tuple #[.int .i64 r4, .int .i64 r5]) ∧ (Same w17 w18 [b1, b2, b3, d1] ∧ (∀ (w19 : World), Chg [] w18 w19 → (∃ J3 : Bool → World → Prop, (∀ (b7 : Bool) (w20 : World), J3 b7 w20 → ∃ J4 : Bool → World → Prop, (∀ (b8 : Bool) (w22 : World), J4 b8 w22 → ∃ J5 : Bool → World → Prop, (∀ (b9 : Bool) (w24 : World), J5 b9 w24 → ∀ (w27 : World), Chg [b2] w24 w27 → (∀ w28 : World, Chg [d1] w27 w28 → (R b9 w28))) ∧ ((b8 = true → Calls Tryz.prog 33 #[.pointer f1] w22 fun e w25 => ∃ (r8 : Option Addr) (r8n : Nat) (r8c : Nat), e = .returned (.slice r8 r8n r8c) ∧ (Same w22 w25 [b1, b2, b3, d1] ∧ (Calls Tryz.prog 61 #[.slice r8 r8n r8c, .slice g4 g4n g4c] w25 fun e w26 => ∃ (r9 : Bool), e = .returned (.bool r9) ∧ (Same w25 w26 [b1, b2, b3, d1] ∧ (J5 r9 w26))))) ∧ (b8 = false → J5 false w22))) ∧ ((b7 = true → Calls Tryz.prog 60 #[.agg #[.int .i64 g1, .int .i64 g2, .int .i64 g3, .slice g4 g4n g4c, .slice g5 g5n g5c], .int .i64 12] w20 fun e w23 => ∃ (r7 : Int), e = .returned (.int .i64 r7) ∧ (Same w20 w23 [b1, b2, b3, d1] ∧ (J4 (r5 == r7) w23))) ∧ (b7 = false → J4 false w20))) ∧ (((c1 == (g5n : Int)) = true → Calls Tryz.prog 60 #[.agg #[.int .i64 g1, .int .i64 g2, .int .i64 g3, .slice g4 g4n g4c, .slice g5 g5n g5c], .int .i64 10] w19 fun e w21 => ∃ (r6 : Int), e = .returned (.int .i64 r6) ∧ (Same w19 w21 [b1, b2, b3, d1] ∧ (J3 (r4 == r6) w21))) ∧ ((c1 == (g5n : Int)) = false → J3 false w19))))))) ∧ (∀ (d2 : Nat) (O3 : List Nat) (xs2 : List (Int × Int × Int)) (c2 : Bool) (c3 : Int) (w29 : World), XR.InO w7 O3 w29 → d2 ∈ O3 → Sp1 xs2 → X1 c2 c3 O3 xs2 w29 → (∀ w30 : World, Chg [d2] w29 w30 → (R c2 w30))))))))))
set_option maxRecDepth 100000 in
theorem go_pomanderlaw12_same (f1 : Option Addr) (g1 : Int) (g2 : Int) (g3 : Int) (g4 : Option Addr) (g4n : Nat) (g4c : Nat) (g5 : Option Addr) (g5n : Nat) (g5c : Nat) (w : World) (R : Bool → World → Prop) (h : W_pomanderlaw12_same f1 g1 g2 g3 g4 g4n g4c g5 g5n g5c w R) : Calls Tryz.prog 29 #[.pointer f1, .agg #[.int .i64 g1, .int .i64 g2, .int .i64 g3, .slice g4 g4n g4c, .slice g5 g5n g5c]] w (fun e w' => ∃ (r1 : Bool), e = .returned (.bool r1) ∧ R r1 w') := by
  unfold W_pomanderlaw12_same at h
  refine XR.enterM (N := 74) Tryz.func29 rfl rfl ?_
  refine CW.seq ?_
  refine CW.region fun L hL => ?_
  obtain ⟨b1, hb_b1⟩ : ∃ b1, b1 = World.size w := ⟨_, rfl⟩
  obtain ⟨w1, hw_w1⟩ : ∃ w1, w1 = World.alloc w (.cells #[.int .i64 g1, .int .i64 g2, .int .i64 g3, .slice g4 g4n g4c, .slice g5 g5n g5c] 43) := ⟨_, rfl⟩
  refine LW.val hL rfl (Wants.free rfl) rfl (boxE hb_b1 hw_w1 (Vl.box (v := .agg #[.int .i64 g1, .int .i64 g2, .int .i64 g3, .slice g4 g4n g4c, .slice g5 g5n g5c]) rfl)) ?_
  have hB := Boxes.alloc (cs := [.int .i64 g1, .int .i64 g2, .int .i64 g3, .slice g4 g4n g4c, .slice g5 g5n g5c]) (T := 43) (Boxes.nil w) hb_b1 hw_w1
  have hlo_b1 := sil_lo (Chg.refl [] w) hb_b1
  have hc_w1 := sil_alloc (Chg.refl [] w) hw_w1
  obtain ⟨b2, hb_b2⟩ : ∃ b2, b2 = World.size w1 := ⟨_, rfl⟩
  obtain ⟨w2, hw_w2⟩ : ∃ w2, w2 = World.alloc w1 (.cells #[.bool false] 4) := ⟨_, rfl⟩
  refine LW.val hL rfl (Wants.free rfl) rfl (boxE hb_b2 hw_w2 (Vl.alloc (z := .bool false) (by kernel_rfl))) ?_
  replace hB := Boxes.alloc (cs := [.bool false]) (T := 4) hB hb_b2 hw_w2
  have hlo_b2 := sil_lo hc_w1 hb_b2
  have hc_w2 := sil_alloc hc_w1 hw_w2
  refine LW.nil hL rfl ?_
  refine NW.then ?_
  refine CW.seq ?_
  refine CW.region fun L hL => ?_
  obtain ⟨b3, hb_b3⟩ : ∃ b3, b3 = World.size w2 := ⟨_, rfl⟩
  obtain ⟨w3, hw_w3⟩ : ∃ w3, w3 = World.alloc w2 (.cells #[.int .i64 0] 3) := ⟨_, rfl⟩
  refine LW.val hL rfl (Wants.free rfl) rfl (boxE hb_b3 hw_w3 (Vl.alloc (z := .int .i64 0) (by kernel_rfl))) ?_
  replace hB := Boxes.alloc (cs := [.int .i64 0]) (T := 3) hB hb_b3 hw_w3
  have hlo_b3 := sil_lo hc_w2 hb_b3
  have hc_w3 := sil_alloc hc_w2 hw_w3
  obtain ⟨w4, hw_w4⟩ : ∃ x, x = World.setCell w3 (⟨b3, 0, none⟩ : Addr) (.int .i64 0) := ⟨_, rfl⟩
  refine LW.eff hL rfl (Wants.free rfl) rfl (stE hw_w4 (Ef.st rfl rfl rfl (by kernel_rfl) (box_cell (v := .int .i64 0) (hB.at (i := 0) rfl) rfl) (free_of (hB.at (i := 0) rfl) 0))) ?_
  replace hB : Boxes w4 [(b3, [.int .i64 0], 3), (b2, [.bool false], 4), (b1, [.int .i64 g1, .int .i64 g2, .int .i64 g3, .slice g4 g4n g4c, .slice g5 g5n g5c], 43)] := Boxes.store1  (i := 0) (o := 0) hB rfl rfl rfl rfl hw_w4
  have hc_w4 := sil_new hc_w3 (sil_c1 hw_w4) hlo_b3
  refine LW.nil hL rfl ?_
  refine NW.then ?_
  refine CW.seq ?_
  refine CW.seq ?_
  refine CW.region fun L hL => ?_
  refine LW.rd hL rfl (Wants.free rfl) rfl (Rd.move (v := .pointer f1) rfl) ?_
  replace h := h b3 b2 b1 w4 ⟨hlo_b3, lt_of_heap (hB.at (i := 0) rfl)⟩ ⟨hlo_b2, lt_of_heap (hB.at (i := 1) rfl)⟩ ⟨hlo_b1, lt_of_heap (hB.at (i := 2) rfl)⟩ hc_w4
  refine LW.call hL rfl (Wants.free rfl) rfl (Cl.fn (f := 34) rfl Tryz.func34 (by kernel_rfl) rfl) h (fun e w5 h_ => ?_)
  clear h
  obtain ⟨r2, rfl, h⟩ := h_
  obtain ⟨hsm1, h⟩ := h
  replace hB := Boxes.sameS hB hsm1 (by simp)
  refine ⟨_, rfl, ?_⟩
  obtain ⟨t1, hx1, h⟩ := h
  refine LW.rd hL rfl (Wants.free rfl) rfl (Rd.bin (v := .bool t1) rfl rfl hx1) ?_
  refine LW.nil hL rfl ?_
  refine NW.then ?_
  refine CW.cond rfl (fun hb1 => ?_) (fun hb1 => ?_)
  · replace h := h.1 hb1
    refine CW.seq ?_
    refine CW.region fun L hL => ?_
    obtain ⟨w6, hw_w6⟩ : ∃ x, x = World.setCell w5 (⟨b2, 0, none⟩ : Addr) (.bool false) := ⟨_, rfl⟩
    refine LW.eff hL rfl (Wants.free rfl) rfl (stE hw_w6 (Ef.st rfl rfl rfl (by kernel_rfl) (box_cell (v := .bool false) (hB.at (i := 1) rfl) rfl) (free_of (hB.at (i := 1) rfl) 0))) ?_
    replace hB : Boxes w6 [(b3, [.int .i64 0], 3), (b2, [.bool false], 4), (b1, [.int .i64 g1, .int .i64 g2, .int .i64 g3, .slice g4 g4n g4c, .slice g5 g5n g5c], 43)] := Boxes.store1  (i := 1) (o := 0) hB rfl rfl rfl rfl hw_w6
    have hc_w6 : Chg [b2] w5 w6 := sil_more (Chg.refl [] w5) (sil_c1 hw_w6)
    refine LW.nil hL rfl ?_
    refine NW.then ?_
    replace h := h  w6  hc_w6
    refine CW.ret ?_
    refine RW.then ?_
    exact XR.res0M (vs := [.bool false]) (by exact (ResOK.c rfl (lv1 (by kernel_rfl) (box_cell (Boxes.at (i := 1) hB rfl) rfl)) ResOK.nil)) rfl ⟨false, rfl, h⟩
  · replace h := h.2 hb1
    refine CW.skip ?_
    refine NW.then ?_
    refine CW.seq ?_
    refine CW.seq ?_
    refine CW.region fun L hL => ?_
    refine LW.rd hL rfl (Wants.free rfl) rfl (Rd.move (v := .pointer f1) rfl) ?_
    refine LW.call hL rfl (Wants.free rfl) rfl (Cl.fn (f := 34) rfl Tryz.func34 (by kernel_rfl) rfl) h (fun e w7 h_ => ?_)
    clear h
    obtain ⟨r3, rfl, h⟩ := h_
    obtain ⟨hsm2, h⟩ := h
    replace hB := Boxes.sameS hB hsm2 (by simp)
    refine ⟨_, rfl, ?_⟩
    refine LW.nil hL rfl ?_
    refine NW.then ?_
    refine CW.block ?_
    obtain ⟨S1, Sp1, keep1, hfn_, hit_, hkp_, I1, X1, hst_I1, hst_X1, h0_, hrd_, hdn_, hso_X1⟩ := h
    refine XR.CW.rangeV (α := Int × Int × Int) (enc := (fun x : Int × Int × Int => #[.agg #[.int .i64 x.1, .int .i64 x.2.1], .int .u32 x.2.2])) (S := S1) (Sp := Sp1) (keep := keep1) rfl hfn_ (fun _ => rfl) (by decide) hit_ (fun (O_ : List Nat) (pre_ : List (Int × Int × Int)) (w_ : World) => ∃ (c1 : Int), I1 c1 O_ pre_ w_ ∧ ∃ (u1 : Value), Boxes w_ [(b1, [.int .i64 g1, .int .i64 g2, .int .i64 g3, .slice g4 g4n g4c, .slice g5 g5n g5c], 43), (b2, [u1], 4), (b3, [.int .i64 c1], 3)]) (fun (c_ : Code) (O_ : List Nat) (pre_ : List (Int × Int × Int)) (w_ : World) => (c_ = Code.ret ∧ ∃ (c2 : Bool) (c3 : Int), X1 c2 c3 O_ pre_ w_ ∧ Boxes w_ [(b1, [.int .i64 g1, .int .i64 g2, .int .i64 g3, .slice g4 g4n g4c, .slice g5 g5n g5c], 43), (b2, [.bool c2], 4), (b3, [.int .i64 c3], 3)])) ?_ ?_ ?_ hkp_ ?_ ?_ ?_
    · intro pre_ O_ O2_ A_ B_ hi_ hO_ hc_ hO2_ hg_
      have hB0_ := (hB.sel [2, 1, 0] (by decide) rfl)
      obtain ⟨c1, hi_, u1, hB⟩ := hi_
      exact ⟨c1, hst_I1 c1 pre_ O_ O2_ A_ B_ hi_ hO_ hc_ hO2_ hg_, u1, hB.stab hB0_ rfl hO_ hc_⟩
    · intro c_ pre_ O_ O2_ A_ B_ hi_ hO_ hc_ hO2_ hg_
      have hB0_ := (hB.sel [2, 1, 0] (by decide) rfl)
      rcases hi_ with ⟨hcc_, c2, c3, hi_, hB⟩
      · exact ⟨hcc_, c2, c3, hst_X1 c2 c3 pre_ O_ O2_ A_ B_ hi_ hO_ hc_ hO2_ hg_, hB.stab hB0_ rfl hO_ hc_⟩
    · intro O_ A_ hc_ hO_
      exact ⟨0, h0_ O_ A_ hc_ hO_, .bool false, Boxes.chg (hB.sel [2, 1, 0] (by decide) rfl) hc_ (by simp)⟩
    · intro l1 O1 pre1 x_ w8 hO_ hl_ hSp_ hi_
      obtain ⟨x1, x2, x3⟩ := x_
      obtain ⟨c1, hi_, u1, hB⟩ := hi_
      have h := hrd_ l1 O1 pre1 x1 x2 x3 c1 w8 hO_ hl_ hSp_ hi_
      refine XR.CW.seq ?_
      refine XR.CW.region fun L hL => ?_
      obtain ⟨b4, hb_b4⟩ : ∃ b4, b4 = World.size w8 := ⟨_, rfl⟩
      obtain ⟨w9, hw_w9⟩ : ∃ w9, w9 = World.alloc w8 (.cells #[.int .i64 0, .int .i64 0] 62) := ⟨_, rfl⟩
      refine XR.LW.val hL rfl (Wants.free rfl) rfl (boxE hb_b4 hw_w9 (Vl.alloc (z := .agg #[.int .i64 0, .int .i64 0]) (by kernel_rfl))) ?_
      replace hB := Boxes.alloc (cs := [.int .i64 0, .int .i64 0]) (T := 62) hB hb_b4 hw_w9
      have hlo_b4 := sil_lo (Chg.refl [] w8) hb_b4
      have hc_w9 := sil_alloc (Chg.refl [] w8) hw_w9
      obtain ⟨w10, hw_w10⟩ : ∃ x, x = setCells w9 (⟨b4, 0, none⟩ : Addr) 0 [.int .i64 x1, .int .i64 x2] := ⟨_, rfl⟩
      refine XR.LW.eff hL rfl (Wants.free rfl) rfl (stNE hw_w10 (Ef.stN (cs := [.int .i64 x1, .int .i64 x2]) rfl rfl (by kernel_rfl) (List.forall_mem_cons.2 ⟨rfl, (List.forall_mem_cons.2 ⟨rfl, (List.forall_mem_nil _)⟩)⟩) (has_of (hB.at (i := 0) rfl) (by simp)) (free_of' (hB.at (i := 0) rfl)))) ?_
      replace hB : Boxes w10 [(b4, [.int .i64 x1, .int .i64 x2], 62), (b1, [.int .i64 g1, .int .i64 g2, .int .i64 g3, .slice g4 g4n g4c, .slice g5 g5n g5c], 43), (b2, [u1], 4), (b3, [.int .i64 c1], 3)] := Boxes.store (vs := [.int .i64 x1, .int .i64 x2]) (i := 0) (o := 0) hB rfl rfl rfl rfl hw_w10
      have hc_w10 := sil_new hc_w9 (sil_cN hw_w10) hlo_b4
      refine XR.LW.nil hL rfl ?_
      refine XR.NW.then ?_
      refine XR.CW.region fun L hL => ?_
      refine XR.LW.rd hL rfl (Wants.free rfl) rfl (Rd.assign (v := .int .u32 x3) rfl) ?_
      refine XR.LW.nil hL rfl ?_
      refine XR.NW.begin hc_w10 (fun w11 hcb_w11 hlp_ hib_ => ?_)
      have hc_w11 : Chg [l1] w8 w11 := sil_more hc_w10 hcb_w11
      replace hB := hB.notloop hlp_ hcb_w11
      replace h := h b4 w11 ⟨hlo_b4, lt_of_heap (hB.at (i := 0) rfl)⟩ hc_w11
      refine XR.CW.block ?_
      refine XR.CW.seq ?_
      refine XR.CW.seq ?_
      obtain ⟨w12, hw_w12⟩ : ∃ x, x = World.drew w11 := ⟨_, rfl⟩
      have hc_w12 := sil_drew (Chg.refl [] w11) hw_w12
      replace hB := hB.drew hw_w12
      refine XR.CW.drawn (fun w => w = w12) 25 (by kernel_rfl) fun H hH => ?_
      rw [← hw_w12]
      refine XR.HW.take (i := 0) hH rfl (by kernel_rfl) (by kernel_rfl) (Wants.free rfl) rfl (fun _ => rfl) (Rd.ld (v := .int .i64 c1) rfl (by kernel_rfl) (eqs (box_cell (hB.at (i := 3) rfl) rfl))) ?_
      refine XR.HW.pure (i := 1) hH rfl (by kernel_rfl) (Wants.free rfl) rfl (fun _ => rfl) (Rd.fa (v := .pointer (some (⟨b1, 4, none⟩ : Addr))) rfl (fun _ => by kernel_rfl)) ?_
      refine XR.HW.take (i := 2) hH rfl (by kernel_rfl) (by kernel_rfl) (Wants.free rfl) rfl (fun _ => rfl) (Rd.ld (v := .slice g5 g5n g5c) rfl (by kernel_rfl) (eqs (box_cell (hB.at (i := 1) rfl) rfl))) ?_
      refine XR.HW.pure (i := 3) hH rfl (by kernel_rfl) (Wants.free rfl) rfl (fun _ => rfl) (Rd.builtin (v := .int .i64 (g5n : Int)) rfl (fun _ _ => by kernel_rfl)) ?_
      refine XR.HW.pure (i := 4) hH rfl (by kernel_rfl) (Wants.free rfl) rfl (fun _ => rfl) (Rd.bin (v := .bool (decide (c1 ≥ (g5n : Int)))) rfl rfl (fun w => by kernel_rfl)) ?_
      refine XR.HW.pure (i := 5) hH rfl (by kernel_rfl) (Wants.free rfl) rfl (fun _ => rfl) (Rd.move (v := .bool (decide (c1 ≥ (g5n : Int)))) rfl) ?_
      replace h := h  w12  hc_w12
      obtain ⟨J1, hJ1, h1_J1, h0_J1⟩ := h
      suffices K1 : ∀ (b5 : Bool) (w13 : World), (w13 = w12) → Boxes w13 [(b1, [.int .i64 g1, .int .i64 g2, .int .i64 g3, .slice g4 g4n g4c, .slice g5 g5n g5c], 43), (b2, [u1], 4), (b3, [.int .i64 c1], 3)] → J1 b5 w13 → H 10 #[true, true, true, true, true, true, true, true, true, true, true, true, true, true, true, false, false, false, false, false, false, false, false, false, false] [(0, .pointer f1), (3, .pointer (some (⟨b1, 0, none⟩ : Addr))), (4, .pointer (some (⟨b2, 0, none⟩ : Addr))), (5, .pointer (some (⟨b3, 0, none⟩ : Addr))), (7, .int .u32 x3), (15, .agg #[.int .i64 x1, .int .i64 x2]), (16, .int .u32 x3), (31, .bool b5)] w13 by
        rcases Bool.eq_false_or_eq_true (decide (c1 ≥ (g5n : Int))) with hb2 | hb2
        · have h := h0_J1 hb2
          refine XR.HW.skip (i := 6) hH rfl (by kernel_rfl) (Skips.on rfl rfl rfl rfl rfl hb2) rfl (fun _ => rfl) ?_
          refine XR.HW.skip (i := 7) hH rfl (by kernel_rfl) (Skips.on rfl rfl rfl rfl rfl hb2) rfl (fun _ => rfl) ?_
          refine XR.HW.skip (i := 8) hH rfl (by kernel_rfl) (Skips.on rfl rfl rfl rfl rfl hb2) rfl (fun _ => rfl) ?_
          refine XR.HW.skip (i := 9) hH rfl (by kernel_rfl) (Skips.on rfl rfl rfl rfl rfl hb2) rfl (fun _ => rfl) ?_
          refine XR.HW.skip (i := 10) hH rfl (by kernel_rfl) (Skips.on rfl rfl rfl rfl rfl hb2) rfl (fun _ => rfl) ?_
          refine XR.HW.skip (i := 11) hH rfl (by kernel_rfl) (Skips.on rfl rfl rfl rfl rfl hb2) rfl (fun _ => rfl) ?_
          refine XR.HW.skip (i := 12) hH rfl (by kernel_rfl) (Skips.on rfl rfl rfl rfl rfl hb2) rfl (fun _ => rfl) ?_
          refine XR.HW.skip (i := 13) hH rfl (by kernel_rfl) (Skips.on rfl rfl rfl rfl rfl hb2) rfl (fun _ => rfl) ?_
          refine XR.HW.pure (i := 14) hH rfl (by kernel_rfl) (Wants.free rfl) rfl (fun _ => rfl) (Rd.pickT rfl hb2 rfl) ?_
          exact XR.HW.sub hH (by exact ⟨rfl, rfl, rfl, rfl, rfl, rfl, rfl, rfl, trivial⟩) (K1 true w12 rfl (by exact (hB.sel [1, 2, 3] (by decide) rfl)) h)
        · have h := h1_J1 hb2
          refine XR.HW.pure (i := 6) hH rfl (by kernel_rfl) (Wants.on rfl rfl rfl rfl rfl hb2) rfl (fun _ => rfl) (Rd.fa (v := .pointer (some (⟨b1, 4, none⟩ : Addr))) rfl (fun _ => by kernel_rfl)) ?_
          refine XR.HW.take (i := 7) hH rfl (by kernel_rfl) (by kernel_rfl) (Wants.on rfl rfl rfl rfl rfl hb2) rfl (fun _ => rfl) (Rd.ld (v := .slice g5 g5n g5c) rfl (by kernel_rfl) (eqs (box_cell (hB.at (i := 1) rfl) rfl))) ?_
          refine XR.HW.take (i := 8) hH rfl (by kernel_rfl) (by kernel_rfl) (Wants.on rfl rfl rfl rfl rfl hb2) rfl (fun _ => rfl) (Rd.ld (v := .int .i64 c1) rfl (by kernel_rfl) (eqs (box_cell (hB.at (i := 3) rfl) rfl))) ?_
          obtain ⟨a1, he1, hi1, hi2, h⟩ := h
          refine XR.HW.pure (i := 9) hH rfl (by kernel_rfl) (Wants.on rfl rfl rfl rfl rfl hb2) rfl (fun _ => rfl) (Rd.iaS (q := a1) (sz := 3) (by rw [← he1]; rfl) rfl Tryz.underlying41 (by kernel_rfl) hi1 hi2) ?_
          refine XR.HW.pure (i := 10) hH rfl (by kernel_rfl) (Wants.on rfl rfl rfl rfl rfl hb2) rfl (fun _ => rfl) (Rd.fa (v := .pointer (some (a1.add (Int.toNat c1 * 3)))) rfl (fun _ => by kernel_rfl)) ?_
          obtain ⟨t2, t3, hc1, h⟩ := h
          refine XR.HW.take (i := 11) hH rfl (by kernel_rfl) (by kernel_rfl) (Wants.on rfl rfl rfl rfl rfl hb2) rfl (fun _ => rfl) (Rd.ldN (cs := [.int .i64 t2, .int .i64 t3]) rfl (by kernel_rfl) (by kernel_rfl) (cellsS hc1)) ?_
          refine XR.HW.take (i := 12) hH rfl (by kernel_rfl) (by kernel_rfl) (Wants.on rfl rfl rfl rfl rfl hb2) rfl (fun _ => rfl) (Rd.ldN (cs := [.int .i64 x1, .int .i64 x2]) rfl (by kernel_rfl) (by kernel_rfl) (cellsS (box_cells (hB.at (i := 0) rfl) rfl))) ?_
          refine XR.HW.pure (i := 13) hH rfl (by kernel_rfl) (Wants.on rfl rfl rfl rfl rfl hb2) rfl (fun _ => rfl) (Rd.bin (v := .bool (!((t2 == x1) && (t3 == x2)))) rfl rfl (fun w => neS_62 _ _ _ _ w)) ?_
          refine XR.HW.pure (i := 14) hH rfl (by kernel_rfl) (Wants.free rfl) rfl (fun _ => rfl) (Rd.pickF rfl hb2 rfl) ?_
          exact XR.HW.sub hH (by exact ⟨rfl, rfl, rfl, rfl, rfl, rfl, rfl, rfl, trivial⟩) (K1 (!((t2 == x1) && (t3 == x2))) w12 rfl (by exact (hB.sel [1, 2, 3] (by decide) rfl)) h)
      clear hB
      intro b5 w13 hS1 hB h_
      subst hS1
      have h := hJ1 b5 _ h_; clear h_
      refine XR.HW.pure (i := 15) hH rfl (by kernel_rfl) (Wants.free rfl) rfl (fun _ => rfl) (Rd.move (v := .bool b5) rfl) ?_
      obtain ⟨J2, hJ2, h1_J2, h0_J2⟩ := h
      suffices K2 : ∀ (b6 : Bool) (w14 : World), (w14 = w13) → Boxes w14 [(b1, [.int .i64 g1, .int .i64 g2, .int .i64 g3, .slice g4 g4n g4c, .slice g5 g5n g5c], 43), (b2, [u1], 4), (b3, [.int .i64 c1], 3)] → J2 b6 w14 → H 0 #[true, true, true, true, true, true, true, true, true, true, true, true, true, true, true, true, true, true, true, true, true, true, true, true, true] [(0, .pointer f1), (3, .pointer (some (⟨b1, 0, none⟩ : Addr))), (4, .pointer (some (⟨b2, 0, none⟩ : Addr))), (5, .pointer (some (⟨b3, 0, none⟩ : Addr))), (15, .agg #[.int .i64 x1, .int .i64 x2]), (16, .int .u32 x3), (41, .bool b6)] w14 by
        rcases Bool.eq_false_or_eq_true b5 with hb3 | hb3
        · have h := h0_J2 hb3
          refine XR.HW.skip (i := 16) hH rfl (by kernel_rfl) (Skips.on rfl rfl rfl rfl rfl hb3) rfl (fun _ => rfl) ?_
          refine XR.HW.skip (i := 17) hH rfl (by kernel_rfl) (Skips.on rfl rfl rfl rfl rfl hb3) rfl (fun _ => rfl) ?_
          refine XR.HW.skip (i := 18) hH rfl (by kernel_rfl) (Skips.on rfl rfl rfl rfl rfl hb3) rfl (fun _ => rfl) ?_
          refine XR.HW.skip (i := 19) hH rfl (by kernel_rfl) (Skips.on rfl rfl rfl rfl rfl hb3) rfl (fun _ => rfl) ?_
          refine XR.HW.skip (i := 20) hH rfl (by kernel_rfl) (Skips.on rfl rfl rfl rfl rfl hb3) rfl (fun _ => rfl) ?_
          refine XR.HW.skip (i := 21) hH rfl (by kernel_rfl) (Skips.on rfl rfl rfl rfl rfl hb3) rfl (fun _ => rfl) ?_
          refine XR.HW.skip (i := 22) hH rfl (by kernel_rfl) (Skips.on rfl rfl rfl rfl rfl hb3) rfl (fun _ => rfl) ?_
          refine XR.HW.skip (i := 23) hH rfl (by kernel_rfl) (Skips.on rfl rfl rfl rfl rfl hb3) rfl (fun _ => rfl) ?_
          refine XR.HW.pure (i := 24) hH rfl (by kernel_rfl) (Wants.free rfl) rfl (fun _ => rfl) (Rd.pickT rfl hb3 rfl) ?_
          exact XR.HW.sub hH (by exact ⟨rfl, rfl, rfl, rfl, rfl, rfl, rfl, trivial⟩) (K2 true w13 rfl (by exact hB) h)
        · have h := h1_J2 hb3
          refine XR.HW.pure (i := 16) hH rfl (by kernel_rfl) (Wants.on rfl rfl rfl rfl rfl hb3) rfl (fun _ => rfl) (Rd.fa (v := .pointer (some (⟨b1, 4, none⟩ : Addr))) rfl (fun _ => by kernel_rfl)) ?_
          refine XR.HW.take (i := 17) hH rfl (by kernel_rfl) (by kernel_rfl) (Wants.on rfl rfl rfl rfl rfl hb3) rfl (fun _ => rfl) (Rd.ld (v := .slice g5 g5n g5c) rfl (by kernel_rfl) (eqs (box_cell (hB.at (i := 0) rfl) rfl))) ?_
          refine XR.HW.take (i := 18) hH rfl (by kernel_rfl) (by kernel_rfl) (Wants.on rfl rfl rfl rfl rfl hb3) rfl (fun _ => rfl) (Rd.ld (v := .int .i64 c1) rfl (by kernel_rfl) (eqs (box_cell (hB.at (i := 2) rfl) rfl))) ?_
          obtain ⟨a2, he2, hi3, hi4, h⟩ := h
          refine XR.HW.pure (i := 19) hH rfl (by kernel_rfl) (Wants.on rfl rfl rfl rfl rfl hb3) rfl (fun _ => rfl) (Rd.iaS (q := a2) (sz := 3) (by rw [← he2]; rfl) rfl Tryz.underlying41 (by kernel_rfl) hi3 hi4) ?_
          refine XR.HW.pure (i := 20) hH rfl (by kernel_rfl) (Wants.on rfl rfl rfl rfl rfl hb3) rfl (fun _ => rfl) (Rd.fa (v := .pointer (some ((a2.add (Int.toNat c1 * 3)).add 2))) rfl (fun _ => by kernel_rfl)) ?_
          obtain ⟨t4, hc2, h⟩ := h
          refine XR.HW.take (i := 21) hH rfl (by kernel_rfl) (by kernel_rfl) (Wants.on rfl rfl rfl rfl rfl hb3) rfl (fun _ => rfl) (Rd.ld (v := .int .u32 t4) rfl (by kernel_rfl) (eqs hc2)) ?_
          refine XR.HW.pure (i := 22) hH rfl (by kernel_rfl) (Wants.on rfl rfl rfl rfl rfl hb3) rfl (fun _ => rfl) (Rd.move (v := .int .u32 x3) rfl) ?_
          refine XR.HW.pure (i := 23) hH rfl (by kernel_rfl) (Wants.on rfl rfl rfl rfl rfl hb3) rfl (fun _ => rfl) (Rd.bin (v := .bool (!(t4 == x3))) rfl rfl (fun w => by kernel_rfl)) ?_
          refine XR.HW.pure (i := 24) hH rfl (by kernel_rfl) (Wants.free rfl) rfl (fun _ => rfl) (Rd.pickF rfl hb3 rfl) ?_
          exact XR.HW.sub hH (by exact ⟨rfl, rfl, rfl, rfl, rfl, rfl, rfl, trivial⟩) (K2 (!(t4 == x3)) w13 rfl (by exact hB) h)
      clear hB
      intro b6 w14 hS2 hB h_
      subst hS2
      have h := hJ2 b6 _ h_; clear h_
      refine XR.HW.done hH (by kernel_rfl) ?_
      refine XR.NW.then ?_
      refine XR.CW.cond rfl (fun hb4 => ?_) (fun hb4 => ?_)
      · replace h := h.1 hb4
        refine XR.CW.seq ?_
        refine XR.CW.region fun L hL => ?_
        obtain ⟨w15, hw_w15⟩ : ∃ x, x = World.setCell w14 (⟨b2, 0, none⟩ : Addr) (.bool false) := ⟨_, rfl⟩
        refine XR.LW.eff hL rfl (Wants.free rfl) rfl (stE hw_w15 (Ef.st rfl rfl rfl (by kernel_rfl) (box_cell (v := u1) (hB.at (i := 1) rfl) rfl) (free_of (hB.at (i := 1) rfl) 0))) ?_
        replace hB : Boxes w15 [(b1, [.int .i64 g1, .int .i64 g2, .int .i64 g3, .slice g4 g4n g4c, .slice g5 g5n g5c], 43), (b2, [.bool false], 4), (b3, [.int .i64 c1], 3)] := Boxes.store1  (i := 1) (o := 0) hB rfl rfl rfl rfl hw_w15
        have hc_w15 : Chg [b2] w14 w15 := sil_more (Chg.refl [] w14) (sil_c1 hw_w15)
        refine XR.LW.nil hL rfl ?_
        refine XR.NW.then ?_
        refine XR.CW.ret ?_
        refine RW.then ?_
        refine RW.block ?_
        replace h := h  w15  hc_w15
        exact fun a_ ha_ => ⟨h.1, (⟨rfl, false, c1, h.2.1, hB⟩), h.2.2⟩
      · replace h := h.2 hb4
        refine XR.CW.skip ?_
        refine XR.NW.then ?_
        refine XR.CW.region fun L hL => ?_
        refine XR.LW.rd hL rfl (Wants.free rfl) rfl (Rd.ld (v := .int .i64 c1) rfl (by kernel_rfl) (eqs (box_cell (hB.at (i := 2) rfl) rfl))) ?_
        refine XR.LW.rd hL rfl (Wants.free rfl) rfl (Rd.bin (v := .int .i64 (IntKind.wrap .i64 (c1 + 1))) rfl rfl (fun w => by kernel_rfl)) ?_
        obtain ⟨w16, hw_w16⟩ : ∃ x, x = World.setCell w14 (⟨b3, 0, none⟩ : Addr) (.int .i64 (IntKind.wrap .i64 (c1 + 1))) := ⟨_, rfl⟩
        refine XR.LW.eff hL rfl (Wants.free rfl) rfl (stE hw_w16 (Ef.st rfl rfl rfl (by kernel_rfl) (box_cell (v := .int .i64 c1) (hB.at (i := 2) rfl) rfl) (free_of (hB.at (i := 2) rfl) 0))) ?_
        replace hB : Boxes w16 [(b1, [.int .i64 g1, .int .i64 g2, .int .i64 g3, .slice g4 g4n g4c, .slice g5 g5n g5c], 43), (b2, [u1], 4), (b3, [.int .i64 (IntKind.wrap .i64 (c1 + 1))], 3)] := Boxes.store1  (i := 2) (o := 0) hB rfl rfl rfl rfl hw_w16
        have hc_w16 : Chg [b3] w14 w16 := sil_more (Chg.refl [] w14) (sil_c1 hw_w16)
        refine XR.LW.nil hL rfl ?_
        refine NW.block ?_
        replace h := h  w16  hc_w16
        exact fun a_ ha_ => ⟨h.1, ⟨IntKind.wrap .i64 (c1 + 1), h.2.1, u1, hB⟩, h.2.2⟩
    · intro d1 O2 xs1 w17 hO_ hd_ hdh_ hS_ hi_
      obtain ⟨c1, hi_, u1, hB⟩ := hi_
      have h := hdn_ d1 O2 xs1 c1 w17 hO_ hd_ hS_ hi_
      have hK := XR.Marks.cons (XR.Marks.nil _) hdh_ (by simp)
      refine NW.block ?_
      refine NW.then ?_
      refine CW.seq ?_
      refine CW.region fun L hL => ?_
      refine LW.rd hL rfl (Wants.free rfl) rfl (Rd.move (v := .pointer f1) rfl) ?_
      refine LW.call hL rfl (Wants.free rfl) rfl (Cl.fn (f := 36) rfl Tryz.func36 (by kernel_rfl) rfl) h (fun e w18 h_ => ?_)
      clear h
      obtain ⟨r4, r5, rfl, h⟩ := h_
      obtain ⟨hsm3, h⟩ := h
      replace hB := Boxes.sameS hB hsm3 (by simp)
      replace hK := XR.Marks.same hK hsm3 (by simp)
      refine ⟨_, rfl, ?_⟩
      refine LW.rd hL rfl (Wants.free rfl) rfl (Rd.move (v := .tuple #[.int .i64 r4, .int .i64 r5]) rfl) ?_
      refine LW.rd hL rfl (Wants.free rfl) rfl (Rd.extract (v := .int .i64 r4) rfl rfl) ?_
      refine LW.rd hL rfl (Wants.free rfl) rfl (Rd.extract (v := .int .i64 r5) rfl rfl) ?_
      refine LW.rd hL rfl (Wants.free rfl) rfl (Rd.assign (v := .int .i64 r4) rfl) ?_
      refine LW.rd hL rfl (Wants.free rfl) rfl (Rd.assign (v := .int .i64 r5) rfl) ?_
      refine LW.nil hL rfl ?_
      refine NW.then ?_
      refine CW.seq ?_
      obtain ⟨w19, hw_w19⟩ : ∃ x, x = World.drew w18 := ⟨_, rfl⟩
      have hc_w19 := sil_drew (Chg.refl [] w18) hw_w19
      replace hB := hB.drew hw_w19
      replace hK := XR.Marks.drew hK hw_w19
      refine CW.drawn (fun w => Boxes w [(b3, [.int .i64 c1], 3), (b1, [.int .i64 g1, .int .i64 g2, .int .i64 g3, .slice g4 g4n g4c, .slice g5 g5n g5c], 43)]) 25 (by kernel_rfl) fun H hH => ?_
      rw [← hw_w19]
      have hS3 : Boxes w19 [(b3, [.int .i64 c1], 3), (b1, [.int .i64 g1, .int .i64 g2, .int .i64 g3, .slice g4 g4n g4c, .slice g5 g5n g5c], 43)] := (hB.sel [2, 0] (by decide) rfl)
      refine HW.take (i := 0) hH rfl (by kernel_rfl) (by kernel_rfl) (Wants.free rfl) rfl (fun _ => hS3) (Rd.ld (v := .int .i64 c1) rfl (by kernel_rfl) (fun w h => box_cell (Boxes.at (i := 0) h rfl) rfl)) ?_
      refine HW.pure (i := 1) hH rfl (by kernel_rfl) (Wants.free rfl) rfl (fun _ => hS3) (Rd.fa (v := .pointer (some (⟨b1, 4, none⟩ : Addr))) rfl (fun _ => by kernel_rfl)) ?_
      refine HW.take (i := 2) hH rfl (by kernel_rfl) (by kernel_rfl) (Wants.free rfl) rfl (fun _ => hS3) (Rd.ld (v := .slice g5 g5n g5c) rfl (by kernel_rfl) (fun w h => box_cell (Boxes.at (i := 1) h rfl) rfl)) ?_
      refine HW.pure (i := 3) hH rfl (by kernel_rfl) (Wants.free rfl) rfl (fun _ => hS3) (Rd.builtin (v := .int .i64 (g5n : Int)) rfl (fun _ _ => by kernel_rfl)) ?_
      refine HW.pure (i := 4) hH rfl (by kernel_rfl) (Wants.free rfl) rfl (fun _ => hS3) (Rd.bin (v := .bool (c1 == (g5n : Int))) rfl rfl (fun w => by kernel_rfl)) ?_
      refine HW.pure (i := 5) hH rfl (by kernel_rfl) (Wants.free rfl) rfl (fun _ => hS3) (Rd.move (v := .bool (c1 == (g5n : Int))) rfl) ?_
      replace h := h  w19  hc_w19
      obtain ⟨J3, hJ3, h1_J3, h0_J3⟩ := h
      suffices K3 : ∀ (b7 : Bool) (w20 : World), (Boxes w20 [(b3, [.int .i64 c1], 3), (b1, [.int .i64 g1, .int .i64 g2, .int .i64 g3, .slice g4 g4n g4c, .slice g5 g5n g5c], 43)]) → XR.Marks w20 [d1] → Boxes w20 [(b1, [.int .i64 g1, .int .i64 g2, .int .i64 g3, .slice g4 g4n g4c, .slice g5 g5n g5c], 43), (b2, [u1], 4), (b3, [.int .i64 c1], 3)] → J3 b7 w20 → H 15 #[true, true, true, true, true, true, true, true, true, true, true, false, false, false, false, false, false, false, false, false, false, false, false, false, false, false] [(0, .pointer f1), (3, .pointer (some (⟨b1, 0, none⟩ : Addr))), (4, .pointer (some (⟨b2, 0, none⟩ : Addr))), (9, .int .i64 r5), (59, .bool b7)] w20 by
        rcases Bool.eq_false_or_eq_true (c1 == (g5n : Int)) with hb5 | hb5
        · have h := h1_J3 hb5
          refine HW.pure (i := 6) hH rfl (by kernel_rfl) (Wants.on rfl rfl rfl rfl rfl hb5) rfl (fun _ => hS3) (Rd.move (v := .int .i64 r4) rfl) ?_
          refine HW.take (i := 7) hH rfl (by kernel_rfl) (by kernel_rfl) (Wants.on rfl rfl rfl rfl rfl hb5) rfl (fun _ => hS3) (Rd.ldN (cs := [.int .i64 g1, .int .i64 g2, .int .i64 g3, .slice g4 g4n g4c, .slice g5 g5n g5c]) rfl (by kernel_rfl) (by kernel_rfl) (fun w h => cellsAt_get (box_cells (Boxes.at (i := 1) h rfl) rfl))) ?_
          refine HW.call (i := 8) hH (by kernel_rfl) rfl (Wants.on rfl rfl rfl rfl rfl hb5) rfl (Cl.fn (f := 60) rfl Tryz.func60 (by kernel_rfl) rfl) h (fun e w21 h_ => ?_)
          clear h
          obtain ⟨r6, rfl, h⟩ := h_
          obtain ⟨hsm4, h⟩ := h
          replace hB := Boxes.sameS hB hsm4 (by simp)
          replace hK := XR.Marks.same hK hsm4 (by simp)
          have hS4 : Boxes w21 [(b3, [.int .i64 c1], 3), (b1, [.int .i64 g1, .int .i64 g2, .int .i64 g3, .slice g4 g4n g4c, .slice g5 g5n g5c], 43)] := (hB.sel [2, 0] (by decide) rfl)
          refine ⟨_, rfl, (fun _ => hS4), ?_⟩
          refine HW.pure (i := 9) hH rfl (by kernel_rfl) (Wants.on rfl rfl rfl rfl rfl hb5) rfl (fun _ => hS4) (Rd.bin (v := .bool (r4 == r6)) rfl rfl (fun w => by kernel_rfl)) ?_
          refine HW.pure (i := 10) hH rfl (by kernel_rfl) (Wants.free rfl) rfl (fun _ => hS4) (Rd.pickT rfl hb5 rfl) ?_
          exact HW.sub hH (by exact ⟨rfl, rfl, rfl, rfl, rfl, trivial⟩) (K3 (r4 == r6) w21 hS4 hK (by exact hB) h)
        · have h := h0_J3 hb5
          refine HW.skip (i := 6) hH rfl (by kernel_rfl) (Skips.on rfl rfl rfl rfl rfl hb5) rfl (fun _ => hS3) ?_
          refine HW.skip (i := 7) hH rfl (by kernel_rfl) (Skips.on rfl rfl rfl rfl rfl hb5) rfl (fun _ => hS3) ?_
          refine HW.skip (i := 8) hH rfl (by kernel_rfl) (Skips.on rfl rfl rfl rfl rfl hb5) rfl (fun _ => hS3) ?_
          refine HW.skip (i := 9) hH rfl (by kernel_rfl) (Skips.on rfl rfl rfl rfl rfl hb5) rfl (fun _ => hS3) ?_
          refine HW.pure (i := 10) hH rfl (by kernel_rfl) (Wants.free rfl) rfl (fun _ => hS3) (Rd.pickF rfl hb5 rfl) ?_
          exact HW.sub hH (by exact ⟨rfl, rfl, rfl, rfl, rfl, trivial⟩) (K3 false w19 hS3 hK (by exact hB) h)
      clear hK hB
      intro b7 w20 hS5 hK hB h_
      have h := hJ3 b7 w20 h_; clear h_
      refine HW.pure (i := 11) hH rfl (by kernel_rfl) (Wants.free rfl) rfl (fun _ => hS5) (Rd.move (v := .bool b7) rfl) ?_
      obtain ⟨J4, hJ4, h1_J4, h0_J4⟩ := h
      suffices K4 : ∀ (b8 : Bool) (w22 : World), (Boxes w22 [(b3, [.int .i64 c1], 3), (b1, [.int .i64 g1, .int .i64 g2, .int .i64 g3, .slice g4 g4n g4c, .slice g5 g5n g5c], 43)]) → XR.Marks w22 [d1] → Boxes w22 [(b1, [.int .i64 g1, .int .i64 g2, .int .i64 g3, .slice g4 g4n g4c, .slice g5 g5n g5c], 43), (b2, [u1], 4), (b3, [.int .i64 c1], 3)] → J4 b8 w22 → H 9 #[true, true, true, true, true, true, true, true, true, true, true, true, true, true, true, true, true, false, false, false, false, false, false, false, false, false] [(0, .pointer f1), (3, .pointer (some (⟨b1, 0, none⟩ : Addr))), (4, .pointer (some (⟨b2, 0, none⟩ : Addr))), (65, .bool b8)] w22 by
        rcases Bool.eq_false_or_eq_true b7 with hb6 | hb6
        · have h := h1_J4 hb6
          refine HW.pure (i := 12) hH rfl (by kernel_rfl) (Wants.on rfl rfl rfl rfl rfl hb6) rfl (fun _ => hS5) (Rd.move (v := .int .i64 r5) rfl) ?_
          refine HW.take (i := 13) hH rfl (by kernel_rfl) (by kernel_rfl) (Wants.on rfl rfl rfl rfl rfl hb6) rfl (fun _ => hS5) (Rd.ldN (cs := [.int .i64 g1, .int .i64 g2, .int .i64 g3, .slice g4 g4n g4c, .slice g5 g5n g5c]) rfl (by kernel_rfl) (by kernel_rfl) (fun w h => cellsAt_get (box_cells (Boxes.at (i := 1) h rfl) rfl))) ?_
          refine HW.call (i := 14) hH (by kernel_rfl) rfl (Wants.on rfl rfl rfl rfl rfl hb6) rfl (Cl.fn (f := 60) rfl Tryz.func60 (by kernel_rfl) rfl) h (fun e w23 h_ => ?_)
          clear h
          obtain ⟨r7, rfl, h⟩ := h_
          obtain ⟨hsm5, h⟩ := h
          replace hB := Boxes.sameS hB hsm5 (by simp)
          replace hK := XR.Marks.same hK hsm5 (by simp)
          have hS6 : Boxes w23 [(b3, [.int .i64 c1], 3), (b1, [.int .i64 g1, .int .i64 g2, .int .i64 g3, .slice g4 g4n g4c, .slice g5 g5n g5c], 43)] := (hB.sel [2, 0] (by decide) rfl)
          refine ⟨_, rfl, (fun _ => hS6), ?_⟩
          refine HW.pure (i := 15) hH rfl (by kernel_rfl) (Wants.on rfl rfl rfl rfl rfl hb6) rfl (fun _ => hS6) (Rd.bin (v := .bool (r5 == r7)) rfl rfl (fun w => by kernel_rfl)) ?_
          refine HW.pure (i := 16) hH rfl (by kernel_rfl) (Wants.free rfl) rfl (fun _ => hS6) (Rd.pickT rfl hb6 rfl) ?_
          exact HW.sub hH (by exact ⟨rfl, rfl, rfl, rfl, trivial⟩) (K4 (r5 == r7) w23 hS6 hK (by exact hB) h)
        · have h := h0_J4 hb6
          refine HW.skip (i := 12) hH rfl (by kernel_rfl) (Skips.on rfl rfl rfl rfl rfl hb6) rfl (fun _ => hS5) ?_
          refine HW.skip (i := 13) hH rfl (by kernel_rfl) (Skips.on rfl rfl rfl rfl rfl hb6) rfl (fun _ => hS5) ?_
          refine HW.skip (i := 14) hH rfl (by kernel_rfl) (Skips.on rfl rfl rfl rfl rfl hb6) rfl (fun _ => hS5) ?_
          refine HW.skip (i := 15) hH rfl (by kernel_rfl) (Skips.on rfl rfl rfl rfl rfl hb6) rfl (fun _ => hS5) ?_
          refine HW.pure (i := 16) hH rfl (by kernel_rfl) (Wants.free rfl) rfl (fun _ => hS5) (Rd.pickF rfl hb6 rfl) ?_
          exact HW.sub hH (by exact ⟨rfl, rfl, rfl, rfl, trivial⟩) (K4 false w20 hS5 hK (by exact hB) h)
      clear hK hB
      intro b8 w22 hS7 hK hB h_
      have h := hJ4 b8 w22 h_; clear h_
      refine HW.pure (i := 17) hH rfl (by kernel_rfl) (Wants.free rfl) rfl (fun _ => hS7) (Rd.move (v := .bool b8) rfl) ?_
      obtain ⟨J5, hJ5, h1_J5, h0_J5⟩ := h
      suffices K5 : ∀ (b9 : Bool) (w24 : World), (Boxes w24 [(b3, [.int .i64 c1], 3), (b1, [.int .i64 g1, .int .i64 g2, .int .i64 g3, .slice g4 g4n g4c, .slice g5 g5n g5c], 43)]) → XR.Marks w24 [d1] → Boxes w24 [(b1, [.int .i64 g1, .int .i64 g2, .int .i64 g3, .slice g4 g4n g4c, .slice g5 g5n g5c], 43), (b2, [u1], 4), (b3, [.int .i64 c1], 3)] → J5 b9 w24 → H 1 #[true, true, true, true, true, true, true, true, true, true, true, true, true, true, true, true, true, true, true, true, true, true, true, true, true, false] [(4, .pointer (some (⟨b2, 0, none⟩ : Addr))), (73, .bool b9)] w24 by
        rcases Bool.eq_false_or_eq_true b8 with hb7 | hb7
        · have h := h1_J5 hb7
          refine HW.pure (i := 18) hH rfl (by kernel_rfl) (Wants.on rfl rfl rfl rfl rfl hb7) rfl (fun _ => hS7) (Rd.move (v := .pointer f1) rfl) ?_
          refine HW.pure (i := 20) hH rfl (by kernel_rfl) (Wants.on rfl rfl rfl rfl rfl hb7) rfl (fun _ => hS7) (Rd.fa (v := .pointer (some (⟨b1, 2, none⟩ : Addr))) rfl (fun _ => by kernel_rfl)) ?_
          refine HW.pure (i := 21) hH rfl (by kernel_rfl) (Wants.on rfl rfl rfl rfl rfl hb7) rfl (fun _ => hS7) (Rd.fa (v := .pointer (some (⟨b1, 3, none⟩ : Addr))) rfl (fun _ => by kernel_rfl)) ?_
          refine HW.take (i := 22) hH rfl (by kernel_rfl) (by kernel_rfl) (Wants.on rfl rfl rfl rfl rfl hb7) rfl (fun _ => hS7) (Rd.ld (v := .slice g4 g4n g4c) rfl (by kernel_rfl) (fun w h => box_cell (Boxes.at (i := 1) h rfl) rfl)) ?_
          refine HW.call (i := 19) hH (by kernel_rfl) rfl (Wants.on rfl rfl rfl rfl rfl hb7) rfl (Cl.fn (f := 33) rfl Tryz.func33 (by kernel_rfl) rfl) h (fun e w25 h_ => ?_)
          clear h
          obtain ⟨r8, r8n, r8c, rfl, h⟩ := h_
          obtain ⟨hsm6, h⟩ := h
          replace hB := Boxes.sameS hB hsm6 (by simp)
          replace hK := XR.Marks.same hK hsm6 (by simp)
          have hS8 : Boxes w25 [(b3, [.int .i64 c1], 3), (b1, [.int .i64 g1, .int .i64 g2, .int .i64 g3, .slice g4 g4n g4c, .slice g5 g5n g5c], 43)] := (hB.sel [2, 0] (by decide) rfl)
          refine ⟨_, rfl, (fun _ => hS8), ?_⟩
          refine HW.call (i := 23) hH (by kernel_rfl) rfl (Wants.on rfl rfl rfl rfl rfl hb7) rfl (Cl.fn (f := 61) rfl Tryz.func61 (by kernel_rfl) rfl) h (fun e w26 h_ => ?_)
          clear h
          obtain ⟨r9, rfl, h⟩ := h_
          obtain ⟨hsm7, h⟩ := h
          replace hB := Boxes.sameS hB hsm7 (by simp)
          replace hK := XR.Marks.same hK hsm7 (by simp)
          have hS9 : Boxes w26 [(b3, [.int .i64 c1], 3), (b1, [.int .i64 g1, .int .i64 g2, .int .i64 g3, .slice g4 g4n g4c, .slice g5 g5n g5c], 43)] := (hB.sel [2, 0] (by decide) rfl)
          refine ⟨_, rfl, (fun _ => hS9), ?_⟩
          refine HW.pure (i := 24) hH rfl (by kernel_rfl) (Wants.free rfl) rfl (fun _ => hS9) (Rd.pickT rfl hb7 rfl) ?_
          exact HW.sub hH (by exact ⟨rfl, rfl, trivial⟩) (K5 r9 w26 hS9 hK (by exact hB) h)
        · have h := h0_J5 hb7
          refine HW.skip (i := 18) hH rfl (by kernel_rfl) (Skips.on rfl rfl rfl rfl rfl hb7) rfl (fun _ => hS7) ?_
          refine HW.skip (i := 19) hH rfl (by kernel_rfl) (Skips.on rfl rfl rfl rfl rfl hb7) rfl (fun _ => hS7) ?_
          refine HW.skip (i := 20) hH rfl (by kernel_rfl) (Skips.on rfl rfl rfl rfl rfl hb7) rfl (fun _ => hS7) ?_
          refine HW.skip (i := 21) hH rfl (by kernel_rfl) (Skips.on rfl rfl rfl rfl rfl hb7) rfl (fun _ => hS7) ?_
          refine HW.skip (i := 22) hH rfl (by kernel_rfl) (Skips.on rfl rfl rfl rfl rfl hb7) rfl (fun _ => hS7) ?_
          refine HW.skip (i := 23) hH rfl (by kernel_rfl) (Skips.on rfl rfl rfl rfl rfl hb7) rfl (fun _ => hS7) ?_
          refine HW.pure (i := 24) hH rfl (by kernel_rfl) (Wants.free rfl) rfl (fun _ => hS7) (Rd.pickF rfl hb7 rfl) ?_
          exact HW.sub hH (by exact ⟨rfl, rfl, trivial⟩) (K5 false w22 hS7 hK (by exact hB) h)
      clear hK hB
      intro b9 w24 hS10 hK hB h_
      have h := hJ5 b9 w24 h_; clear h_
      obtain ⟨w27, hw_w27⟩ : ∃ x, x = World.setCell w24 (⟨b2, 0, none⟩ : Addr) (.bool b9) := ⟨_, rfl⟩
      refine HW.eff (i := 25) hH (by kernel_rfl) rfl (Wants.free rfl) rfl (stE hw_w27 (Ef.st rfl rfl rfl (by kernel_rfl) (box_cell (v := u1) (hB.at (i := 1) rfl) rfl) (free_of (hB.at (i := 1) rfl) 0))) (fun hc => by cases hc) ?_
      replace hK := XR.Marks.set hK (hB.at (i := 1) rfl) (sil_c1 hw_w27)
      replace hB : Boxes w27 [(b1, [.int .i64 g1, .int .i64 g2, .int .i64 g3, .slice g4 g4n g4c, .slice g5 g5n g5c], 43), (b2, [.bool b9], 4), (b3, [.int .i64 c1], 3)] := Boxes.store1  (i := 1) (o := 0) hB rfl rfl rfl rfl hw_w27
      have hc_w27 : Chg [b2] w24 w27 := sil_more (Chg.refl [] w24) (sil_c1 hw_w27)
      refine HW.done hH (by kernel_rfl) ?_
      refine NW.then ?_
      replace h := h  w27  hc_w27
      refine CW.ret ?_
      exact XR.resM (ms := [d1]) (vs := [.bool b9]) hK rfl (fun w_ hc_ => ⟨(ResOK.c rfl (lv1 (by kernel_rfl) (box_cell (Boxes.at (i := 1) (hB.marks hK hc_) rfl) rfl)) ResOK.nil), b9, rfl, h w_ hc_⟩)
    · intro d2 c_ O3 xs2 w29 hO_ hd_ hdh_ hS_ hi_
      rcases hi_ with ⟨rfl, c2, c3, hi_, hB⟩
      · have h := hso_X1 d2 O3 xs2 c2 c3 w29 hO_ hd_ hS_ hi_
        have hK := XR.Marks.cons (XR.Marks.nil _) hdh_ (by simp)
        refine CW.ret ?_
        refine RW.block ?_
        refine RW.then ?_
        exact XR.resM (ms := [d2]) (vs := [.bool c2]) hK rfl (fun w_ hc_ => ⟨(ResOK.c rfl (lv1 (by kernel_rfl) (box_cell (Boxes.at (i := 1) (hB.marks hK hc_) rfl) rfl)) ResOK.nil), c2, rfl, h w_ hc_⟩)

end Go.Proofs.YtfcfkhbkkfpehaaGreat
end

/- XGz3 -/
section
set_option linter.unusedVariables false
set_option linter.unusedSimpArgs false
namespace Go.Proofs.YtfcfkhbkkfpehaaGreat
open Go Go.X

/- pomander/pomanderref12.Right -/
def W_pomanderref12_Right (f1 : Int) (f2 : Int) (most1 : Int) (w : World) (R : Bool → World → Prop) : Prop :=
  ∀ (b1 : Nat) (w1 : World), (w.heap.size ≤ b1 ∧ b1 < w1.heap.size) → Chg [] w w1 → (∃ J1 : Bool → World → Prop, (∀ (b2 : Bool) (w2 : World), J1 b2 w2 → ∃ J2 : Bool → World → Prop, (∀ (b3 : Bool) (w3 : World), J2 b3 w3 → ∃ J3 : Bool → World → Prop, (∀ (b4 : Bool) (w4 : World), J3 b4 w4 → R ((b4 && decide (most1 ≥ 1)) && decide (most1 ≤ 65536)) w4) ∧ ((b3 = true → J3 (decide (f2 ≤ 32)) w3) ∧ (b3 = false → J3 false w3))) ∧ ((b2 = true → J2 (decide (f2 ≥ 1)) w2) ∧ (b2 = false → J2 false w2))) ∧ (((decide (f1 ≥ 1)) = true → J1 (decide (f1 ≤ 32)) w1) ∧ ((decide (f1 ≥ 1)) = false → J1 false w1)))
set_option maxRecDepth 100000 in
theorem go_pomanderref12_Right (f1 : Int) (f2 : Int) (most1 : Int) (w : World) (R : Bool → World → Prop) (h : W_pomanderref12_Right f1 f2 most1 w R) : Calls Tryz.prog 27 #[.agg #[.int .i64 f1, .int .i64 f2], .int .i64 most1] w (fun e w' => ∃ (r1 : Bool), e = .returned (.bool r1) ∧ R r1 w') := by
  unfold W_pomanderref12_Right at h
  refine enter (N := 31) Tryz.func27 rfl rfl ?_
  refine CW.seq ?_
  refine CW.region fun L hL => ?_
  obtain ⟨b1, hb_b1⟩ : ∃ b1, b1 = World.size w := ⟨_, rfl⟩
  obtain ⟨w1, hw_w1⟩ : ∃ w1, w1 = World.alloc w (.cells #[.int .i64 f1, .int .i64 f2] 37) := ⟨_, rfl⟩
  refine LW.val hL rfl (Wants.free rfl) rfl (boxE hb_b1 hw_w1 (Vl.box (v := .agg #[.int .i64 f1, .int .i64 f2]) rfl)) ?_
  have hB := Boxes.alloc (cs := [.int .i64 f1, .int .i64 f2]) (T := 37) (Boxes.nil w) hb_b1 hw_w1
  have hlo_b1 := sil_lo (Chg.refl [] w) hb_b1
  have hc_w1 := sil_alloc (Chg.refl [] w) hw_w1
  refine LW.rd hL rfl (Wants.free rfl) rfl (Rd.assign (v := .bool false) rfl) ?_
  refine LW.nil hL rfl ?_
  refine NW.then ?_
  refine CW.seq ?_
  refine CW.region fun L hL => ?_
  refine LW.rd hL rfl (Wants.free rfl) rfl (Rd.fa (v := .pointer (some (⟨b1, 0, none⟩ : Addr))) rfl (fun _ => by kernel_rfl)) ?_
  refine LW.rd hL rfl (Wants.free rfl) rfl (Rd.ld (v := .int .i64 f1) rfl (by kernel_rfl) (eqs (box_cell (hB.at (i := 0) rfl) rfl))) ?_
  refine LW.rd hL rfl (Wants.free rfl) rfl (Rd.bin (v := .bool (decide (f1 ≥ 1))) rfl rfl (fun w => by kernel_rfl)) ?_
  refine LW.rd hL rfl (Wants.free rfl) rfl (Rd.move (v := .bool (decide (f1 ≥ 1))) rfl) ?_
  replace h := h b1 w1 ⟨hlo_b1, lt_of_heap (hB.at (i := 0) rfl)⟩ hc_w1
  obtain ⟨J1, hJ1, h1_J1, h0_J1⟩ := h
  suffices K1 : ∀ (b2 : Bool) (w2 : World), Boxes w2 [(b1, [.int .i64 f1, .int .i64 f2], 37)] → J1 b2 w2 → L 8 [(1, .int .i64 most1), (2, .pointer (some (⟨b1, 0, none⟩ : Addr))), (4, .bool false), (12, .bool b2)] w2 by
    rcases Bool.eq_false_or_eq_true (decide (f1 ≥ 1)) with hb1 | hb1
    · have h := h1_J1 hb1
      refine LW.rd hL rfl (Wants.on rfl rfl rfl rfl rfl hb1) rfl (Rd.fa (v := .pointer (some (⟨b1, 0, none⟩ : Addr))) rfl (fun _ => by kernel_rfl)) ?_
      refine LW.rd hL rfl (Wants.on rfl rfl rfl rfl rfl hb1) rfl (Rd.ld (v := .int .i64 f1) rfl (by kernel_rfl) (eqs (box_cell (hB.at (i := 0) rfl) rfl))) ?_
      refine LW.rd hL rfl (Wants.on rfl rfl rfl rfl rfl hb1) rfl (Rd.bin (v := .bool (decide (f1 ≤ 32))) rfl rfl (fun w => by kernel_rfl)) ?_
      refine LW.rd hL rfl (Wants.free rfl) rfl (Rd.pickT rfl hb1 rfl) ?_
      exact LW.sub hL (by exact ⟨rfl, rfl, rfl, rfl, trivial⟩) (K1 (decide (f1 ≤ 32)) w1 (by exact hB) h)
    · have h := h0_J1 hb1
      refine LW.skip hL rfl (Skips.on rfl rfl rfl rfl rfl hb1) rfl ?_
      refine LW.skip hL rfl (Skips.on rfl rfl rfl rfl rfl hb1) rfl ?_
      refine LW.skip hL rfl (Skips.on rfl rfl rfl rfl rfl hb1) rfl ?_
      refine LW.rd hL rfl (Wants.free rfl) rfl (Rd.pickF rfl hb1 rfl) ?_
      exact LW.sub hL (by exact ⟨rfl, rfl, rfl, rfl, trivial⟩) (K1 false w1 (by exact hB) h)
  intro b2 w2 hB h_
  have h := hJ1 b2 w2 h_; clear h_
  refine LW.rd hL rfl (Wants.free rfl) rfl (Rd.move (v := .bool b2) rfl) ?_
  obtain ⟨J2, hJ2, h1_J2, h0_J2⟩ := h
  suffices K2 : ∀ (b3 : Bool) (w3 : World), Boxes w3 [(b1, [.int .i64 f1, .int .i64 f2], 37)] → J2 b3 w3 → L 13 [(1, .int .i64 most1), (2, .pointer (some (⟨b1, 0, none⟩ : Addr))), (4, .bool false), (17, .bool b3)] w3 by
    rcases Bool.eq_false_or_eq_true b2 with hb2 | hb2
    · have h := h1_J2 hb2
      refine LW.rd hL rfl (Wants.on rfl rfl rfl rfl rfl hb2) rfl (Rd.fa (v := .pointer (some (⟨b1, 1, none⟩ : Addr))) rfl (fun _ => by kernel_rfl)) ?_
      refine LW.rd hL rfl (Wants.on rfl rfl rfl rfl rfl hb2) rfl (Rd.ld (v := .int .i64 f2) rfl (by kernel_rfl) (eqs (box_cell (hB.at (i := 0) rfl) rfl))) ?_
      refine LW.rd hL rfl (Wants.on rfl rfl rfl rfl rfl hb2) rfl (Rd.bin (v := .bool (decide (f2 ≥ 1))) rfl rfl (fun w => by kernel_rfl)) ?_
      refine LW.rd hL rfl (Wants.free rfl) rfl (Rd.pickT rfl hb2 rfl) ?_
      exact LW.sub hL (by exact ⟨rfl, rfl, rfl, rfl, trivial⟩) (K2 (decide (f2 ≥ 1)) w2 (by exact hB) h)
    · have h := h0_J2 hb2
      refine LW.skip hL rfl (Skips.on rfl rfl rfl rfl rfl hb2) rfl ?_
      refine LW.skip hL rfl (Skips.on rfl rfl rfl rfl rfl hb2) rfl ?_
      refine LW.skip hL rfl (Skips.on rfl rfl rfl rfl rfl hb2) rfl ?_
      refine LW.rd hL rfl (Wants.free rfl) rfl (Rd.pickF rfl hb2 rfl) ?_
      exact LW.sub hL (by exact ⟨rfl, rfl, rfl, rfl, trivial⟩) (K2 false w2 (by exact hB) h)
  intro b3 w3 hB h_
  have h := hJ2 b3 w3 h_; clear h_
  refine LW.rd hL rfl (Wants.free rfl) rfl (Rd.move (v := .bool b3) rfl) ?_
  obtain ⟨J3, hJ3, h1_J3, h0_J3⟩ := h
  suffices K3 : ∀ (b4 : Bool) (w4 : World), J3 b4 w4 → L 18 [(1, .int .i64 most1), (4, .bool false), (22, .bool b4)] w4 by
    rcases Bool.eq_false_or_eq_true b3 with hb3 | hb3
    · have h := h1_J3 hb3
      refine LW.rd hL rfl (Wants.on rfl rfl rfl rfl rfl hb3) rfl (Rd.fa (v := .pointer (some (⟨b1, 1, none⟩ : Addr))) rfl (fun _ => by kernel_rfl)) ?_
      refine LW.rd hL rfl (Wants.on rfl rfl rfl rfl rfl hb3) rfl (Rd.ld (v := .int .i64 f2) rfl (by kernel_rfl) (eqs (box_cell (hB.at (i := 0) rfl) rfl))) ?_
      refine LW.rd hL rfl (Wants.on rfl rfl rfl rfl rfl hb3) rfl (Rd.bin (v := .bool (decide (f2 ≤ 32))) rfl rfl (fun w => by kernel_rfl)) ?_
      refine LW.rd hL rfl (Wants.free rfl) rfl (Rd.pickT rfl hb3 rfl) ?_
      exact LW.sub hL (by exact ⟨rfl, rfl, rfl, trivial⟩) (K3 (decide (f2 ≤ 32)) w3 h)
    · have h := h0_J3 hb3
      refine LW.skip hL rfl (Skips.on rfl rfl rfl rfl rfl hb3) rfl ?_
      refine LW.skip hL rfl (Skips.on rfl rfl rfl rfl rfl hb3) rfl ?_
      refine LW.skip hL rfl (Skips.on rfl rfl rfl rfl rfl hb3) rfl ?_
      refine LW.rd hL rfl (Wants.free rfl) rfl (Rd.pickF rfl hb3 rfl) ?_
      exact LW.sub hL (by exact ⟨rfl, rfl, rfl, trivial⟩) (K3 false w3 h)
  intro b4 w4 h_
  have h := hJ3 b4 w4 h_; clear h_
  refine LW.rd hL rfl (Wants.free rfl) rfl (Rd.move (v := .bool b4) rfl) ?_
  suffices K4 : L 22 [(1, .int .i64 most1), (4, .bool false), (26, .bool (b4 && decide (most1 ≥ 1)))] w4 by
    rcases Bool.eq_false_or_eq_true b4 with hb5 | hb5
    · skip
      refine LW.rd hL rfl (Wants.on rfl rfl rfl rfl rfl hb5) rfl (Rd.move (v := .int .i64 most1) rfl) ?_
      refine LW.rd hL rfl (Wants.on rfl rfl rfl rfl rfl hb5) rfl (Rd.bin (v := .bool (decide (most1 ≥ 1))) rfl rfl (fun w => by kernel_rfl)) ?_
      refine LW.rd hL rfl (Wants.free rfl) rfl (Rd.pickT rfl hb5 rfl) ?_
      exact LW.sub hL (by exact ⟨rfl, rfl, (by rw [hb5]; rfl), trivial⟩) K4
    · skip
      refine LW.skip hL rfl (Skips.on rfl rfl rfl rfl rfl hb5) rfl ?_
      refine LW.skip hL rfl (Skips.on rfl rfl rfl rfl rfl hb5) rfl ?_
      refine LW.rd hL rfl (Wants.free rfl) rfl (Rd.pickF rfl hb5 rfl) ?_
      exact LW.sub hL (by exact ⟨rfl, rfl, (by rw [hb5]; rfl), trivial⟩) K4
  refine LW.rd hL rfl (Wants.free rfl) rfl (Rd.move (v := .bool (b4 && decide (most1 ≥ 1))) rfl) ?_
  suffices K5 : L 26 [(4, .bool false), (30, .bool ((b4 && decide (most1 ≥ 1)) && decide (most1 ≤ 65536)))] w4 by
    rcases Bool.eq_false_or_eq_true (b4 && decide (most1 ≥ 1)) with hb7 | hb7
    · skip
      refine LW.rd hL rfl (Wants.on rfl rfl rfl rfl rfl hb7) rfl (Rd.move (v := .int .i64 most1) rfl) ?_
      refine LW.rd hL rfl (Wants.on rfl rfl rfl rfl rfl hb7) rfl (Rd.bin (v := .bool (decide (most1 ≤ 65536))) rfl rfl (fun w => by kernel_rfl)) ?_
      refine LW.rd hL rfl (Wants.free rfl) rfl (Rd.pickT rfl hb7 rfl) ?_
      exact LW.sub hL (by exact ⟨rfl, (by rw [hb7]; rfl), trivial⟩) K5
    · skip
      refine LW.skip hL rfl (Skips.on rfl rfl rfl rfl rfl hb7) rfl ?_
      refine LW.skip hL rfl (Skips.on rfl rfl rfl rfl rfl hb7) rfl ?_
      refine LW.rd hL rfl (Wants.free rfl) rfl (Rd.pickF rfl hb7 rfl) ?_
      exact LW.sub hL (by exact ⟨rfl, (by rw [hb7]; rfl), trivial⟩) K5
  refine LW.rd hL rfl (Wants.free rfl) rfl (Rd.assign (v := .bool ((b4 && decide (most1 ≥ 1)) && decide (most1 ≤ 65536))) rfl) ?_
  refine LW.nil hL rfl ?_
  refine NW.then ?_
  refine CW.ret ?_
  exact res1 rfl rfl ⟨((b4 && decide (most1 ≥ 1)) && decide (most1 ≤ 65536)), rfl, h⟩

/- (pomander/pomanderref12.Flow).Pages -/
def W_pomanderref12_Flow_Pages (f1 : Int) (f2 : Int) (f3 : Int) (f4 : Option Addr) (f4n : Nat) (f4c : Nat) (f5 : Option Addr) (f5n : Nat) (f5c : Nat) (kind1 : Int) (w : World) (R : Int → World → Prop) : Prop :=
  ∀ (b1 : Nat) (w1 : World), (w.heap.size ≤ b1 ∧ b1 < w1.heap.size) → Chg [] w w1 → (∃ (I1 : Int → Int → Int → World → Prop) (m1 : Int → Int → Int → World → Nat), I1 0 (-1) 0 w1 ∧ ∀ (n1 : Int) (last1 : Int) (i1 : Int) (w2 : World), I1 n1 last1 i1 w2 → ((decide (i1 < (f5n : Int))) = true → ∃ J1 : Int → Int → World → Prop, (∀ (n2 : Int) (last2 : Int) (w3 : World), J1 n2 last2 w3 → (I1 n2 last2 (IntKind.wrap .i64 (i1 + 1)) w3 ∧ m1 n2 last2 (IntKind.wrap .i64 (i1 + 1)) w3 < m1 n1 last1 i1 w2)) ∧ (∃ a1 : Addr, f5 = some a1 ∧ (0 : Int) ≤ i1 ∧ i1 < (f5n : Int) ∧ (∃ (t1 : Int) (t2 : Int), CellsAt w2 (a1.add (Int.toNat i1 * 3)) 0 [.int .i64 t1, .int .i64 t2] ∧ (∀ (b2 : Nat) (w5 : World), (w2.heap.size ≤ b2 ∧ b2 < w5.heap.size) → Chg [] w2 w5 → (∃ J2 : Bool → World → Prop, (∀ (b3 : Bool) (w6 : World), J2 b3 w6 → (b3 = true → J1 (IntKind.wrap .i64 (n1 + 1)) (IntKind.wrap .i64 (Int.tdiv t2 64)) w6) ∧ (b3 = false → J1 n1 last1 w6)) ∧ (((t1 == kind1) = true → J2 (!((IntKind.wrap .i64 (Int.tdiv t2 64)) == last1)) w5) ∧ ((t1 == kind1) = false → J2 false w5))))))) ∧ ((decide (i1 < (f5n : Int))) = false → R n1 w2))
set_option maxRecDepth 100000 in
theorem go_pomanderref12_Flow_Pages (f1 : Int) (f2 : Int) (f3 : Int) (f4 : Option Addr) (f4n : Nat) (f4c : Nat) (f5 : Option Addr) (f5n : Nat) (f5c : Nat) (kind1 : Int) (w : World) (R : Int → World → Prop) (h : W_pomanderref12_Flow_Pages f1 f2 f3 f4 f4n f4c f5 f5n f5c kind1 w R) : Calls Tryz.prog 60 #[.agg #[.int .i64 f1, .int .i64 f2, .int .i64 f3, .slice f4 f4n f4c, .slice f5 f5n f5c], .int .i64 kind1] w (fun e w' => ∃ (r1 : Int), e = .returned (.int .i64 r1) ∧ R r1 w') := by
  unfold W_pomanderref12_Flow_Pages at h
  refine enter (N := 39) Tryz.func60 rfl rfl ?_
  refine CW.seq ?_
  refine CW.region fun L hL => ?_
  obtain ⟨b1, hb_b1⟩ : ∃ b1, b1 = World.size w := ⟨_, rfl⟩
  obtain ⟨w1, hw_w1⟩ : ∃ w1, w1 = World.alloc w (.cells #[.int .i64 f1, .int .i64 f2, .int .i64 f3, .slice f4 f4n f4c, .slice f5 f5n f5c] 43) := ⟨_, rfl⟩
  refine LW.val hL rfl (Wants.free rfl) rfl (boxE hb_b1 hw_w1 (Vl.box (v := .agg #[.int .i64 f1, .int .i64 f2, .int .i64 f3, .slice f4 f4n f4c, .slice f5 f5n f5c]) rfl)) ?_
  have hB := Boxes.alloc (cs := [.int .i64 f1, .int .i64 f2, .int .i64 f3, .slice f4 f4n f4c, .slice f5 f5n f5c]) (T := 43) (Boxes.nil w) hb_b1 hw_w1
  have hlo_b1 := sil_lo (Chg.refl [] w) hb_b1
  have hc_w1 := sil_alloc (Chg.refl [] w) hw_w1
  refine LW.rd hL rfl (Wants.free rfl) rfl (Rd.assign (v := .int .i64 0) rfl) ?_
  refine LW.nil hL rfl ?_
  refine NW.then ?_
  refine CW.seq ?_
  refine CW.region fun L hL => ?_
  refine LW.rd hL rfl (Wants.free rfl) rfl (Rd.assign (v := .int .i64 0) rfl) ?_
  refine LW.rd hL rfl (Wants.free rfl) rfl (Rd.assign (v := .int .i64 (-1)) rfl) ?_
  refine LW.nil hL rfl ?_
  refine NW.then ?_
  refine CW.seq ?_
  refine CW.seq ?_
  refine CW.region fun L hL => ?_
  refine LW.rd hL rfl (Wants.free rfl) rfl (Rd.assign (v := .int .i64 0) rfl) ?_
  refine LW.nil hL rfl ?_
  refine NW.then ?_
  refine CW.block ?_
  replace h := h b1 w1 ⟨hlo_b1, lt_of_heap (hB.at (i := 0) rfl)⟩ hc_w1
  obtain ⟨I1, m1, hI1, h⟩ := h
  refine CW.loop (S := Int × Int × Int) (fun s1 => [(1, .int .i64 kind1), (2, .pointer (some (⟨b1, 0, none⟩ : Addr))), (4, .int .i64 0), (5, .int .i64 s1.1), (6, .int .i64 s1.2.1), (7, .int .i64 s1.2.2)]) (fun s1 w2 => I1 s1.1 s1.2.1 s1.2.2 w2 ∧ Boxes w2 [(b1, [.int .i64 f1, .int .i64 f2, .int .i64 f3, .slice f4 f4n f4c, .slice f5 f5n f5c], 43)]) (fun s1 w2 => m1 s1.1 s1.2.1 s1.2.2 w2) (0, (-1), 0) (by exact ⟨rfl, rfl, rfl, rfl, rfl, rfl, trivial⟩) ⟨hI1, hB⟩ (fun s1 w2 hI1 => ?_)
  obtain ⟨hI1, hB⟩ := hI1
  obtain ⟨n1, last1, i1⟩ := s1; replace h := h n1 last1 i1 w2 hI1
  refine CW.seq ?_
  refine CW.seq ?_
  refine CW.region fun L hL => ?_
  refine LW.rd hL rfl (Wants.free rfl) rfl (Rd.move (v := .int .i64 i1) rfl) ?_
  refine LW.rd hL rfl (Wants.free rfl) rfl (Rd.fa (v := .pointer (some (⟨b1, 4, none⟩ : Addr))) rfl (fun _ => by kernel_rfl)) ?_
  refine LW.rd hL rfl (Wants.free rfl) rfl (Rd.ld (v := .slice f5 f5n f5c) rfl (by kernel_rfl) (eqs (box_cell (hB.at (i := 0) rfl) rfl))) ?_
  refine LW.rd hL rfl (Wants.free rfl) rfl (Rd.builtin (v := .int .i64 (f5n : Int)) rfl (fun _ _ => by kernel_rfl)) ?_
  refine LW.rd hL rfl (Wants.free rfl) rfl (Rd.bin (v := .bool (decide (i1 < (f5n : Int)))) rfl rfl (fun w => by kernel_rfl)) ?_
  refine LW.nil hL rfl ?_
  refine NW.then ?_
  refine CW.cond rfl (fun hb1 => ?_) (fun hb1 => ?_)
  · replace h := h.1 hb1
    refine CW.skip ?_
    refine NW.then ?_
    obtain ⟨J1, hJ1, h⟩ := h
    refine CW.cut (S := Int × Int) (fun s2 => [(1, .int .i64 kind1), (2, .pointer (some (⟨b1, 0, none⟩ : Addr))), (4, .int .i64 0), (7, .int .i64 i1), (5, .int .i64 s2.1), (6, .int .i64 s2.2)]) (fun s2 w3 => J1 s2.1 s2.2 w3 ∧ Boxes w3 [(b1, [.int .i64 f1, .int .i64 f2, .int .i64 f3, .slice f4 f4n f4c, .slice f5 f5n f5c], 43)]) (fun s2 w3 h_ => ?_) ?_
    · obtain ⟨h_, hB⟩ := h_; obtain ⟨n2, last2⟩ := s2; replace h := hJ1 n2 last2 w3 h_; clear h_
      refine CW.region fun L hL => ?_
      refine LW.rd hL rfl (Wants.free rfl) rfl (Rd.move (v := .int .i64 i1) rfl) ?_
      refine LW.rd hL rfl (Wants.free rfl) rfl (Rd.bin (v := .int .i64 (IntKind.wrap .i64 (i1 + 1))) rfl rfl (fun w => by kernel_rfl)) ?_
      refine LW.rd hL rfl (Wants.free rfl) rfl (Rd.assign (v := .int .i64 (IntKind.wrap .i64 (i1 + 1))) rfl) ?_
      refine LW.nil hL rfl ?_
      exact NW.loop (S := Int × Int × Int) (Ek := fun s1 => [(1, .int .i64 kind1), (2, .pointer (some (⟨b1, 0, none⟩ : Addr))), (4, .int .i64 0), (5, .int .i64 s1.1), (6, .int .i64 s1.2.1), (7, .int .i64 s1.2.2)]) (n2, last2, IntKind.wrap .i64 (i1 + 1)) (by exact ⟨rfl, rfl, rfl, rfl, rfl, rfl, trivial⟩) ⟨⟨h.1, hB⟩, h.2⟩
    · skip
      refine CW.block ?_
      refine CW.seq ?_
      refine CW.region fun L hL => ?_
      refine LW.rd hL rfl (Wants.free rfl) rfl (Rd.fa (v := .pointer (some (⟨b1, 4, none⟩ : Addr))) rfl (fun _ => by kernel_rfl)) ?_
      refine LW.rd hL rfl (Wants.free rfl) rfl (Rd.ld (v := .slice f5 f5n f5c) rfl (by kernel_rfl) (eqs (box_cell (hB.at (i := 0) rfl) rfl))) ?_
      refine LW.rd hL rfl (Wants.free rfl) rfl (Rd.move (v := .int .i64 i1) rfl) ?_
      obtain ⟨a1, he1, hi1, hi2, h⟩ := h
      refine LW.rd hL rfl (Wants.free rfl) rfl (Rd.iaS (q := a1) (sz := 3) (by rw [← he1]; rfl) rfl Tryz.underlying41 (by kernel_rfl) hi1 hi2) ?_
      refine LW.rd hL rfl (Wants.free rfl) rfl (Rd.fa (v := .pointer (some (a1.add (Int.toNat i1 * 3)))) rfl (fun _ => by kernel_rfl)) ?_
      obtain ⟨t1, t2, hc1, h⟩ := h
      refine LW.rd hL rfl (Wants.free rfl) rfl (Rd.ldN (cs := [.int .i64 t1, .int .i64 t2]) rfl (by kernel_rfl) (by kernel_rfl) (cellsS hc1)) ?_
      obtain ⟨b2, hb_b2⟩ : ∃ b2, b2 = World.size w2 := ⟨_, rfl⟩
      obtain ⟨w4, hw_w4⟩ : ∃ w4, w4 = World.alloc w2 (.cells #[.int .i64 0, .int .i64 0] 62) := ⟨_, rfl⟩
      refine LW.val hL rfl (Wants.free rfl) rfl (boxE hb_b2 hw_w4 (Vl.alloc (z := .agg #[.int .i64 0, .int .i64 0]) (by kernel_rfl))) ?_
      replace hB := Boxes.alloc (cs := [.int .i64 0, .int .i64 0]) (T := 62) hB hb_b2 hw_w4
      have hlo_b2 := sil_lo (Chg.refl [] w2) hb_b2
      have hc_w4 := sil_alloc (Chg.refl [] w2) hw_w4
      obtain ⟨w5, hw_w5⟩ : ∃ x, x = setCells w4 (⟨b2, 0, none⟩ : Addr) 0 [.int .i64 t1, .int .i64 t2] := ⟨_, rfl⟩
      refine LW.eff hL rfl (Wants.free rfl) rfl (stNE hw_w5 (Ef.stN (cs := [.int .i64 t1, .int .i64 t2]) rfl rfl (by kernel_rfl) (List.forall_mem_cons.2 ⟨rfl, (List.forall_mem_cons.2 ⟨rfl, (List.forall_mem_nil _)⟩)⟩) (has_of (hB.at (i := 0) rfl) (by simp)) (free_of' (hB.at (i := 0) rfl)))) ?_
      replace hB : Boxes w5 [(b2, [.int .i64 t1, .int .i64 t2], 62), (b1, [.int .i64 f1, .int .i64 f2, .int .i64 f3, .slice f4 f4n f4c, .slice f5 f5n f5c], 43)] := Boxes.store (vs := [.int .i64 t1, .int .i64 t2]) (i := 0) (o := 0) hB rfl rfl rfl rfl hw_w5
      have hc_w5 := sil_new hc_w4 (sil_cN hw_w5) hlo_b2
      refine LW.nil hL rfl ?_
      refine NW.then ?_
      refine CW.seq ?_
      refine CW.region fun L hL => ?_
      refine LW.rd hL rfl (Wants.free rfl) rfl (Rd.fa (v := .pointer (some (⟨b2, 0, none⟩ : Addr))) rfl (fun _ => by kernel_rfl)) ?_
      refine LW.rd hL rfl (Wants.free rfl) rfl (Rd.ld (v := .int .i64 t1) rfl (by kernel_rfl) (eqs (box_cell (hB.at (i := 0) rfl) rfl))) ?_
      refine LW.rd hL rfl (Wants.free rfl) rfl (Rd.move (v := .int .i64 kind1) rfl) ?_
      refine LW.rd hL rfl (Wants.free rfl) rfl (Rd.bin (v := .bool (t1 == kind1)) rfl rfl (fun w => by kernel_rfl)) ?_
      refine LW.rd hL rfl (Wants.free rfl) rfl (Rd.move (v := .bool (t1 == kind1)) rfl) ?_
      replace h := h b2 w5 ⟨hlo_b2, lt_of_heap (hB.at (i := 0) rfl)⟩ hc_w5
      obtain ⟨J2, hJ2, h1_J2, h0_J2⟩ := h
      suffices K1 : ∀ (b3 : Bool) (w6 : World), Boxes w6 [(b2, [.int .i64 t1, .int .i64 t2], 62), (b1, [.int .i64 f1, .int .i64 f2, .int .i64 f3, .slice f4 f4n f4c, .slice f5 f5n f5c], 43)] → J2 b3 w6 → L 11 [(1, .int .i64 kind1), (2, .pointer (some (⟨b1, 0, none⟩ : Addr))), (4, .int .i64 0), (5, .int .i64 n1), (6, .int .i64 last1), (7, .int .i64 i1), (8, .pointer (some (⟨b2, 0, none⟩ : Addr))), (32, .bool b3)] w6 by
        rcases Bool.eq_false_or_eq_true (t1 == kind1) with hb2 | hb2
        · have h := h1_J2 hb2
          refine LW.rd hL rfl (Wants.on rfl rfl rfl rfl rfl hb2) rfl (Rd.fa (v := .pointer (some (⟨b2, 1, none⟩ : Addr))) rfl (fun _ => by kernel_rfl)) ?_
          refine LW.rd hL rfl (Wants.on rfl rfl rfl rfl rfl hb2) rfl (Rd.ld (v := .int .i64 t2) rfl (by kernel_rfl) (eqs (box_cell (hB.at (i := 0) rfl) rfl))) ?_
          refine LW.rd hL rfl (Wants.on rfl rfl rfl rfl rfl hb2) rfl (Rd.bin (v := .int .i64 (IntKind.wrap .i64 (Int.tdiv t2 64))) rfl rfl (fun w => by kernel_rfl)) ?_
          refine LW.rd hL rfl (Wants.on rfl rfl rfl rfl rfl hb2) rfl (Rd.move (v := .int .i64 last1) rfl) ?_
          refine LW.rd hL rfl (Wants.on rfl rfl rfl rfl rfl hb2) rfl (Rd.bin (v := .bool (!((IntKind.wrap .i64 (Int.tdiv t2 64)) == last1))) rfl rfl (fun w => by kernel_rfl)) ?_
          refine LW.rd hL rfl (Wants.free rfl) rfl (Rd.pickT rfl hb2 rfl) ?_
          exact LW.sub hL (by exact ⟨rfl, rfl, rfl, rfl, rfl, rfl, rfl, rfl, trivial⟩) (K1 (!((IntKind.wrap .i64 (Int.tdiv t2 64)) == last1)) w5 (by exact hB) h)
        · have h := h0_J2 hb2
          refine LW.skip hL rfl (Skips.on rfl rfl rfl rfl rfl hb2) rfl ?_
          refine LW.skip hL rfl (Skips.on rfl rfl rfl rfl rfl hb2) rfl ?_
          refine LW.skip hL rfl (Skips.on rfl rfl rfl rfl rfl hb2) rfl ?_
          refine LW.skip hL rfl (Skips.on rfl rfl rfl rfl rfl hb2) rfl ?_
          refine LW.skip hL rfl (Skips.on rfl rfl rfl rfl rfl hb2) rfl ?_
          refine LW.rd hL rfl (Wants.free rfl) rfl (Rd.pickF rfl hb2 rfl) ?_
          exact LW.sub hL (by exact ⟨rfl, rfl, rfl, rfl, rfl, rfl, rfl, rfl, trivial⟩) (K1 false w5 (by exact hB) h)
      intro b3 w6 hB h_
      have h := hJ2 b3 w6 h_; clear h_
      refine LW.nil hL rfl ?_
      refine NW.then ?_
      refine CW.cond rfl (fun hb3 => ?_) (fun hb3 => ?_)
      · replace h := h.1 hb3
        refine CW.seq ?_
        refine CW.region fun L hL => ?_
        refine LW.rd hL rfl (Wants.free rfl) rfl (Rd.fa (v := .pointer (some (⟨b2, 1, none⟩ : Addr))) rfl (fun _ => by kernel_rfl)) ?_
        refine LW.rd hL rfl (Wants.free rfl) rfl (Rd.ld (v := .int .i64 t2) rfl (by kernel_rfl) (eqs (box_cell (hB.at (i := 0) rfl) rfl))) ?_
        refine LW.rd hL rfl (Wants.free rfl) rfl (Rd.bin (v := .int .i64 (IntKind.wrap .i64 (Int.tdiv t2 64))) rfl rfl (fun w => by kernel_rfl)) ?_
        refine LW.rd hL rfl (Wants.free rfl) rfl (Rd.assign (v := .int .i64 (IntKind.wrap .i64 (Int.tdiv t2 64))) rfl) ?_
        refine LW.nil hL rfl ?_
        refine NW.then ?_
        refine CW.region fun L hL => ?_
        refine LW.rd hL rfl (Wants.free rfl) rfl (Rd.move (v := .int .i64 n1) rfl) ?_
        refine LW.rd hL rfl (Wants.free rfl) rfl (Rd.bin (v := .int .i64 (IntKind.wrap .i64 (n1 + 1))) rfl rfl (fun w => by kernel_rfl)) ?_
        refine LW.rd hL rfl (Wants.free rfl) rfl (Rd.assign (v := .int .i64 (IntKind.wrap .i64 (n1 + 1))) rfl) ?_
        refine LW.nil hL rfl ?_
        refine NW.block ?_
        exact NW.cut (S := Int × Int) (Ek := fun s2 => [(1, .int .i64 kind1), (2, .pointer (some (⟨b1, 0, none⟩ : Addr))), (4, .int .i64 0), (7, .int .i64 i1), (5, .int .i64 s2.1), (6, .int .i64 s2.2)]) (IntKind.wrap .i64 (n1 + 1), IntKind.wrap .i64 (Int.tdiv t2 64)) (by exact ⟨rfl, rfl, rfl, rfl, rfl, rfl, trivial⟩) ⟨h, (hB.sel [1] (by decide) rfl)⟩
      · replace h := h.2 hb3
        refine CW.skip ?_
        refine NW.block ?_
        exact NW.cut (S := Int × Int) (Ek := fun s2 => [(1, .int .i64 kind1), (2, .pointer (some (⟨b1, 0, none⟩ : Addr))), (4, .int .i64 0), (7, .int .i64 i1), (5, .int .i64 s2.1), (6, .int .i64 s2.2)]) (n1, last1) (by exact ⟨rfl, rfl, rfl, rfl, rfl, rfl, trivial⟩) ⟨h, (hB.sel [1] (by decide) rfl)⟩
  · replace h := h.2 hb1
    refine CW.exit ?_
    refine XW.then ?_
    refine XW.then ?_
    refine XW.hit ?_
    refine NW.then ?_
    refine CW.seq ?_
    refine CW.region fun L hL => ?_
    refine LW.rd hL rfl (Wants.free rfl) rfl (Rd.move (v := .int .i64 n1) rfl) ?_
    refine LW.rd hL rfl (Wants.free rfl) rfl (Rd.assign (v := .int .i64 n1) rfl) ?_
    refine LW.nil hL rfl ?_
    refine NW.then ?_
    refine CW.ret ?_
    exact res1 rfl rfl ⟨n1, rfl, h⟩

/- pomander/pomanderlaw12.sets -/
def W_pomanderlaw12_sets (a1 : Option Addr) (a1n : Nat) (a1c : Nat) (b1 : Option Addr) (b1n : Nat) (b1c : Nat) (w : World) (R : Bool → World → Prop) : Prop :=
  ((!((a1n : Int) == (b1n : Int))) = true → R false w) ∧ ((!((a1n : Int) == (b1n : Int))) = false → ∃ (I1 : Bool → Int → World → Prop) (m1 : Bool → Int → World → Nat), I1 false 0 w ∧ ∀ (x1 : Bool) (i1 : Int) (w1 : World), I1 x1 i1 w1 → ((decide (i1 < (a1n : Int))) = true → ∃ a2 : Addr, a1 = some a2 ∧ (0 : Int) ≤ i1 ∧ i1 < (a1n : Int) ∧ (∀ (w2 : World), Chg [] w1 w2 → (∃ (t1 : Int), w2.cell? (a2.add (Int.toNat i1 * 1)) = some (.int .u32 t1) ∧ (∃ a3 : Addr, b1 = some a3 ∧ (0 : Int) ≤ i1 ∧ i1 < (b1n : Int) ∧ (∃ (t2 : Int), w2.cell? (a3.add (Int.toNat i1 * 1)) = some (.int .u32 t2) ∧ (((!(t1 == t2)) = true → R false w2) ∧ ((!(t1 == t2)) = false → (I1 x1 (IntKind.wrap .i64 (i1 + 1)) w2 ∧ m1 x1 (IntKind.wrap .i64 (i1 + 1)) w2 < m1 x1 i1 w1)))))))) ∧ ((decide (i1 < (a1n : Int))) = false → R true w1))
set_option maxRecDepth 100000 in
theorem go_pomanderlaw12_sets (a1 : Option Addr) (a1n : Nat) (a1c : Nat) (b1 : Option Addr) (b1n : Nat) (b1c : Nat) (w : World) (R : Bool → World → Prop) (h : W_pomanderlaw12_sets a1 a1n a1c b1 b1n b1c w R) : Calls Tryz.prog 61 #[.slice a1 a1n a1c, .slice b1 b1n b1c] w (fun e w' => ∃ (r1 : Bool), e = .returned (.bool r1) ∧ R r1 w') := by
  unfold W_pomanderlaw12_sets at h
  refine enter (N := 26) Tryz.func61 rfl rfl ?_
  refine CW.seq ?_
  refine CW.region fun L hL => ?_
  refine LW.rd hL rfl (Wants.free rfl) rfl (Rd.assign (v := .bool false) rfl) ?_
  refine LW.nil hL rfl ?_
  refine NW.then ?_
  refine CW.seq ?_
  refine CW.seq ?_
  refine CW.region fun L hL => ?_
  refine LW.rd hL rfl (Wants.free rfl) rfl (Rd.move (v := .slice a1 a1n a1c) rfl) ?_
  refine LW.rd hL rfl (Wants.free rfl) rfl (Rd.builtin (v := .int .i64 (a1n : Int)) rfl (fun _ _ => by kernel_rfl)) ?_
  refine LW.rd hL rfl (Wants.free rfl) rfl (Rd.move (v := .slice b1 b1n b1c) rfl) ?_
  refine LW.rd hL rfl (Wants.free rfl) rfl (Rd.builtin (v := .int .i64 (b1n : Int)) rfl (fun _ _ => by kernel_rfl)) ?_
  refine LW.rd hL rfl (Wants.free rfl) rfl (Rd.bin (v := .bool (!((a1n : Int) == (b1n : Int)))) rfl rfl (fun w => by kernel_rfl)) ?_
  refine LW.nil hL rfl ?_
  refine NW.then ?_
  refine CW.cond rfl (fun hb1 => ?_) (fun hb1 => ?_)
  · replace h := h.1 hb1
    refine CW.seq ?_
    refine CW.region fun L hL => ?_
    refine LW.rd hL rfl (Wants.free rfl) rfl (Rd.assign (v := .bool false) rfl) ?_
    refine LW.nil hL rfl ?_
    refine NW.then ?_
    refine CW.ret ?_
    refine RW.then ?_
    exact res1 rfl rfl ⟨false, rfl, h⟩
  · replace h := h.2 hb1
    refine CW.skip ?_
    refine NW.then ?_
    refine CW.seq ?_
    refine CW.seq ?_
    refine CW.region fun L hL => ?_
    refine LW.rd hL rfl (Wants.free rfl) rfl (Rd.assign (v := .int .i64 0) rfl) ?_
    refine LW.nil hL rfl ?_
    refine NW.then ?_
    refine CW.block ?_
    obtain ⟨I1, m1, hI1, h⟩ := h
    refine CW.loop (S := Bool × Int) (fun s1 => [(0, .slice a1 a1n a1c), (1, .slice b1 b1n b1c), (4, .bool s1.1), (5, .int .i64 s1.2)]) (fun s1 w1 => I1 s1.1 s1.2 w1) (fun s1 w1 => m1 s1.1 s1.2 w1) (false, 0) (by exact ⟨rfl, rfl, rfl, rfl, trivial⟩) hI1 (fun s1 w1 hI1 => ?_)
    obtain ⟨x1, i1⟩ := s1; replace h := h x1 i1 w1 hI1
    refine CW.seq ?_
    refine CW.seq ?_
    refine CW.region fun L hL => ?_
    refine LW.rd hL rfl (Wants.free rfl) rfl (Rd.move (v := .int .i64 i1) rfl) ?_
    refine LW.rd hL rfl (Wants.free rfl) rfl (Rd.move (v := .slice a1 a1n a1c) rfl) ?_
    refine LW.rd hL rfl (Wants.free rfl) rfl (Rd.builtin (v := .int .i64 (a1n : Int)) rfl (fun _ _ => by kernel_rfl)) ?_
    refine LW.rd hL rfl (Wants.free rfl) rfl (Rd.bin (v := .bool (decide (i1 < (a1n : Int)))) rfl rfl (fun w => by kernel_rfl)) ?_
    refine LW.nil hL rfl ?_
    refine NW.then ?_
    refine CW.cond rfl (fun hb2 => ?_) (fun hb2 => ?_)
    · replace h := h.1 hb2
      refine CW.skip ?_
      refine NW.then ?_
      refine CW.seq ?_
      refine CW.block ?_
      refine CW.seq ?_
      obtain ⟨w2, hw_w2⟩ : ∃ x, x = World.drew w1 := ⟨_, rfl⟩
      have hc_w2 := sil_drew (Chg.refl [] w1) hw_w2
      refine CW.drawn (fun w => w = w2) 9 (by kernel_rfl) fun H hH => ?_
      rw [← hw_w2]
      refine HW.pure (i := 0) hH rfl (by kernel_rfl) (Wants.free rfl) rfl (fun _ => rfl) (Rd.move (v := .slice a1 a1n a1c) rfl) ?_
      refine HW.pure (i := 1) hH rfl (by kernel_rfl) (Wants.free rfl) rfl (fun _ => rfl) (Rd.move (v := .int .i64 i1) rfl) ?_
      obtain ⟨a2, he1, hi1, hi2, h⟩ := h
      refine HW.pure (i := 2) hH rfl (by kernel_rfl) (Wants.free rfl) rfl (fun _ => rfl) (Rd.iaS (q := a2) (sz := 1) (by rw [← he1]; rfl) rfl Tryz.underlying38 (by kernel_rfl) hi1 hi2) ?_
      replace h := h  w2  hc_w2
      obtain ⟨t1, hc1, h⟩ := h
      refine HW.take (i := 3) hH rfl (by kernel_rfl) (by kernel_rfl) (Wants.free rfl) rfl (fun _ => rfl) (Rd.ld (v := .int .u32 t1) rfl (by kernel_rfl) (eqs hc1)) ?_
      refine HW.pure (i := 4) hH rfl (by kernel_rfl) (Wants.free rfl) rfl (fun _ => rfl) (Rd.move (v := .slice b1 b1n b1c) rfl) ?_
      refine HW.pure (i := 5) hH rfl (by kernel_rfl) (Wants.free rfl) rfl (fun _ => rfl) (Rd.move (v := .int .i64 i1) rfl) ?_
      obtain ⟨a3, he2, hi3, hi4, h⟩ := h
      refine HW.pure (i := 6) hH rfl (by kernel_rfl) (Wants.free rfl) rfl (fun _ => rfl) (Rd.iaS (q := a3) (sz := 1) (by rw [← he2]; rfl) rfl Tryz.underlying38 (by kernel_rfl) hi3 hi4) ?_
      obtain ⟨t2, hc2, h⟩ := h
      refine HW.take (i := 7) hH rfl (by kernel_rfl) (by kernel_rfl) (Wants.free rfl) rfl (fun _ => rfl) (Rd.ld (v := .int .u32 t2) rfl (by kernel_rfl) (eqs hc2)) ?_
      refine HW.pure (i := 8) hH rfl (by kernel_rfl) (Wants.free rfl) rfl (fun _ => rfl) (Rd.bin (v := .bool (!(t1 == t2))) rfl rfl (fun w => by kernel_rfl)) ?_
      refine HW.done hH (by kernel_rfl) ?_
      refine NW.then ?_
      refine CW.cond rfl (fun hb3 => ?_) (fun hb3 => ?_)
      · replace h := h.1 hb3
        refine CW.seq ?_
        refine CW.region fun L hL => ?_
        refine LW.rd hL rfl (Wants.free rfl) rfl (Rd.assign (v := .bool false) rfl) ?_
        refine LW.nil hL rfl ?_
        refine NW.then ?_
        refine CW.ret ?_
        refine RW.block ?_
        refine RW.then ?_
        refine RW.then ?_
        refine RW.block ?_
        refine RW.then ?_
        exact res1 rfl rfl ⟨false, rfl, h⟩
      · replace h := h.2 hb3
        refine CW.skip ?_
        refine NW.block ?_
        refine NW.then ?_
        refine CW.region fun L hL => ?_
        refine LW.rd hL rfl (Wants.free rfl) rfl (Rd.move (v := .int .i64 i1) rfl) ?_
        refine LW.rd hL rfl (Wants.free rfl) rfl (Rd.bin (v := .int .i64 (IntKind.wrap .i64 (i1 + 1))) rfl rfl (fun w => by kernel_rfl)) ?_
        refine LW.rd hL rfl (Wants.free rfl) rfl (Rd.assign (v := .int .i64 (IntKind.wrap .i64 (i1 + 1))) rfl) ?_
        refine LW.nil hL rfl ?_
        exact NW.loop (S := Bool × Int) (Ek := fun s1 => [(0, .slice a1 a1n a1c), (1, .slice b1 b1n b1c), (4, .bool s1.1), (5, .int .i64 s1.2)]) (x1, IntKind.wrap .i64 (i1 + 1)) (by exact ⟨rfl, rfl, rfl, rfl, trivial⟩) h
    · replace h := h.2 hb2
      refine CW.exit ?_
      refine XW.then ?_
      refine XW.then ?_
      refine XW.hit ?_
      refine NW.then ?_
      refine CW.seq ?_
      refine CW.region fun L hL => ?_
      refine LW.rd hL rfl (Wants.free rfl) rfl (Rd.assign (v := .bool true) rfl) ?_
      refine LW.nil hL rfl ?_
      refine NW.then ?_
      refine CW.ret ?_
      exact res1 rfl rfl ⟨true, rfl, h⟩

/- (*pomander/labels.Table).All -/
def W_labels_Table_All (t1 : Option Addr) (w : World) (R : (Option Addr) → Nat → Nat → World → Prop) : Prop :=
  Calls Tryz.prog 77 #[.pointer t1] w fun e w1 => ∃ (r2 : Bool), e = .returned (.bool r2) ∧ ((r2 = true → R none 0 0 w1) ∧ (r2 = false → ∃ a1 : Addr, t1 = some a1 ∧ (∃ (t2 : Option Addr) (t2n : Nat) (t2c : Nat), w1.cell? (a1.add 1) = some (.slice t2 t2n t2c) ∧ (Calls Tryz.prog 78 #[.slice t2 t2n t2c] w1 fun e w2 => ∃ (r3 : Option Addr) (r3n : Nat) (r3c : Nat), e = .returned (.slice r3 r3n r3c) ∧ (R r3 r3n r3c w2)))))
set_option maxRecDepth 100000 in
theorem go_labels_Table_All (t1 : Option Addr) (w : World) (R : (Option Addr) → Nat → Nat → World → Prop) (h : W_labels_Table_All t1 w R) : Calls Tryz.prog 68 #[.pointer t1] w (fun e w' => ∃ (r1 : Option Addr) (r1n : Nat) (r1c : Nat), e = .returned (.slice r1 r1n r1c) ∧ R r1 r1n r1c w') := by
  unfold W_labels_Table_All at h
  refine enter (N := 10) Tryz.func68 rfl rfl ?_
  refine CW.seq ?_
  refine CW.region fun L hL => ?_
  refine LW.rd hL rfl (Wants.free rfl) rfl (Rd.assign (v := .slice none 0 0) rfl) ?_
  refine LW.nil hL rfl ?_
  refine NW.then ?_
  refine CW.seq ?_
  refine CW.seq ?_
  refine CW.region fun L hL => ?_
  refine LW.rd hL rfl (Wants.free rfl) rfl (Rd.move (v := .pointer t1) rfl) ?_
  refine LW.call hL rfl (Wants.free rfl) rfl (Cl.fn (f := 77) rfl Tryz.func77 (by kernel_rfl) rfl) h (fun e w1 h_ => ?_)
  clear h
  obtain ⟨r2, rfl, h⟩ := h_
  refine ⟨_, rfl, ?_⟩
  refine LW.nil hL rfl ?_
  refine NW.then ?_
  refine CW.cond rfl (fun hb1 => ?_) (fun hb1 => ?_)
  · replace h := h.1 hb1
    refine CW.seq ?_
    refine CW.region fun L hL => ?_
    refine LW.rd hL rfl (Wants.free rfl) rfl (Rd.assign (v := .slice none 0 0) rfl) ?_
    refine LW.nil hL rfl ?_
    refine NW.then ?_
    refine CW.ret ?_
    refine RW.then ?_
    exact res1 rfl rfl ⟨none, 0, 0, rfl, h⟩
  · replace h := h.2 hb1
    refine CW.skip ?_
    refine NW.then ?_
    refine CW.seq ?_
    refine CW.region fun L hL => ?_
    refine LW.rd hL rfl (Wants.free rfl) rfl (Rd.move (v := .pointer t1) rfl) ?_
    obtain ⟨a1, ha1, h⟩ := h
    refine LW.rd hL rfl (Wants.free rfl) rfl (Rd.nil (q := a1) (by rw [← ha1]; rfl)) ?_
    refine LW.rd hL rfl (Wants.free rfl) rfl (Rd.fa (v := .pointer (some (a1.add 1))) rfl (fun _ => by kernel_rfl)) ?_
    obtain ⟨t2, t2n, t2c, hc1, h⟩ := h
    refine LW.rd hL rfl (Wants.free rfl) rfl (Rd.ld (v := .slice t2 t2n t2c) rfl (by kernel_rfl) (eqs hc1)) ?_
    refine LW.call hL rfl (Wants.free rfl) rfl (Cl.fn (f := 78) rfl Tryz.func78 (by kernel_rfl) rfl) h (fun e w2 h_ => ?_)
    clear h
    obtain ⟨r3, r3n, r3c, rfl, h⟩ := h_
    refine ⟨_, rfl, ?_⟩
    refine LW.rd hL rfl (Wants.free rfl) rfl (Rd.assign (v := .slice r3 r3n r3c) rfl) ?_
    refine LW.nil hL rfl ?_
    refine NW.then ?_
    refine CW.ret ?_
    exact res1 rfl rfl ⟨r3, r3n, r3c, rfl, h⟩

/- (*pomander/flow.Flow).Sets -/
def W_flow_Flow_Sets (f1 : Option Addr) (w : World) (R : (Option Addr) → Nat → Nat → World → Prop) : Prop :=
  Calls Tryz.prog 43 #[.pointer f1] w fun e w1 => ∃ (r2 : Bool), e = .returned (.bool r2) ∧ ((r2 = true → R none 0 0 w1) ∧ (r2 = false → ∃ a1 : Addr, f1 = some a1 ∧ (∃ (t1 : Option Addr), w1.cell? (a1.add 2) = some (.pointer t1) ∧ (Calls Tryz.prog 68 #[.pointer t1] w1 fun e w2 => ∃ (r3 : Option Addr) (r3n : Nat) (r3c : Nat), e = .returned (.slice r3 r3n r3c) ∧ (R r3 r3n r3c w2)))))
set_option maxRecDepth 100000 in
theorem go_flow_Flow_Sets (f1 : Option Addr) (w : World) (R : (Option Addr) → Nat → Nat → World → Prop) (h : W_flow_Flow_Sets f1 w R) : Calls Tryz.prog 33 #[.pointer f1] w (fun e w' => ∃ (r1 : Option Addr) (r1n : Nat) (r1c : Nat), e = .returned (.slice r1 r1n r1c) ∧ R r1 r1n r1c w') := by
  unfold W_flow_Flow_Sets at h
  refine enter (N := 10) Tryz.func33 rfl rfl ?_
  refine CW.seq ?_
  refine CW.region fun L hL => ?_
  refine LW.rd hL rfl (Wants.free rfl) rfl (Rd.assign (v := .slice none 0 0) rfl) ?_
  refine LW.nil hL rfl ?_
  refine NW.then ?_
  refine CW.seq ?_
  refine CW.seq ?_
  refine CW.region fun L hL => ?_
  refine LW.rd hL rfl (Wants.free rfl) rfl (Rd.move (v := .pointer f1) rfl) ?_
  refine LW.call hL rfl (Wants.free rfl) rfl (Cl.fn (f := 43) rfl Tryz.func43 (by kernel_rfl) rfl) h (fun e w1 h_ => ?_)
  clear h
  obtain ⟨r2, rfl, h⟩ := h_
  refine ⟨_, rfl, ?_⟩
  refine LW.nil hL rfl ?_
  refine NW.then ?_
  refine CW.cond rfl (fun hb1 => ?_) (fun hb1 => ?_)
  · replace h := h.1 hb1
    refine CW.seq ?_
    refine CW.region fun L hL => ?_
    refine LW.rd hL rfl (Wants.free rfl) rfl (Rd.assign (v := .slice none 0 0) rfl) ?_
    refine LW.nil hL rfl ?_
    refine NW.then ?_
    refine CW.ret ?_
    refine RW.then ?_
    exact res1 rfl rfl ⟨none, 0, 0, rfl, h⟩
  · replace h := h.2 hb1
    refine CW.skip ?_
    refine NW.then ?_
    refine CW.seq ?_
    refine CW.region fun L hL => ?_
    refine LW.rd hL rfl (Wants.free rfl) rfl (Rd.move (v := .pointer f1) rfl) ?_
    obtain ⟨a1, ha1, h⟩ := h
    refine LW.rd hL rfl (Wants.free rfl) rfl (Rd.nil (q := a1) (by rw [← ha1]; rfl)) ?_
    refine LW.rd hL rfl (Wants.free rfl) rfl (Rd.fa (v := .pointer (some (a1.add 2))) rfl (fun _ => by kernel_rfl)) ?_
    obtain ⟨t1, hc1, h⟩ := h
    refine LW.rd hL rfl (Wants.free rfl) rfl (Rd.ld (v := .pointer t1) rfl (by kernel_rfl) (eqs hc1)) ?_
    refine LW.call hL rfl (Wants.free rfl) rfl (Cl.fn (f := 68) rfl Tryz.func68 (by kernel_rfl) rfl) h (fun e w2 h_ => ?_)
    clear h
    obtain ⟨r3, r3n, r3c, rfl, h⟩ := h_
    refine ⟨_, rfl, ?_⟩
    refine LW.rd hL rfl (Wants.free rfl) rfl (Rd.assign (v := .slice r3 r3n r3c) rfl) ?_
    refine LW.nil hL rfl ?_
    refine NW.then ?_
    refine CW.ret ?_
    exact res1 rfl rfl ⟨r3, r3n, r3c, rfl, h⟩

/- (*pomander/flow.Flow).Pages -/
def W_flow_Flow_Pages (f1 : Option Addr) (w : World) (R : Int → Int → World → Prop) : Prop :=
  Calls Tryz.prog 43 #[.pointer f1] w fun e w1 => ∃ (r3 : Bool), e = .returned (.bool r3) ∧ ((r3 = true → R 0 0 w1) ∧ (r3 = false → ∀ (w2 : World), Chg [] w1 w2 → (∃ a1 : Addr, f1 = some a1 ∧ (∃ (t1 : Option Addr), w2.cell? (a1.add 3) = some (.pointer t1) ∧ (∃ (t2 : Option Addr), w2.cell? (a1.add 4) = some (.pointer t2) ∧ (Calls Tryz.prog 74 #[.pointer t1] w2 fun e w3 => ∃ (r4 : Int), e = .returned (.int .i64 r4) ∧ ((w3.cell? (a1.add 3) = some (.pointer t1) ∧ w3.cell? (a1.add 4) = some (.pointer t2)) ∧ (Calls Tryz.prog 74 #[.pointer t2] w3 fun e w4 => ∃ (r5 : Int), e = .returned (.int .i64 r5) ∧ (R r4 r5 w4)))))))))
set_option maxRecDepth 100000 in
theorem go_flow_Flow_Pages (f1 : Option Addr) (w : World) (R : Int → Int → World → Prop) (h : W_flow_Flow_Pages f1 w R) : Calls Tryz.prog 36 #[.pointer f1] w (fun e w' => ∃ (r1 : Int) (r2 : Int), e = .returned (.tuple #[.int .i64 r1, .int .i64 r2]) ∧ R r1 r2 w') := by
  unfold W_flow_Flow_Pages at h
  refine enter (N := 16) Tryz.func36 rfl rfl ?_
  refine CW.seq ?_
  refine CW.region fun L hL => ?_
  refine LW.rd hL rfl (Wants.free rfl) rfl (Rd.assign (v := .int .i64 0) rfl) ?_
  refine LW.rd hL rfl (Wants.free rfl) rfl (Rd.assign (v := .int .i64 0) rfl) ?_
  refine LW.nil hL rfl ?_
  refine NW.then ?_
  refine CW.seq ?_
  refine CW.seq ?_
  refine CW.region fun L hL => ?_
  refine LW.rd hL rfl (Wants.free rfl) rfl (Rd.move (v := .pointer f1) rfl) ?_
  refine LW.call hL rfl (Wants.free rfl) rfl (Cl.fn (f := 43) rfl Tryz.func43 (by kernel_rfl) rfl) h (fun e w1 h_ => ?_)
  clear h
  obtain ⟨r3, rfl, h⟩ := h_
  refine ⟨_, rfl, ?_⟩
  refine LW.nil hL rfl ?_
  refine NW.then ?_
  refine CW.cond rfl (fun hb1 => ?_) (fun hb1 => ?_)
  · replace h := h.1 hb1
    refine CW.seq ?_
    refine CW.region fun L hL => ?_
    refine LW.rd hL rfl (Wants.free rfl) rfl (Rd.assign (v := .int .i64 0) rfl) ?_
    refine LW.rd hL rfl (Wants.free rfl) rfl (Rd.assign (v := .int .i64 0) rfl) ?_
    refine LW.nil hL rfl ?_
    refine NW.then ?_
    refine CW.ret ?_
    refine RW.then ?_
    exact res2 rfl rfl rfl ⟨0, 0, rfl, h⟩
  · replace h := h.2 hb1
    refine CW.skip ?_
    refine NW.then ?_
    refine CW.seq ?_
    obtain ⟨w2, hw_w2⟩ : ∃ x, x = World.drew w1 := ⟨_, rfl⟩
    have hc_w2 := sil_drew (Chg.refl [] w1) hw_w2
    replace h := h  w2  hc_w2
    obtain ⟨a1, ha1, h⟩ := h
    obtain ⟨t1, hc1, h⟩ := h
    obtain ⟨t2, hc2, h⟩ := h
    refine CW.drawn (fun w => w.cell? (a1.add 3) = some (.pointer t1) ∧ w.cell? (a1.add 4) = some (.pointer t2) ∧ True) 9 (by kernel_rfl) fun H hH => ?_
    rw [← hw_w2]
    have hS1 : w2.cell? (a1.add 3) = some (.pointer t1) ∧ w2.cell? (a1.add 4) = some (.pointer t2) ∧ True := ⟨hc1, hc2, trivial⟩
    refine HW.pure (i := 0) hH rfl (by kernel_rfl) (Wants.free rfl) rfl (fun _ => hS1) (Rd.move (v := .pointer f1) rfl) ?_
    refine HW.pure (i := 1) hH rfl (by kernel_rfl) (Wants.free rfl) rfl (fun _ => hS1) (Rd.nil (q := a1) (by rw [← ha1]; rfl)) ?_
    refine HW.pure (i := 2) hH rfl (by kernel_rfl) (Wants.free rfl) rfl (fun _ => hS1) (Rd.fa (v := .pointer (some (a1.add 3))) rfl (fun _ => by kernel_rfl)) ?_
    refine HW.take (i := 3) hH rfl (by kernel_rfl) (by kernel_rfl) (Wants.free rfl) rfl (fun _ => hS1) (Rd.ld (v := .pointer t1) rfl (by kernel_rfl) (fun w h => h.1)) ?_
    refine HW.pure (i := 5) hH rfl (by kernel_rfl) (Wants.free rfl) rfl (fun _ => hS1) (Rd.move (v := .pointer f1) rfl) ?_
    refine HW.pure (i := 6) hH rfl (by kernel_rfl) (Wants.free rfl) rfl (fun _ => hS1) (Rd.nil (q := a1) (by rw [← ha1]; rfl)) ?_
    refine HW.pure (i := 7) hH rfl (by kernel_rfl) (Wants.free rfl) rfl (fun _ => hS1) (Rd.fa (v := .pointer (some (a1.add 4))) rfl (fun _ => by kernel_rfl)) ?_
    refine HW.take (i := 8) hH rfl (by kernel_rfl) (by kernel_rfl) (Wants.free rfl) rfl (fun _ => hS1) (Rd.ld (v := .pointer t2) rfl (by kernel_rfl) (fun w h => h.2.1)) ?_
    refine HW.call (i := 4) hH (by kernel_rfl) rfl (Wants.free rfl) rfl (Cl.fn (f := 74) rfl Tryz.func74 (by kernel_rfl) rfl) h (fun e w3 h_ => ?_)
    clear h
    obtain ⟨r4, rfl, hS2, h⟩ := h_
    have hS3 := (⟨hS2.1, hS2.2, trivial⟩ : w3.cell? (a1.add 3) = some (.pointer t1) ∧ w3.cell? (a1.add 4) = some (.pointer t2) ∧ True)
    refine ⟨_, rfl, (fun _ => hS3), ?_⟩
    refine HW.call (i := 9) hH (by kernel_rfl) rfl (Wants.free rfl) rfl (Cl.fn (f := 74) rfl Tryz.func74 (by kernel_rfl) rfl) h (fun e w4 h_ => ?_)
    clear h
    obtain ⟨r5, rfl, h⟩ := h_
    refine ⟨_, rfl, (fun hc => by cases hc), ?_⟩
    refine HW.pure (i := 10) hH rfl (by kernel_rfl) (Wants.free rfl) rfl (fun hc => by cases hc) (Rd.assign (v := .int .i64 r4) rfl) ?_
    refine HW.pure (i := 11) hH rfl (by kernel_rfl) (Wants.free rfl) rfl (fun hc => by cases hc) (Rd.assign (v := .int .i64 r5) rfl) ?_
    refine HW.done hH (by kernel_rfl) ?_
    refine NW.then ?_
    refine CW.ret ?_
    exact res2 rfl rfl rfl ⟨r4, r5, rfl, h⟩

end Go.Proofs.YtfcfkhbkkfpehaaGreat
end

/- XFSame -/
section
/- Flows that are the same: slices.Equal, labels.Same, maps.Equal, flow.Same. -/
set_option linter.unusedVariables false
set_option linter.unusedSimpArgs false
namespace Go.Proofs.YtfcfkhbkkfpehaaGreat
open Go Go.RowKit Go.X Go.XR

theorem take_eq_of {α : Type} {xs ys : List α} {k : Nat} (h : xs.take k = ys.take k) {x y : α} (hx : xs[k]? = some x) (hy : ys[k]? = some y) : x = y ↔ xs.take (k + 1) = ys.take (k + 1) := by
  rw [take_snoc hx, take_snoc hy, h]
  simp

end Go.Proofs.YtfcfkhbkkfpehaaGreat
end

/- XPages -/
section
/- Pages of sets, the sets that are kept: the flow's, the document's. -/
set_option linter.unusedVariables false
set_option linter.unusedSimpArgs false
namespace Go.Proofs.YtfcfkhbkkfpehaaGreat
open Go Go.RowKit Go.X Go.XR

theorem law_sets {w : World} {e e' : TypeId} {p q : Option Addr} {n c m d : Nat} {xs ys : List Int} (h1 : RowAt w e 1 p n c (xs.map (Value.int .u32))) (h2 : RowAt w e' 1 q m d (ys.map (Value.int .u32))) (hn : n ≤ 1000000) :
    Calls Tryz.prog 61 #[.slice p n c, .slice q m d] w fun e w' => ∃ r : Bool, e = .returned (.bool r) ∧ (r = decide (xs = ys) ∧ Chg [] w w') := by
  have l1 := h1.length
  have l2 := h2.length
  simp at l1 l2
  refine go_pomanderlaw12_sets _ _ _ _ _ _ _ _ ?_
  unfold W_pomanderlaw12_sets
  refine ⟨fun hne => ⟨?_, Chg.refl _ _⟩, fun he => ?_⟩
  · symm; rw [decide_eq_false_iff_not]; intro e; subst e; simp at hne; omega
  have hnm : n = m := by simp at he; omega
  subst hnm
  refine ⟨fun _ j w' => ∃ k : Nat, j = k ∧ k ≤ n ∧ xs.take k = ys.take k ∧ Chg [] w w', fun _ j _ => n - j.toNat, ⟨0, rfl, Nat.zero_le _, rfl, Chg.refl _ _⟩, ?_⟩
  rintro x1 _ w1 ⟨k, rfl, hk, htk, c1⟩
  refine ⟨fun hlt => ?_, fun hge => ?_⟩
  · have hlt' : k < n := by have := of_decide_eq_true hlt; omega
    obtain ⟨x, hx⟩ := get_of (l := xs) (j := k) (by omega)
    obtain ⟨y, hy⟩ := get_of (l := ys) (j := k) (by omega)
    obtain ⟨a, rfl, ha⟩ := h1.at (j := k) (u := .int .u32 x) (by simp [hx])
    obtain ⟨b, rfl, hb⟩ := h2.at (j := k) (u := .int .u32 y) (by simp [hy])
    refine ⟨a, rfl, by omega, by omega, fun w2 c2 => ⟨x, ?_, b, rfl, by omega, by omega, y, ?_, fun hne => ⟨?_, c1.trans0 c2⟩, fun heq => ?_⟩⟩
    · simpa using (c1.trans0 c2).cell (by simp) ha
    · simpa using (c1.trans0 c2).cell (by simp) hb
    · symm; rw [decide_eq_false_iff_not]; intro e; subst e; rw [hx] at hy; cases hy; simp at hne
    · have hxy : x = y := by simpa using heq
      rw [wr (by omega) (by omega)]
      exact ⟨⟨k + 1, by omega, by omega, (take_eq_of htk hx hy).1 hxy, c1.trans0 c2⟩, by simp only []; omega⟩
  · have hge' : ¬ k < n := by have := of_decide_eq_false hge; omega
    refine ⟨?_, c1⟩
    rw [List.take_of_length_le (by omega), List.take_of_length_le (by omega)] at htk
    symm; rw [decide_eq_true_eq]; exact htk

theorem table_all {w : World} {b : Nat} {most : Int} {sets : List Int} {fp : List Nat} (h : TableAt w b most sets fp) :
    Calls Tryz.prog 68 #[.pointer (some ⟨b, 0, none⟩)] w fun e w' => ∃ (r : Option Addr) (rn rc : Nat), e = .returned (.slice r rn rc) ∧ (rn = sets.length ∧ RowAt w' 22 1 r rn rc (sets.map (.int .u32)) ∧ Chg [] w w' ∧ ∀ i ∈ rowB r, w.heap.size ≤ i) := by
  refine go_labels_Table_All _ _ _ ?_
  unfold W_labels_Table_All
  refine (table_none h).mono ?_
  rintro _ w1 ⟨_, rfl, rfl, hw⟩
  subst w1
  obtain ⟨p, c, r, j, clk, a1, a2, _⟩ := h.there
  refine ⟨_, rfl, fun h => by simp at h, fun _ => ⟨_, rfl, p, _, c, by rw [add_at, cell_of a1]; rfl, ?_⟩⟩
  have hl := h.few
  have hm := h.most2
  have hp : 0 < sets.length := List.length_pos_iff.2 h.some
  obtain ⟨a, rfl, _⟩ : ∃ a, p = some a ∧ True := by
    obtain ⟨x, hx⟩ := get_of (l := sets) hp
    obtain ⟨a, e, _⟩ := a2.at (j := 0) (u := .int .u32 x) (by simp [hx])
    exact ⟨a, e, trivial⟩
  refine (clone111 a2 (by omega)).mono ?_
  rintro _ w2 ⟨r3, rn, rc, rfl, rfl, hr, c2, hf⟩
  exact ⟨_, _, _, rfl, rfl, hr, c2, hf⟩

theorem flow_sets {w : World} {b : Nat} {F : Fl} {fp : List Nat} (h : FlowAt w b F fp) :
    Calls Tryz.prog 33 #[.pointer (some ⟨b, 0, none⟩)] w fun e w' => ∃ (r : Option Addr) (rn rc : Nat), e = .returned (.slice r rn rc) ∧ (rn = F.sets.length ∧ RowAt w' 22 1 r rn rc (F.sets.map (.int .u32)) ∧ Chg [] w w' ∧ ∀ i ∈ rowB r, w.heap.size ≤ i) := by
  refine go_flow_Flow_Sets _ _ _ ?_
  unfold W_flow_Flow_Sets
  refine (flow_none h).mono ?_
  rintro _ w1 ⟨_, rfl, rfl, hw⟩
  subst w1
  obtain ⟨T, m, d, r, l, fpT, fpm, fpd, gm, gd, h1, h2, _⟩ := h.there
  refine ⟨_, rfl, fun h => by simp at h, fun _ => ⟨_, rfl, _, by rw [add_at, cell_of h1]; rfl, ?_⟩⟩
  refine (table_all h2).mono ?_
  rintro _ w2 ⟨r3, rn, rc, rfl, h3⟩
  exact ⟨_, _, _, rfl, h3⟩

def pagesF (F : Fl) (k bound : Int) : Nat := pagesL (fun n => F.g (k, n)) bound bound.toNat
theorem flow_pages {w : World} {b : Nat} {F : Fl} {fp : List Nat} (h : FlowAt w b F fp) :
    Calls Tryz.prog 36 #[.pointer (some ⟨b, 0, none⟩)] w fun e w' => ∃ (r1 r2 : Int), e = .returned (.tuple #[.int .i64 r1, .int .i64 r2]) ∧ (r1 = pagesF F 10 F.fr ∧ r2 = pagesF F 12 F.se ∧ Chg [] w w') := by
  refine go_flow_Flow_Pages _ _ _ ?_
  unfold W_flow_Flow_Pages
  refine (flow_none h).mono ?_
  rintro _ w1 ⟨_, rfl, rfl, hw⟩
  subst w1
  refine ⟨_, rfl, fun h => by simp at h, fun _ w2 c2 => ?_⟩
  obtain ⟨T, m, d, r, l, fpT, fpm, fpd, gm, gd, h1, h2, h3, h4, h5, h6, h7, _⟩ := (h.chg c2 (by simp)).there
  refine ⟨_, rfl, _, by rw [add_at, cell_of h1]; rfl, _, by rw [add_at, cell_of h1]; rfl, ?_⟩
  refine (shadow_pages h3).mono ?_
  rintro _ w3 ⟨_, rfl, rfl, hw⟩
  subst w3
  refine ⟨_, rfl, ⟨by rw [add_at, cell_of h1]; rfl, by rw [add_at, cell_of h1]; rfl⟩, ?_⟩
  refine (shadow_pages h4).mono ?_
  rintro _ w4 ⟨_, rfl, rfl, hw⟩
  subst w4
  have e1 : gm = fun n => F.g (10, n) := funext fun n => (h6 n).symm
  have e2 : gd = fun n => F.g (12, n) := funext fun n => (h7 n).symm
  exact ⟨_, rfl, by rw [e1]; rfl, by rw [e2]; rfl, c2⟩

/-! ### The document's pages -/
def pageStep (k : Int) (s : Int × Int) (x : Pr) : Int × Int := if x.1.1 = k ∧ x.1.2 / 64 ≠ s.2 then (s.1 + 1, x.1.2 / 64) else s
def pageFold (k : Int) (l : List Pr) : Int × Int := l.foldl (pageStep k) (0, -1)
theorem pageFold_snoc (k : Int) (l : List Pr) (x : Pr) : pageFold k (l ++ [x]) = pageStep k (pageFold k l) x := by simp [pageFold]
def onPage (k : Int) (l : List Pr) (i : Nat) : Bool := l.any fun x => decide (x.1.1 = k ∧ x.1.2 / 64 = i)
theorem countP_new {n : Nat} {p q : Nat → Bool} {i : Nat} (hi : i < n) (hp : p i = false) (hq : q i = true) (h : ∀ j, j ≠ i → q j = p j) : (List.range n).countP q = (List.range n).countP p + 1 := by
  have := countP_set (l := List.range n) List.nodup_range (List.mem_range.2 hi) p q fun j hj => (h j hj).symm
  simp [hp, hq] at this
  omega
theorem page_inv {fr se : Int} {k K : Int} (hK : ∀ q, mayP fr se q → q.1 = k → q.2 < 64 * K) : ∀ (n : Nat) (l : List Pr), l.length = n → Good fr se l →
    (pageFold k l).1 = ((List.range K.toNat).countP (onPage k l) : Nat) ∧ (∀ x ∈ l, x.1.1 = k → x.1.2 / 64 ≤ (pageFold k l).2) ∧ ((pageFold k l).2 = -1 ∨ ∃ x ∈ l, x.1.1 = k ∧ x.1.2 / 64 = (pageFold k l).2)
  | 0, l, hl, _ => by
    obtain rfl := List.eq_nil_of_length_eq_zero hl
    refine ⟨?_, by simp, .inl rfl⟩
    have : (List.range K.toNat).countP (onPage k []) = 0 := List.countP_eq_zero.2 (by simp [onPage])
    rw [this]; rfl
  | n + 1, l, hl, hg => by
    have hne : l ≠ [] := fun e => by subst e; simp at hl
    obtain ⟨l', x, rfl⟩ : ∃ l' x, l = l' ++ [x] := ⟨l.dropLast, l.getLast hne, (List.dropLast_concat_getLast hne).symm⟩
    have hr := hg.rise
    rw [List.map_append, List.pairwise_append] at hr
    have hg' : Good fr se l' := ⟨hr.1, fun y hy => hg.each y (by simp [hy])⟩
    obtain ⟨i1, i2, i3⟩ := page_inv hK n l' (by simpa using hl) hg'
    have hx := hg.each x (by simp)
    have hbe : ∀ y ∈ l', aheadP y.1 x.1 := fun y hy => hr.2.2 y.1 (List.mem_map.2 ⟨y, hy, rfl⟩) x.1 (by simp)
    rw [pageFold_snoc]
    unfold pageStep
    by_cases hk : x.1.1 = k
    · have h0 := hx.2.2.2.1
      have hb := hK x.1 hx.2 hk
      have hle : (pageFold k l').2 ≤ x.1.2 / 64 := by
        rcases i3 with e | ⟨y, hy, hyk, e⟩
        · omega
        · have := hbe y hy
          unfold aheadP at this
          omega
      by_cases hp : x.1.2 / 64 = (pageFold k l').2
      · rw [if_neg (fun h => h.2 hp)]
        refine ⟨?_, fun y hy hyk => ?_, .inr ⟨x, by simp, hk, hp⟩⟩
        · rw [i1]
          congr 1
          refine List.countP_congr fun i _ => ?_
          rcases i3 with e | ⟨y, hy, hyk, e⟩
          · omega
          · simp only [onPage, List.any_append, List.any_cons, List.any_nil, Bool.or_false, Bool.or_eq_true, decide_eq_true_eq]
            constructor
            · exact .inl
            · rintro (h | h)
              · exact h
              · rw [List.any_eq_true]; exact ⟨y, hy, by rw [decide_eq_true_eq]; exact ⟨hyk, by omega⟩⟩
        · rcases List.mem_append.1 hy with hy | hy
          · exact i2 y hy hyk
          · simp at hy; subst hy; omega
      · rw [if_pos ⟨hk, hp⟩]
        refine ⟨?_, fun y hy hyk => ?_, .inr ⟨x, by simp, hk, rfl⟩⟩
        · rw [i1, countP_new (p := onPage k l') (q := onPage k (l' ++ [x])) (i := (x.1.2 / 64).toNat) (by omega) ?_ ?_ ?_]
          · simp only []; omega
          · cases hq : onPage k l' (x.1.2 / 64).toNat with
            | false => rfl
            | true =>
              unfold onPage at hq
              rw [List.any_eq_true] at hq
              obtain ⟨y, hy, e⟩ := hq
              rw [decide_eq_true_eq] at e
              have := i2 y hy e.1
              omega
          · simp only [onPage, List.any_append, List.any_cons, List.any_nil, Bool.or_false, Bool.or_eq_true, decide_eq_true_eq]
            exact .inr ⟨hk, by omega⟩
          · intro j hj
            simp only [onPage, List.any_append, List.any_cons, List.any_nil, Bool.or_false]
            have : decide (x.1.1 = k ∧ x.1.2 / 64 = (j : Int)) = false := by rw [decide_eq_false_iff_not]; omega
            rw [this, Bool.or_false]
        · rcases List.mem_append.1 hy with hy | hy
          · have := i2 y hy hyk; simp only []; omega
          · simp at hy; subst hy; exact Int.le_refl _
    · rw [if_neg (fun h => hk h.1)]
      refine ⟨?_, fun y hy hyk => ?_, ?_⟩
      · rw [i1]
        congr 1
        refine List.countP_congr fun i _ => ?_
        simp [onPage, hk]
      · rcases List.mem_append.1 hy with hy | hy
        · exact i2 y hy hyk
        · simp at hy; subst hy; exact absurd hyk hk
      · rcases i3 with e | ⟨y, hy, h⟩
        · exact .inl e
        · exact .inr ⟨y, by simp [hy], h⟩
theorem onPage_priv {fr se : Int} {l : List Pr} (hg : Good fr se l) {k K : Int} (hK : ∀ q, mayP fr se q → q.1 = k → q.2 < 64 * K) (i : Nat) (hi : i < K.toNat) :
    onPage k l i = privL (fun n => lookPr l (k, n)) K i := by
  rw [Bool.eq_iff_iff]
  unfold onPage privL
  rw [List.any_eq_true, decide_eq_true_eq]
  constructor
  · rintro ⟨x, hx, e⟩
    rw [decide_eq_true_eq] at e
    obtain ⟨e1, e2⟩ := e
    have hm := hg.each x hx
    refine ⟨by omega, by omega, many_pos (i := (x.1.2 % 64).toNat) (by omega) ?_⟩
    unfold pg
    have : (64 * (i : Int) + ((x.1.2 % 64).toNat : Nat) : Int) = x.1.2 := by omega
    rw [this]
    have hkx : (k, x.1.2) = x.1 := Prod.ext e1.symm rfl
    show lookPr l (k, x.1.2) ≠ 0
    rw [hkx]
    exact (hg.look x.1).1 (List.mem_map.2 ⟨x, hx, rfl⟩)
  · rintro ⟨_, _, h⟩
    unfold many at h
    obtain ⟨j, hj, hne⟩ := List.countP_pos_iff.1 h
    have hj' := List.mem_range.1 hj
    have hne' : lookPr l (k, 64 * (i : Int) + (j : Int)) ≠ 0 := by simpa [pg] using hne
    obtain ⟨x, hx, e⟩ := List.mem_map.1 ((hg.look _).2 hne')
    refine ⟨x, hx, ?_⟩
    rw [decide_eq_true_eq, e]
    exact ⟨rfl, by simp only []; omega⟩
theorem pageFold_eq {fr se : Int} {l : List Pr} (hg : Good fr se l) {k K : Int} (hK : ∀ q, mayP fr se q → q.1 = k → q.2 < 64 * K) : (pageFold k l).1 = (pagesL (fun n => lookPr l (k, n)) K K.toNat : Nat) := by
  rw [(page_inv hK _ l rfl hg).1]
  congr 1
  unfold pagesL
  exact List.countP_congr fun i hi => by rw [onPage_priv hg hK i (List.mem_range.1 hi)]
theorem mayP_10 {fr se : Int} (q : Int × Int) (h : mayP fr se q) (hk : q.1 = 10) : q.2 < 64 * fr := by
  have := h.2.2.2; rw [hk] at this; simpa [boundP] using this
theorem mayP_12 {fr se : Int} (q : Int × Int) (h : mayP fr se q) (hk : q.1 = 12) : q.2 < 64 * se := by
  have := h.2.2.2; rw [hk] at this; simpa [boundP] using this

theorem ref_pages {w : World} {R : Rf} {p4 p5 : Option Addr} {n4 c4 n5 c5 : Nat} (h : RefAt w R p4 n4 c4 p5 n5 c5) (hn : n5 ≤ 100000000) (hw : R.fr ≤ 32 ∧ R.se ≤ 32) (hg : Good R.fr R.se R.pairs) (k : Int) :
    Calls Tryz.prog 60 #[.agg #[.int .i64 R.fr, .int .i64 R.se, .int .i64 R.most, .slice p4 n4 c4, .slice p5 n5 c5], .int .i64 k] w fun e w' => ∃ r : Int, e = .returned (.int .i64 r) ∧ (r = (pageFold k R.pairs).1 ∧ Chg [] w w') := by
  have hl := h.n5
  refine go_pomanderref12_Flow_Pages _ _ _ _ _ _ _ _ _ _ _ _ ?_
  unfold W_pomanderref12_Flow_Pages
  intro b1 w1 _ c1
  refine ⟨fun n last i w' => ∃ j : Nat, i = j ∧ j ≤ n5 ∧ (n, last) = pageFold k (R.pairs.take j) ∧ n ≤ j ∧ 0 ≤ n ∧ Chg [] w w', fun _ _ i _ => n5 - i.toNat, ⟨0, rfl, Nat.zero_le _, rfl, by omega, by omega, c1⟩, ?_⟩
  rintro n last _ w2 ⟨j, rfl, hj, hf, hnj, hn0, c2⟩
  refine ⟨fun hlt => ?_, fun hge => ?_⟩
  · have hlt' : j < n5 := by have := of_decide_eq_true hlt; omega
    obtain ⟨x, hx⟩ := get_of (l := R.pairs) (j := j) (by omega)
    obtain ⟨a, rfl, hc⟩ := RowAt.elem (size := 3) (enc := encPr) (fun _ => rfl) h.pairs hx (by omega)
    refine ⟨fun n' last' w' => (n', last') = pageFold k (R.pairs.take (j + 1)) ∧ n' ≤ j + 1 ∧ 0 ≤ n' ∧ Chg [] w w', ?_, a, rfl, by omega, by omega, x.1.1, x.1.2, ?_, fun b2 w5 _ c5 => ?_⟩
    · rintro n' last' w3 ⟨k1, k2, k3, k4⟩
      rw [wr (by omega) (by omega)]
      exact ⟨⟨j + 1, by omega, by omega, k1, by omega, k3, k4⟩, by simp only []; omega⟩
    · have := c2.cells (by simp) hc
      rw [show Int.toNat (j : Int) = j by omega]
      exact ⟨this.1, this.2.1, trivial⟩
    · have hm := hg.each x (List.mem_of_getElem? hx)
      have h0 : 0 ≤ x.1.2 := hm.2.2.2.1
      have hb : x.1.2 ≤ 9223372036854775807 := by
        have h1 := hm.2.2.2.2
        have h2 : boundP R.fr R.se x.1.1 ≤ 9223372036854775807 := by
          have := hg
          unfold boundP
          repeat' split
          all_goals omega
        omega
      have hd : IntKind.wrap .i64 (Int.tdiv x.1.2 64) = x.1.2 / 64 := by rw [Int.tdiv_eq_ediv_of_nonneg h0, wr (by omega) (by omega)]
      rw [hd]
      have hs : pageFold k (R.pairs.take (j + 1)) = pageStep k (n, last) x := by rw [take_snoc hx, pageFold_snoc, ← hf]
      refine ⟨fun b w' => b = decide (x.1.1 = k ∧ x.1.2 / 64 ≠ last) ∧ Chg [] w w', ?_, fun he => ?_, fun he => ?_⟩
      · rintro b w6 ⟨rfl, c6⟩
        refine ⟨fun ht => ?_, fun hf' => ?_⟩
        · have ht' := of_decide_eq_true ht
          rw [wr (by omega) (by omega), hs]
          unfold pageStep
          rw [if_pos ht']
          exact ⟨rfl, by omega, by omega, c6⟩
        · have hf'' := of_decide_eq_false hf'
          rw [hs]
          unfold pageStep
          rw [if_neg hf'']
          exact ⟨rfl, by omega, by omega, c6⟩
      · have he' : x.1.1 = k := by simpa using he
        refine ⟨?_, c2.trans0 c5⟩
        by_cases hl : x.1.2 / 64 = last <;> simp [he', hl]
      · have he' : x.1.1 ≠ k := by simpa using he
        exact ⟨by simp [he'], c2.trans0 c5⟩
  · have hge' : ¬ j < n5 := by have := of_decide_eq_false hge; omega
    rw [List.take_of_length_le (by omega)] at hf
    exact ⟨by rw [← hf], c2⟩
end Go.Proofs.YtfcfkhbkkfpehaaGreat
end

/- XMisc -/
section
/- Small lemmas of several laws. -/
set_option linter.unusedVariables false
set_option linter.unusedSimpArgs false
set_option maxRecDepth 100000
namespace Go.Proofs.YtfcfkhbkkfpehaaGreat
open Go Go.RowKit Go.X

theorem func_ne_nil130 (f : Nat) (lb : Array Value) (x y : Operand) (w : World) : ((do eqGuard .eql 88 x y (.func (.func f) #[] lb) .nilFunc; binOp .eql 88 (.func (.func f) #[] lb) .nilFunc : Sem Value)).run Tryz.prog w = .ok (.bool false) w := by
  simp only [binOp]
  have e : (Op.equalIn Op.maxDepth 88 (.func (.func f) #[] lb) .nilFunc).run Tryz.prog w = .ok false w := by
    rw [show Op.maxDepth = 9999 + 1 from rfl]
    unfold Op.equalIn
    simp [run_underlying Tryz.underlying88, Result.andThen, go_sem]
  simp [eqGuard, Op.equal, e, run_underlying Tryz.underlying88, Result.andThen, go_sem]
end Go.Proofs.YtfcfkhbkkfpehaaGreat
end

/- XSame12 -/
section
/- The law's helper same: a flow has just the document's sets. -/
set_option linter.unusedVariables false
set_option linter.unusedSimpArgs false
set_option maxRecDepth 100000
namespace Go.Proofs.YtfcfkhbkkfpehaaGreat
open Go Go.RowKit Go.X Go.XR

theorem good_full {F : Fl} {R : Rf} (hrel : RelF F R) (hg : Good R.fr R.se R.pairs) {ys : List (Int × Int)} (hf : fullF F ys) : R.pairs = ys.map fun p => (p, F.g p) := by
  have hk : R.pairs.map Prod.fst = ys := by
    refine eq_of_rising hg.rise (hf.1.imp fun h => h) fun p => ?_
    rw [hf.2, hg.look, hrel.look]
    refine ⟨fun h => ⟨h, ?_⟩, fun h => h.1⟩
    have hm : p ∈ R.pairs.map Prod.fst := by rw [hg.look, hrel.look]; exact h
    obtain ⟨x, hx, rfl⟩ := List.mem_map.1 hm
    have := (hg.each x hx).2
    rwa [hrel.fr, hrel.se] at this
  have := hg.eq
  rw [hk] at this
  rw [this]
  exact List.map_congr_left fun p _ => by rw [hrel.look]

theorem same12 {w : World} {b : Nat} {F : Fl} {fp : List Nat} (hF : FlowAt w b F fp) {R : Rf} {p4 p5 : Option Addr} {n4 c4 n5 c5 : Nat} (hR : RefAt w R p4 n4 c4 p5 n5 c5) (hrel : RelF F R) (hg : Good R.fr R.se R.pairs) (hn : n5 ≤ 100000000) :
    Calls Tryz.prog 29 #[.pointer (some ⟨b, 0, none⟩), .agg #[.int .i64 R.fr, .int .i64 R.se, .int .i64 R.most, .slice p4 n4 c4, .slice p5 n5 c5]] w fun e w' => ∃ r : Bool, e = .returned (.bool r) ∧ (r = true ∧ Chg [] w w') := by
  have hwide := hF.wide
  have hl5 := hR.n5
  have hl4 := hR.n4
  have hK : ∀ q, mayP R.fr R.se q → q.1 = 10 → q.2 < 64 * R.fr := mayP_10
  refine go_pomanderlaw12_same _ _ _ _ _ _ _ _ _ _ _ _ ?_
  unfold W_pomanderlaw12_same
  rintro b3 b2 b1 w4 ⟨i3, j3⟩ ⟨i2, j2⟩ ⟨i1, j1⟩ c4'
  have s4 := c4'.size
  have N : ∀ {A B : World}, w4.heap.size ≤ A.heap.size → Chg [] A B → Same A B [b3, b2, b1] := fun h hc => Same.chg hc (by simp; omega)
  have hF4 := hF.chg c4' (by simp)
  refine (flow_all hF4).mono ?_
  rintro _ w5 ⟨_, rfl, cb0, _, _, rfl, _, _, c5', _⟩
  have s5 := c5'.size
  refine ⟨_, rfl, N (by omega) c5', false, fun w => func_ne_nil130 _ _ _ _ w, fun h => by simp at h, fun _ => ?_⟩
  refine (flow_all (hF4.chg c5' (by simp))).mono ?_
  rintro _ w7 ⟨_, rfl, cb, m, L, rfl, hcb, hAll, c7, hcbn, hmn⟩
  have s7 := c7.size
  have l1' := lt_of_heap hcb
  have l2' := hAll.map.lt
  refine ⟨_, rfl, N (by omega) c7, _, _, _, isFn100 cb, iterates_flow hcb hAll (by omega) (by omega), by simp; exact ⟨l1', l2'⟩, ?_⟩
  have c07 : Chg [] w w7 := (c4'.trans0 c5').trans0 c7
  have s07 := c07.size
  refine ⟨fun c O pre w' => c = pre.length ∧ Chg [] w w' ∧ w7.heap.size ≤ w'.heap.size, fun _ _ _ _ _ => False, ?_, ?_, ?_, ?_, ?_, ?_⟩
  · rintro c pre O O' A B ⟨k1, k2, k3⟩ hO hc hO' hgr
    exact ⟨k1, k2.trans hc (fun i hi hlt => by have := (hO i hi).1; omega), Nat.le_trans k3 hc.size⟩
  · rintro _ _ _ _ _ _ _ hf; exact hf.elim
  · intro O w8 c8 hO; exact ⟨rfl, c07.trans0 c8, c8.size⟩
  · rintro l1 O pre x1 x2 x3 c w8 hO hl1 ⟨ys, suf, hfull, hsuf⟩ ⟨rfl, k2, k3⟩ b4 w11 ⟨q1, q2⟩ c11 w12 c12
    have hl1' := hO l1 hl1
    have s11 := c11.size
    have s12 := c12.size
    have hpairs := good_full hrel hg hfull
    have hx : R.pairs[pre.length]? = some ((x1, x2), x3) := by
      have h1 : (ys.map (tell F))[pre.length]? = some (x1, x2, x3) := by rw [← hsuf]; simp
      rw [List.getElem?_map] at h1
      rw [hpairs, List.getElem?_map]
      cases hy : ys[pre.length]? with
      | none => rw [hy] at h1; cases h1
      | some y => rw [hy] at h1; simp [tell] at h1; simp [h1.1, h1.2.1, ← h1.2.2]; exact Prod.ext h1.1 h1.2.1
    have hlen := (List.getElem?_eq_some_iff.1 hx).1
    obtain ⟨a, rfl, hc⟩ := RowAt.elem (size := 3) (enc := encPr) (fun _ => rfl) hR.pairs hx (by omega)
    have c0w12 : Chg [] w w12 := (k2.trans c11 (fun i hi hlt => by simp at hi; omega)).trans0 c12
    have hc12 := c0w12.cells (by simp) hc
    refine ⟨fun bb w' => bb = false ∧ w' = w12, ?_, fun _ => ⟨a, rfl, by omega, by omega, x1, x2, ?_, ?_, rfl⟩, fun h => ?_⟩
    · rintro _ w13 ⟨rfl, hw⟩
      subst w13
      refine ⟨fun bb w' => bb = false ∧ w' = w12, ?_, fun _ => ⟨a, rfl, by omega, by omega, x3, ?_, ?_, rfl⟩, fun h => by simp at h⟩
      · rintro _ w14 ⟨rfl, hw⟩
        subst w14
        refine ⟨fun h => by simp at h, fun _ w16 c16 => ?_⟩
        have s16 := c16.size
        rw [wr (by omega) (by omega)]
        refine ⟨by omega, ⟨by simp, c0w12.trans c16 (fun i hi hlt => by simp at hi; omega), by omega⟩, ?_⟩
        refine Same.of (f := [b3]) (c12.nil.trans c16 (fun _ h _ => h)) fun i hi => ?_
        rcases List.mem_append.1 hi with h | h
        · simp at h
          exact ⟨by rcases h with e | e <;> subst e <;> omega, by simp; rcases h with e | e <;> subst e <;> omega⟩
        · have := hO i h
          exact ⟨by omega, by simp; omega⟩
      · have := hc12.2.2.1; rw [show Int.toNat (pre.length : Int) = pre.length by omega]; exact this
      · simp
    · rw [show Int.toNat (pre.length : Int) = pre.length by omega]; exact ⟨hc12.1, hc12.2.1, trivial⟩
    · simp
    · have := of_decide_eq_true h; omega
  · rintro d1 O xs c w17 hO hd ⟨ys, hfull, rfl⟩ ⟨rfl, k2, k3⟩
    have hd' := hO d1 hd
    have hpairs := good_full hrel hg hfull
    have hlen : R.pairs.length = ys.length := by rw [hpairs]; simp
    have N2 : ∀ {A B : World}, w17.heap.size ≤ A.heap.size → Chg [] A B → Same A B [b1, b2, b3, d1] := fun h hc => Same.chg hc (by simp; omega)
    refine (flow_pages (hF.chg k2 (by simp))).mono ?_
    rintro _ w18 ⟨r4, r5, rfl, e4, e5, c18⟩
    have s18 := c18.size
    refine ⟨_, _, rfl, N2 (Nat.le_refl _) c18, fun w19 c19 => ?_⟩
    have s19 := c19.size
    have c019 : Chg [] w w19 := (k2.trans0 c18).trans0 c19
    have hgp : ∀ (kk K : Int), (∀ q, mayP R.fr R.se q → q.1 = kk → q.2 < 64 * K) → (pageFold kk R.pairs).1 = pagesF F kk K := fun kk K hKK => by
      rw [pageFold_eq hg hKK]
      unfold pagesF
      congr 2
      funext n
      exact hrel.look _
    refine ⟨fun bb w' => bb = true ∧ Chg [] w w' ∧ w17.heap.size ≤ w'.heap.size, ?_, fun _ => ?_, fun h => ?_⟩
    · rintro _ w20 ⟨rfl, c20, s20⟩
      refine ⟨fun bb w' => bb = true ∧ Chg [] w w' ∧ w17.heap.size ≤ w'.heap.size, ?_, fun _ => ?_, fun h => by simp at h⟩
      · rintro _ w22 ⟨rfl, c22, s22⟩
        refine ⟨fun bb w' => bb = true ∧ Chg [] w w' ∧ w17.heap.size ≤ w'.heap.size, ?_, fun _ => ?_, fun h => by simp at h⟩
        · rintro _ w24 ⟨rfl, c24, s24⟩ w27 c27 w28 c28
          exact ⟨rfl, (c24.trans c27 (fun i hi hlt => by simp at hi; omega)).trans c28 (fun i hi hlt => by simp at hi; omega)⟩
        · refine (flow_sets (hF.chg c22 (by simp))).mono ?_
          rintro _ w25 ⟨r, rn, rc, rfl, rfl, hrow, c25, _⟩
          have s25 := c25.size
          refine ⟨_, _, _, rfl, N2 (by omega) c25, ?_⟩
          have hfew : F.sets.length ≤ 1000000 := by
            obtain ⟨T, m, d, r, l, fpT, fpm, fpd, gm, gd, h1, h2, _⟩ := hF.there
            have h3 := h2.few; have h4 := h2.most2; omega
          refine (law_sets hrow (((hR.sets.chg c22 (by simp)).chg c25 (by simp))) (by omega)).mono ?_
          rintro _ w26 ⟨_, rfl, rfl, c26⟩
          have s26 := c26.size
          exact ⟨_, rfl, N2 (by omega) c26, by simp [hrel.sets], (c22.trans0 c25).trans0 c26, by omega⟩
      · refine (ref_pages (hR.chg c20 (by simp) (by simp)) hn ⟨by rw [hrel.fr]; omega, by rw [hrel.se]; omega⟩ hg 12).mono ?_
        rintro _ w23 ⟨_, rfl, rfl, c23⟩
        have s23 := c23.size
        refine ⟨_, rfl, N2 (by omega) c23, ?_, c20.trans0 c23, by omega⟩
        rw [e5, hgp 12 F.se (by rw [← hrel.se]; exact mayP_12)]; simp
    · refine (ref_pages (hR.chg c019 (by simp) (by simp)) hn ⟨by rw [hrel.fr]; omega, by rw [hrel.se]; omega⟩ hg 10).mono ?_
      rintro _ w21 ⟨_, rfl, rfl, c21⟩
      have s21 := c21.size
      refine ⟨_, rfl, N2 (by omega) c21, ?_, c019.trans0 c21, by omega⟩
      rw [e4, hgp 10 F.fr (by rw [← hrel.fr]; exact mayP_10)]; simp
    · exfalso
      simp at h
      omega
  · rintro _ _ _ _ _ _ _ _ _ hf; exact hf.elim
end Go.Proofs.YtfcfkhbkkfpehaaGreat
end

/- XLoop12 -/
section
/- A law's loop over acts: a flow and the document's, step by step. -/
set_option linter.unusedVariables false
set_option linter.unusedSimpArgs false
set_option maxRecDepth 100000
namespace Go.Proofs.YtfcfkhbkkfpehaaGreat
open Go Go.RowKit Go.X Go.XR

theorem ref_right {w : World} (fr se most : Int) :
    Calls Tryz.prog 27 #[.agg #[.int .i64 fr, .int .i64 se], .int .i64 most] w fun e w' => ∃ r : Bool, e = .returned (.bool r) ∧ (r = decide (rightP fr se most) ∧ Chg [] w w') := by
  refine go_pomanderref12_Right _ _ _ _ _ ?_
  unfold W_pomanderref12_Right
  intro b1 w1 _ c1
  refine ⟨fun b w' => b = decide (1 ≤ fr ∧ fr ≤ 32) ∧ Chg [] w w', ?_, fun h => ⟨?_, c1⟩, fun h => ⟨?_, c1⟩⟩
  · rintro _ w2 ⟨rfl, c2⟩
    refine ⟨fun b w' => b = decide (1 ≤ fr ∧ fr ≤ 32 ∧ 1 ≤ se) ∧ Chg [] w w', ?_, fun h => ⟨?_, c2⟩, fun h => ⟨?_, c2⟩⟩
    · rintro _ w3 ⟨rfl, c3⟩
      refine ⟨fun b w' => b = decide (1 ≤ fr ∧ fr ≤ 32 ∧ 1 ≤ se ∧ se ≤ 32) ∧ Chg [] w w', ?_, fun h => ⟨?_, c3⟩, fun h => ⟨?_, c3⟩⟩
      · rintro _ w4 ⟨rfl, c4⟩
        refine ⟨?_, c4⟩
        rw [← Bool.decide_and, ← Bool.decide_and]
        exact decide_eq_decide.2 (by unfold rightP; omega)
      · have := of_decide_eq_true h; exact decide_eq_decide.2 (by omega)
      · have := of_decide_eq_false h; symm; rw [decide_eq_false_iff_not]; omega
    · have := of_decide_eq_true h; exact decide_eq_decide.2 (by omega)
    · have := of_decide_eq_false h; symm; rw [decide_eq_false_iff_not]; omega
  · have := of_decide_eq_true h; exact decide_eq_decide.2 (by omega)
  · have := of_decide_eq_false h; symm; rw [decide_eq_false_iff_not]; omega

/-- Both flows in the midst of a law: nothing older is touched; B are blocks of the law's own. -/
structure LoopAt (w0 w : World) (B : List Nat) (bf : Nat) (F : Fl) (R : Rf) (p4 : Option Addr) (n4 c4 : Nat) (p5 : Option Addr) (n5 c5 : Nat) (fp : List Nat) : Prop where
  flow : FlowAt w bf F fp
  ref : RefAt w R p4 n4 c4 p5 n5 c5
  rel : RelF F R
  good : Good R.fr R.se R.pairs
  chg : Chg [] w0 w
  fresh : ∀ i ∈ fp, w0.heap.size ≤ i
  freshR : ∀ i ∈ rowB p4 ++ rowB p5, w0.heap.size ≤ i
  rows : ∀ i ∈ rowB p4 ++ rowB p5, i ∉ fp
  own : ∀ b ∈ B, b < w.heap.size ∧ b ∉ fp ∧ b ∉ rowB p4 ++ rowB p5
section
variable {w0 w w' : World} {B : List Nat} {bf : Nat} {F : Fl} {R : Rf} {p4 p5 : Option Addr} {n4 c4 n5 c5 : Nat} {fp : List Nat}
theorem LoopAt.rlt (h : LoopAt w0 w B bf F R p4 n4 c4 p5 n5 c5 fp) : ∀ i ∈ rowB p4 ++ rowB p5, i < w.heap.size := fun i hi => (List.mem_append.1 hi).elim (h.ref.sets.lt i) (h.ref.pairs.lt i)
theorem LoopAt.later (h : LoopAt w0 w B bf F R p4 n4 c4 p5 n5 c5 fp) (hc : Chg [] w w') : LoopAt w0 w' B bf F R p4 n4 c4 p5 n5 c5 fp :=
  ⟨h.flow.chg hc (by simp), h.ref.chg hc (by simp) (by simp), h.rel, h.good, h.chg.trans0 hc, h.fresh, h.freshR, h.rows, fun b hb => let ⟨a, b, c⟩ := h.own b hb; ⟨Nat.lt_of_lt_of_le a hc.size, b, c⟩⟩
theorem LoopAt.put (h : LoopAt w0 w B bf F R p4 n4 c4 p5 n5 c5 fp) {b : Nat} (hb : b ∈ B) (h0 : w0.heap.size ≤ b) (hc : Chg [b] w w') : LoopAt w0 w' B bf F R p4 n4 c4 p5 n5 c5 fp := by
  obtain ⟨_, k2, k3⟩ := h.own b hb
  refine ⟨h.flow.chg hc (fun i hi hm => by simp at hm; exact k2 (hm ▸ hi)), h.ref.chg hc (fun i hi hm => by simp at hm; exact k3 (hm ▸ List.mem_append_left _ hi)) (fun i hi hm => by simp at hm; exact k3 (hm ▸ List.mem_append_right _ hi)), h.rel, h.good, h.chg.trans hc (fun i hi hlt => by simp at hi; omega), h.fresh, h.freshR, h.rows, fun x hx => let ⟨a, b, c⟩ := h.own x hx; ⟨Nat.lt_of_lt_of_le a hc.size, b, c⟩⟩
theorem LoopAt.add (h : LoopAt w0 w B bf F R p4 n4 c4 p5 n5 c5 fp) {b : Nat} (hb : w.heap.size ≤ b) (hlt : b < w'.heap.size) (hc : Chg [] w w') : LoopAt w0 w' (b :: B) bf F R p4 n4 c4 p5 n5 c5 fp := by
  have hl := h.flow.lt
  have hr := h.rlt
  have h' := h.later hc
  refine { h' with own := fun x hx => ?_ }
  rcases List.mem_cons.1 hx with rfl | hx
  · exact ⟨hlt, fun hm => by have := hl _ hm; omega, fun hm => by have := hr _ hm; omega⟩
  · exact h'.own x hx
theorem LoopAt.drop {C : List Nat} (h : LoopAt w0 w B bf F R p4 n4 c4 p5 n5 c5 fp) (hs : ∀ b ∈ C, b ∈ B) : LoopAt w0 w C bf F R p4 n4 c4 p5 n5 c5 fp := { h with own := fun b hb => h.own b (hs b hb) }
theorem LoopAt.same (h : LoopAt w0 w B bf F R p4 n4 c4 p5 n5 c5 fp) {l : List Nat} (hl : ∀ b ∈ l, b ∈ B) (hc : Chg fp w w') : Same w w' l := Same.of hc fun b hb => ⟨(h.own b (hl b hb)).1, (h.own b (hl b hb)).2.1⟩
theorem LoopAt.same0 (h : LoopAt w0 w B bf F R p4 n4 c4 p5 n5 c5 fp) {l : List Nat} (hl : ∀ b ∈ l, b ∈ B) (hc : Chg [] w w') : Same w w' l := Same.chg hc fun b hb => (h.own b (hl b hb)).1

/-- A step of the law. -/
theorem LoopAt.does (h : LoopAt w0 w B bf F R p4 n4 c4 p5 n5 c5 fp) (hn4 : R.sets.length ≤ 100000) (hn5 : R.pairs.length ≤ 90000000) (hne : R.sets ≠ []) {S : Nat → Prop} {q : Option Addr} {qn qc : Nat} {a : ActV} (hA : ActAt w S q qn qc a) (hS : ∀ i, S i → i < w0.heap.size) (ht : tame a) :
    Calls Tryz.prog 30 #[.pointer (some ⟨bf, 0, none⟩), .agg #[.int .i64 R.fr, .int .i64 R.se, .int .i64 R.most, .slice p4 n4 c4, .slice p5 n5 c5], .agg #[.int .i64 a.kind, .int .i64 a.n, .int .i64 a.p.1, .int .i64 a.p.2, .int .u32 a.set, .slice q qn qc]] w fun e w' =>
      ∃ (r1 : Int) (r2 : Int) (r3 : Int) (r4 : Option Addr) (r4n : Nat) (r4c : Nat) (r5 : Option Addr) (r5n : Nat) (r5c : Nat) (r6 : Bool), e = .returned (.tuple #[.agg #[.int .i64 r1, .int .i64 r2, .int .i64 r3, .slice r4 r4n r4c, .slice r5 r5n r5c], .bool r6]) ∧
      (r1 = (stepR R a).fr ∧ r2 = (stepR R a).se ∧ r3 = (stepR R a).most ∧ r6 = true ∧ ∃ fp', LoopAt w0 w' B bf (stepF F a) (stepR R a) r4 r4n r4c r5 r5n r5c fp' ∧ Chg fp w w' ∧ (∀ i ∈ fp', i ∈ fp ∨ w.heap.size ≤ i)) := by
  have hfl := h.flow.lt
  have hrl := h.rlt
  have s := h.chg.size
  refine (does_ok h.flow h.ref h.rel h.rows hn4 hn5 hne hA (fun i hi hs => by have := hS i hs; have := h.fresh i hi; omega) ht).mono ?_
  rintro _ w1 ⟨r1, r2, r3, r4, r4n, r4c, r5, r5n, r5c, r6, rfl, rfl, rfl, rfl, rfl, hR, fp', hF, c1, hf, hr, hd⟩
  have hsh := stepR_shape R a
  refine ⟨_, _, _, _, _, _, _, _, _, _, rfl, hsh.1.symm, hsh.2.1.symm, hsh.2.2.symm, rfl, fp', ⟨hF, hR, h.rel.step a, h.good.step a, h.chg.trans c1 (fun i hi hlt => by have := h.fresh i hi; omega), fun i hi => ?_, fun i hi => ?_, hd, fun b hb => ?_⟩, c1, hf⟩
  · rcases hf i hi with k | k
    · exact h.fresh i k
    · omega
  · rcases hr i hi with k | k
    · exact h.freshR i k
    · omega
  · obtain ⟨k1, k2, k3⟩ := h.own b hb
    refine ⟨Nat.lt_of_lt_of_le k1 c1.size, fun hm => ?_, fun hm => ?_⟩
    · rcases hf b hm with k | k
      · exact k2 k
      · omega
    · rcases hr b hm with k | k
      · exact k3 k
      · omega
theorem LoopAt.same12 (h : LoopAt w0 w B bf F R p4 n4 c4 p5 n5 c5 fp) (hn5 : R.pairs.length ≤ 90000000) :
    Calls Tryz.prog 29 #[.pointer (some ⟨bf, 0, none⟩), .agg #[.int .i64 R.fr, .int .i64 R.se, .int .i64 R.most, .slice p4 n4 c4, .slice p5 n5 c5]] w fun e w' => ∃ r : Bool, e = .returned (.bool r) ∧ (r = true ∧ Chg [] w w') := by
  have := h.ref.n5
  exact Go.Proofs.YtfcfkhbkkfpehaaGreat.same12 h.flow h.ref h.rel h.good (by omega)
end
/-- A new one of each. -/
theorem LoopAt.start {w0 w1 w2 w3 : World} {B : List Nat} {bf : Nat} {fr se most : Int} {fp : List Nat} (hF : FlowAt w2 bf (flowNew fr se most) fp) (hf : ∀ i ∈ fp, w1.heap.size ≤ i) (c01 : Chg [] w0 w1) (c12 : Chg [] w1 w2) (c23 : Chg [] w2 w3)
    {p4 p5 : Option Addr} {n4 c4 n5 c5 : Nat} (hR : RefAt w3 ⟨fr, se, most, [0], []⟩ p4 n4 c4 p5 n5 c5) (hr : ∀ i ∈ rowB p4 ++ rowB p5, w2.heap.size ≤ i) (hB : ∀ b ∈ B, b < w1.heap.size) :
    LoopAt w0 w3 B bf (flowNew fr se most) ⟨fr, se, most, [0], []⟩ p4 n4 c4 p5 n5 c5 fp := by
  have s1 := c01.size
  have s2 := c12.size
  have s3 := c23.size
  have hl := hF.lt
  exact ⟨hF.chg c23 (by simp), hR, RelF.new fr se most, Good.nil _ _, (c01.trans0 c12).trans0 c23, fun i hi => Nat.le_trans s1 (hf i hi), fun i hi => by have := hr i hi; omega, fun i hi hm => by have := hr i hi; have := hl i hm; omega,
    fun b hb => by have := hB b hb; exact ⟨by omega, fun hm => by have := hf b hm; omega, fun hm => by have := hr b hm; omega⟩⟩
end Go.Proofs.YtfcfkhbkkfpehaaGreat
end

/- XHfplay -/
section
set_option linter.unusedVariables false
set_option linter.unusedSimpArgs false
namespace Go.Proofs.YtfcfkhbkkfpehaaGreat
open Go Go.X

/- pomander/pomanderlaw12.FlowPlay -/
def W_pomanderlaw12_FlowPlay (form1 : Int) (form2 : Int) (most1 : Int) (l1 : Option Addr) (l1n : Nat) (l1c : Nat) (w : World) (R : Bool → World → Prop) : Prop :=
  ∀ (b1 : Nat) (w1 : World), (w.heap.size ≤ b1 ∧ b1 < w1.heap.size) → Chg [] w w1 → (Calls Tryz.prog 24 #[.slice l1 l1n l1c] w1 fun e w2 => ∃ (r2 : Bool), e = .returned (.bool r2) ∧ (Same w1 w2 [b1] ∧ ((r2 = true → Calls Tryz.prog 25 #[] w2 fun e w3 => ∃ (r3 : Bool), e = .returned (.bool r3) ∧ (Same w2 w3 [b1] ∧ (R r3 w3))) ∧ (r2 = false → Calls Tryz.prog 26 #[.agg #[.int .i64 form1, .int .i64 form2], .int .i64 most1] w2 fun e w4 => ∃ (r4 : Option Addr) (r5 : Int), e = .returned (.tuple #[.pointer r4, .int .i64 r5]) ∧ (Same w2 w4 [b1] ∧ (Calls Tryz.prog 27 #[.agg #[.int .i64 form1, .int .i64 form2], .int .i64 most1] w4 fun e w5 => ∃ (r6 : Bool), e = .returned (.bool r6) ∧ (Same w4 w5 [b1] ∧ (((!r6) = true → ∃ J1 : Bool → World → Prop, (∀ (b2 : Bool) (w6 : World), J1 b2 w6 → R b2 w6) ∧ (((Option.isNone r4 && r5 == 2) = true → Calls Tryz.prog 25 #[] w5 fun e w7 => ∃ (r7 : Bool), e = .returned (.bool r7) ∧ (Same w5 w7 [b1] ∧ (J1 r7 w7))) ∧ ((Option.isNone r4 && r5 == 2) = false → J1 false w5))) ∧ ((!r6) = false → Calls Tryz.prog 28 #[.agg #[.int .i64 form1, .int .i64 form2], .int .i64 most1] w5 fun e w8 => ∃ (r8 : Int) (r9 : Int) (r10 : Int) (r11 : Option Addr) (r11n : Nat) (r11c : Nat) (r12 : Option Addr) (r12n : Nat) (r12c : Nat), e = .returned (.agg #[.int .i64 r8, .int .i64 r9, .int .i64 r10, .slice r11 r11n r11c, .slice r12 r12n r12c]) ∧ (∀ (b3 : Nat) (w10 : World), (w8.heap.size ≤ b3 ∧ b3 < w10.heap.size) → Chg [] w8 w10 → (∃ J2 : Bool → World → Prop, (∀ (b4 : Bool) (w11 : World), J2 b4 w11 → (b4 = true → R false w11) ∧ (b4 = false → ∃ (I1 : Bool → Int → Int → Int → Int → (Option Addr) → Nat → Nat → (Option Addr) → Nat → Nat → World → Prop) (m1 : Bool → Int → Int → Int → Int → (Option Addr) → Nat → Nat → (Option Addr) → Nat → Nat → World → Nat), I1 false 0 r8 r9 r10 r11 r11n r11c r12 r12n r12c w11 ∧ ∀ (x1 : Bool) (i1 : Int) (c1 : Int) (c2 : Int) (c3 : Int) (c4 : Option Addr) (c4n : Nat) (c4c : Nat) (c5 : Option Addr) (c5n : Nat) (c5c : Nat) (w13 : World), I1 x1 i1 c1 c2 c3 c4 c4n c4c c5 c5n c5c w13 → ((decide (i1 < (l1n : Int))) = true → ∀ (w14 : World), Chg [] w13 w14 → (∃ a1 : Addr, l1 = some a1 ∧ (0 : Int) ≤ i1 ∧ i1 < (l1n : Int) ∧ (∃ (t1 : Int) (t2 : Int) (t3 : Int) (t4 : Int) (t5 : Int) (t6 : Option Addr) (t6n : Nat) (t6c : Nat), CellsAt w14 (a1.add (Int.toNat i1 * 6)) 0 [.int .i64 t1, .int .i64 t2, .int .i64 t3, .int .i64 t4, .int .u32 t5, .slice t6 t6n t6c] ∧ (∃ J3 : Nat → Int → Int → Int → (Option Addr) → Nat → Nat → (Option Addr) → Nat → Nat → Bool → World → Prop, (∀ (b5 : Nat) (x2 : Int) (x3 : Int) (x4 : Int) (x5 : Option Addr) (x5n : Nat) (x5c : Nat) (x6 : Option Addr) (x6n : Nat) (x6c : Nat) (x7 : Bool) (w15 : World), J3 b5 x2 x3 x4 x5 x5n x5c x6 x6n x6c x7 w15 → ∀ (w20 : World), Chg [b5] w15 w20 → (∃ J4 : Bool → World → Prop, (∀ (b8 : Bool) (w21 : World), J4 b8 w21 → (b8 = true → R false w21) ∧ (b8 = false → ∀ (w23 : World), Chg [b3] w21 w23 → ((I1 x1 (IntKind.wrap .i64 (i1 + 1)) x2 x3 x4 x5 x5n x5c x6 x6n x6c w23 ∧ m1 x1 (IntKind.wrap .i64 (i1 + 1)) x2 x3 x4 x5 x5n x5c x6 x6n x6c w23 < m1 x1 i1 c1 c2 c3 c4 c4n c4c c5 c5n c5c w13)))) ∧ (((!x7) = false → Calls Tryz.prog 29 #[.pointer r4, .agg #[.int .i64 x2, .int .i64 x3, .int .i64 x4, .slice x5 x5n x5c, .slice x6 x6n x6c]] w20 fun e w22 => ∃ (r26 : Bool), e = .returned (.bool r26) ∧ (Same w20 w22 [b5, b3] ∧ (J4 (!r26) w22))) ∧ ((!x7) = true → J4 true w20)))) ∧ (Calls Tryz.prog 30 #[.pointer r4, .agg #[.int .i64 c1, .int .i64 c2, .int .i64 c3, .slice c4 c4n c4c, .slice c5 c5n c5c], .agg #[.int .i64 t1, .int .i64 t2, .int .i64 t3, .int .i64 t4, .int .u32 t5, .slice t6 t6n t6c]] w14 fun e w16 => ∃ (r14 : Int) (r15 : Int) (r16 : Int) (r17 : Option Addr) (r17n : Nat) (r17c : Nat) (r18 : Option Addr) (r18n : Nat) (r18c : Nat) (r19 : Bool), e = .returned (.tuple #[.agg #[.int .i64 r14, .int .i64 r15, .int .i64 r16, .slice r17 r17n r17c, .slice r18 r18n r18c], .bool r19]) ∧ ((CellsAt w16 (a1.add (Int.toNat i1 * 6)) 0 [.int .i64 t1, .int .i64 t2, .int .i64 t3, .int .i64 t4, .int .u32 t5, .slice t6 t6n t6c]) ∧ (Same w14 w16 [b3] ∧ (∀ (b6 : Nat) (w17 : World), (w16.heap.size ≤ b6 ∧ b6 < w17.heap.size) → Chg [] w16 w17 → (J3 b6 r14 r15 r16 r17 r17n r17c r18 r18n r18c r19 w17))))) ∧ (∀ (b7 : Nat) (w18 : World), (w14.heap.size ≤ b7 ∧ b7 < w18.heap.size) → Chg [] w14 w18 → (Calls Tryz.prog 30 #[.pointer r4, .agg #[.int .i64 c1, .int .i64 c2, .int .i64 c3, .slice c4 c4n c4c, .slice c5 c5n c5c], .agg #[.int .i64 t1, .int .i64 t2, .int .i64 t3, .int .i64 t4, .int .u32 t5, .slice t6 t6n t6c]] w18 fun e w19 => ∃ (r20 : Int) (r21 : Int) (r22 : Int) (r23 : Option Addr) (r23n : Nat) (r23c : Nat) (r24 : Option Addr) (r24n : Nat) (r24c : Nat) (r25 : Bool), e = .returned (.tuple #[.agg #[.int .i64 r20, .int .i64 r21, .int .i64 r22, .slice r23 r23n r23c, .slice r24 r24n r24c], .bool r25]) ∧ ((CellsAt w19 (a1.add (Int.toNat i1 * 6)) 0 [.int .i64 t1, .int .i64 t2, .int .i64 t3, .int .i64 t4, .int .u32 t5, .slice t6 t6n t6c]) ∧ (Same w18 w19 [b7, b3] ∧ (J3 b7 r20 r21 r22 r23 r23n r23c r24 r24n r24c r25 w19))))))))) ∧ ((decide (i1 < (l1n : Int))) = false → Calls Tryz.prog 25 #[] w13 fun e w24 => ∃ (r27 : Bool), e = .returned (.bool r27) ∧ (R r27 w24)))) ∧ (((!(r5 == 0)) = false → Calls Tryz.prog 29 #[.pointer r4, .agg #[.int .i64 r8, .int .i64 r9, .int .i64 r10, .slice r11 r11n r11c, .slice r12 r12n r12c]] w10 fun e w12 => ∃ (r13 : Bool), e = .returned (.bool r13) ∧ (Same w10 w12 [b3] ∧ (J2 (!r13) w12))) ∧ ((!(r5 == 0)) = true → J2 true w10)))))))))))))
set_option maxRecDepth 100000 in
theorem go_pomanderlaw12_FlowPlay (form1 : Int) (form2 : Int) (most1 : Int) (l1 : Option Addr) (l1n : Nat) (l1c : Nat) (w : World) (R : Bool → World → Prop) (h : W_pomanderlaw12_FlowPlay form1 form2 most1 l1 l1n l1c w R) : Calls Tryz.prog 5 #[.agg #[.int .i64 form1, .int .i64 form2], .int .i64 most1, .slice l1 l1n l1c] w (fun e w' => ∃ (r1 : Bool), e = .returned (.bool r1) ∧ R r1 w') := by
  unfold W_pomanderlaw12_FlowPlay at h
  refine enter (N := 72) Tryz.func5 rfl rfl ?_
  refine CW.seq ?_
  refine CW.region fun L hL => ?_
  obtain ⟨b1, hb_b1⟩ : ∃ b1, b1 = World.size w := ⟨_, rfl⟩
  obtain ⟨w1, hw_w1⟩ : ∃ w1, w1 = World.alloc w (.cells #[.int .i64 form1, .int .i64 form2] 37) := ⟨_, rfl⟩
  refine LW.val hL rfl (Wants.free rfl) rfl (boxE hb_b1 hw_w1 (Vl.box (v := .agg #[.int .i64 form1, .int .i64 form2]) rfl)) ?_
  have hB := Boxes.alloc (cs := [.int .i64 form1, .int .i64 form2]) (T := 37) (Boxes.nil w) hb_b1 hw_w1
  have hlo_b1 := sil_lo (Chg.refl [] w) hb_b1
  have hc_w1 := sil_alloc (Chg.refl [] w) hw_w1
  refine LW.rd hL rfl (Wants.free rfl) rfl (Rd.assign (v := .bool false) rfl) ?_
  refine LW.nil hL rfl ?_
  refine NW.then ?_
  refine CW.seq ?_
  refine CW.seq ?_
  refine CW.region fun L hL => ?_
  refine LW.rd hL rfl (Wants.free rfl) rfl (Rd.move (v := .slice l1 l1n l1c) rfl) ?_
  replace h := h b1 w1 ⟨hlo_b1, lt_of_heap (hB.at (i := 0) rfl)⟩ hc_w1
  refine LW.call hL rfl (Wants.free rfl) rfl (Cl.fn (f := 24) rfl Tryz.func24 (by kernel_rfl) rfl) h (fun e w2 h_ => ?_)
  clear h
  obtain ⟨r2, rfl, h⟩ := h_
  obtain ⟨hsm1, h⟩ := h
  replace hB := Boxes.sameS hB hsm1 (by simp)
  refine ⟨_, rfl, ?_⟩
  refine LW.nil hL rfl ?_
  refine NW.then ?_
  refine CW.cond rfl (fun hb1 => ?_) (fun hb1 => ?_)
  · replace h := h.1 hb1
    refine CW.seq ?_
    refine CW.region fun L hL => ?_
    refine LW.call hL rfl (Wants.free rfl) rfl (Cl.fn (f := 25) rfl Tryz.func25 (by kernel_rfl) rfl) h (fun e w3 h_ => ?_)
    clear h
    obtain ⟨r3, rfl, h⟩ := h_
    obtain ⟨hsm2, h⟩ := h
    replace hB := Boxes.sameS hB hsm2 (by simp)
    refine ⟨_, rfl, ?_⟩
    refine LW.rd hL rfl (Wants.free rfl) rfl (Rd.assign (v := .bool r3) rfl) ?_
    refine LW.nil hL rfl ?_
    refine NW.then ?_
    refine CW.ret ?_
    refine RW.then ?_
    exact res1 rfl rfl ⟨r3, rfl, h⟩
  · replace h := h.2 hb1
    refine CW.skip ?_
    refine NW.then ?_
    refine CW.seq ?_
    refine CW.region fun L hL => ?_
    refine LW.rd hL rfl (Wants.free rfl) rfl (Rd.ldN (cs := [.int .i64 form1, .int .i64 form2]) rfl (by kernel_rfl) (by kernel_rfl) (cellsS (box_cells (hB.at (i := 0) rfl) rfl))) ?_
    refine LW.rd hL rfl (Wants.free rfl) rfl (Rd.move (v := .int .i64 most1) rfl) ?_
    refine LW.call hL rfl (Wants.free rfl) rfl (Cl.fn (f := 26) rfl Tryz.func26 (by kernel_rfl) rfl) h (fun e w4 h_ => ?_)
    clear h
    obtain ⟨r4, r5, rfl, h⟩ := h_
    obtain ⟨hsm3, h⟩ := h
    replace hB := Boxes.sameS hB hsm3 (by simp)
    refine ⟨_, rfl, ?_⟩
    refine LW.rd hL rfl (Wants.free rfl) rfl (Rd.move (v := .tuple #[.pointer r4, .int .i64 r5]) rfl) ?_
    refine LW.rd hL rfl (Wants.free rfl) rfl (Rd.extract (v := .pointer r4) rfl rfl) ?_
    refine LW.rd hL rfl (Wants.free rfl) rfl (Rd.extract (v := .int .i64 r5) rfl rfl) ?_
    refine LW.rd hL rfl (Wants.free rfl) rfl (Rd.assign (v := .pointer r4) rfl) ?_
    refine LW.rd hL rfl (Wants.free rfl) rfl (Rd.assign (v := .int .i64 r5) rfl) ?_
    refine LW.nil hL rfl ?_
    refine NW.then ?_
    refine CW.seq ?_
    refine CW.seq ?_
    refine CW.region fun L hL => ?_
    refine LW.rd hL rfl (Wants.free rfl) rfl (Rd.ldN (cs := [.int .i64 form1, .int .i64 form2]) rfl (by kernel_rfl) (by kernel_rfl) (cellsS (box_cells (hB.at (i := 0) rfl) rfl))) ?_
    refine LW.rd hL rfl (Wants.free rfl) rfl (Rd.move (v := .int .i64 most1) rfl) ?_
    refine LW.call hL rfl (Wants.free rfl) rfl (Cl.fn (f := 27) rfl Tryz.func27 (by kernel_rfl) rfl) h (fun e w5 h_ => ?_)
    clear h
    obtain ⟨r6, rfl, h⟩ := h_
    obtain ⟨hsm4, h⟩ := h
    replace hB := Boxes.sameS hB hsm4 (by simp)
    refine ⟨_, rfl, ?_⟩
    refine LW.rd hL rfl (Wants.free rfl) rfl (Rd.un (v := .bool (!r6)) rfl (fun _ => by kernel_rfl)) ?_
    refine LW.nil hL rfl ?_
    refine NW.then ?_
    refine CW.cond rfl (fun hb2 => ?_) (fun hb2 => ?_)
    · replace h := h.1 hb2
      refine CW.seq ?_
      refine CW.region fun L hL => ?_
      refine LW.rd hL rfl (Wants.free rfl) rfl (Rd.move (v := .pointer r4) rfl) ?_
      refine LW.rd hL rfl (Wants.free rfl) rfl (Rd.bin (v := .bool (Option.isNone r4)) rfl rfl (fun w => ptr_nil_eq (by kernel_rfl) r4 w)) ?_
      refine LW.rd hL rfl (Wants.free rfl) rfl (Rd.move (v := .bool (Option.isNone r4)) rfl) ?_
      suffices K1 : L 6 [(1, .int .i64 most1), (2, .slice l1 l1n l1c), (3, .pointer (some (⟨b1, 0, none⟩ : Addr))), (6, .bool false), (7, .pointer r4), (8, .int .i64 r5), (31, .bool (Option.isNone r4 && r5 == 2))] w5 by
        rcases Bool.eq_false_or_eq_true (Option.isNone r4) with hb4 | hb4
        · skip
          refine LW.rd hL rfl (Wants.on rfl rfl rfl rfl rfl hb4) rfl (Rd.move (v := .int .i64 r5) rfl) ?_
          refine LW.rd hL rfl (Wants.on rfl rfl rfl rfl rfl hb4) rfl (Rd.bin (v := .bool (r5 == 2)) rfl rfl (fun w => by kernel_rfl)) ?_
          refine LW.rd hL rfl (Wants.free rfl) rfl (Rd.pickT rfl hb4 rfl) ?_
          exact LW.sub hL (by exact ⟨rfl, rfl, rfl, rfl, rfl, rfl, (by rw [hb4]; rfl), trivial⟩) K1
        · skip
          refine LW.skip hL rfl (Skips.on rfl rfl rfl rfl rfl hb4) rfl ?_
          refine LW.skip hL rfl (Skips.on rfl rfl rfl rfl rfl hb4) rfl ?_
          refine LW.rd hL rfl (Wants.free rfl) rfl (Rd.pickF rfl hb4 rfl) ?_
          exact LW.sub hL (by exact ⟨rfl, rfl, rfl, rfl, rfl, rfl, (by rw [hb4]; rfl), trivial⟩) K1
      refine LW.rd hL rfl (Wants.free rfl) rfl (Rd.move (v := .bool (Option.isNone r4 && r5 == 2)) rfl) ?_
      obtain ⟨J1, hJ1, h1_J1, h0_J1⟩ := h
      suffices K2 : ∀ (b2 : Bool) (w6 : World), Boxes w6 [(b1, [.int .i64 form1, .int .i64 form2], 37)] → J1 b2 w6 → L 9 [(1, .int .i64 most1), (2, .slice l1 l1n l1c), (3, .pointer (some (⟨b1, 0, none⟩ : Addr))), (6, .bool false), (7, .pointer r4), (8, .int .i64 r5), (34, .bool b2)] w6 by
        rcases Bool.eq_false_or_eq_true (Option.isNone r4 && r5 == 2) with hb5 | hb5
        · have h := h1_J1 hb5
          refine LW.call hL rfl (Wants.on rfl rfl rfl rfl rfl hb5) rfl (Cl.fn (f := 25) rfl Tryz.func25 (by kernel_rfl) rfl) h (fun e w7 h_ => ?_)
          clear h
          obtain ⟨r7, rfl, h⟩ := h_
          obtain ⟨hsm5, h⟩ := h
          replace hB := Boxes.sameS hB hsm5 (by simp)
          refine ⟨_, rfl, ?_⟩
          refine LW.rd hL rfl (Wants.free rfl) rfl (Rd.pickT rfl hb5 rfl) ?_
          exact LW.sub hL (by exact ⟨rfl, rfl, rfl, rfl, rfl, rfl, rfl, trivial⟩) (K2 r7 w7 (by exact hB) h)
        · have h := h0_J1 hb5
          refine LW.skip hL rfl (Skips.on rfl rfl rfl rfl rfl hb5) rfl ?_
          refine LW.rd hL rfl (Wants.free rfl) rfl (Rd.pickF rfl hb5 rfl) ?_
          exact LW.sub hL (by exact ⟨rfl, rfl, rfl, rfl, rfl, rfl, rfl, trivial⟩) (K2 false w5 (by exact hB) h)
      intro b2 w6 hB h_
      have h := hJ1 b2 w6 h_; clear h_
      refine LW.rd hL rfl (Wants.free rfl) rfl (Rd.assign (v := .bool b2) rfl) ?_
      refine LW.nil hL rfl ?_
      refine NW.then ?_
      refine CW.ret ?_
      refine RW.then ?_
      exact res1 rfl rfl ⟨b2, rfl, h⟩
    · replace h := h.2 hb2
      refine CW.skip ?_
      refine NW.then ?_
      refine CW.seq ?_
      refine CW.region fun L hL => ?_
      refine LW.rd hL rfl (Wants.free rfl) rfl (Rd.ldN (cs := [.int .i64 form1, .int .i64 form2]) rfl (by kernel_rfl) (by kernel_rfl) (cellsS (box_cells (hB.at (i := 0) rfl) rfl))) ?_
      refine LW.rd hL rfl (Wants.free rfl) rfl (Rd.move (v := .int .i64 most1) rfl) ?_
      refine LW.call hL rfl (Wants.free rfl) rfl (Cl.fn (f := 28) rfl Tryz.func28 (by kernel_rfl) rfl) h (fun e w8 h_ => ?_)
      clear h
      obtain ⟨r8, r9, r10, r11, r11n, r11c, r12, r12n, r12c, rfl, h⟩ := h_
      refine ⟨_, rfl, ?_⟩
      obtain ⟨b3, hb_b3⟩ : ∃ b3, b3 = World.size w8 := ⟨_, rfl⟩
      obtain ⟨w9, hw_w9⟩ : ∃ w9, w9 = World.alloc w8 (.cells #[.int .i64 0, .int .i64 0, .int .i64 0, .slice none 0 0, .slice none 0 0] 43) := ⟨_, rfl⟩
      refine LW.val hL rfl (Wants.free rfl) rfl (boxE hb_b3 hw_w9 (Vl.alloc (z := .agg #[.int .i64 0, .int .i64 0, .int .i64 0, .slice none 0 0, .slice none 0 0]) (by kernel_rfl))) ?_
      have hB := Boxes.alloc (cs := [.int .i64 0, .int .i64 0, .int .i64 0, .slice none 0 0, .slice none 0 0]) (T := 43) (Boxes.nil w8) hb_b3 hw_w9
      have hlo_b3 := sil_lo (Chg.refl [] w8) hb_b3
      have hc_w9 := sil_alloc (Chg.refl [] w8) hw_w9
      obtain ⟨w10, hw_w10⟩ : ∃ x, x = setCells w9 (⟨b3, 0, none⟩ : Addr) 0 [.int .i64 r8, .int .i64 r9, .int .i64 r10, .slice r11 r11n r11c, .slice r12 r12n r12c] := ⟨_, rfl⟩
      refine LW.eff hL rfl (Wants.free rfl) rfl (stNE hw_w10 (Ef.stN (cs := [.int .i64 r8, .int .i64 r9, .int .i64 r10, .slice r11 r11n r11c, .slice r12 r12n r12c]) rfl rfl (by kernel_rfl) (List.forall_mem_cons.2 ⟨rfl, (List.forall_mem_cons.2 ⟨rfl, (List.forall_mem_cons.2 ⟨rfl, (List.forall_mem_cons.2 ⟨rfl, (List.forall_mem_cons.2 ⟨rfl, (List.forall_mem_nil _)⟩)⟩)⟩)⟩)⟩) (has_of (hB.at (i := 0) rfl) (by simp)) (free_of' (hB.at (i := 0) rfl)))) ?_
      replace hB : Boxes w10 [(b3, [.int .i64 r8, .int .i64 r9, .int .i64 r10, .slice r11 r11n r11c, .slice r12 r12n r12c], 43)] := Boxes.store (vs := [.int .i64 r8, .int .i64 r9, .int .i64 r10, .slice r11 r11n r11c, .slice r12 r12n r12c]) (i := 0) (o := 0) hB rfl rfl rfl rfl hw_w10
      have hc_w10 := sil_new hc_w9 (sil_cN hw_w10) hlo_b3
      refine LW.nil hL rfl ?_
      refine NW.then ?_
      refine CW.seq ?_
      refine CW.seq ?_
      refine CW.region fun L hL => ?_
      refine LW.rd hL rfl (Wants.free rfl) rfl (Rd.move (v := .int .i64 r5) rfl) ?_
      refine LW.rd hL rfl (Wants.free rfl) rfl (Rd.bin (v := .bool (!(r5 == 0))) rfl rfl (fun w => by kernel_rfl)) ?_
      refine LW.rd hL rfl (Wants.free rfl) rfl (Rd.move (v := .bool (!(r5 == 0))) rfl) ?_
      replace h := h b3 w10 ⟨hlo_b3, lt_of_heap (hB.at (i := 0) rfl)⟩ hc_w10
      obtain ⟨J2, hJ2, h1_J2, h0_J2⟩ := h
      suffices K3 : ∀ (b4 : Bool) (w11 : World), Boxes w11 [(b3, [.int .i64 r8, .int .i64 r9, .int .i64 r10, .slice r11 r11n r11c, .slice r12 r12n r12c], 43)] → J2 b4 w11 → L 8 [(2, .slice l1 l1n l1c), (6, .bool false), (7, .pointer r4), (9, .pointer (some (⟨b3, 0, none⟩ : Addr))), (45, .bool b4)] w11 by
        rcases Bool.eq_false_or_eq_true (!(r5 == 0)) with hb6 | hb6
        · have h := h0_J2 hb6
          refine LW.skip hL rfl (Skips.on rfl rfl rfl rfl rfl hb6) rfl ?_
          refine LW.skip hL rfl (Skips.on rfl rfl rfl rfl rfl hb6) rfl ?_
          refine LW.skip hL rfl (Skips.on rfl rfl rfl rfl rfl hb6) rfl ?_
          refine LW.skip hL rfl (Skips.on rfl rfl rfl rfl rfl hb6) rfl ?_
          refine LW.rd hL rfl (Wants.free rfl) rfl (Rd.pickT rfl hb6 rfl) ?_
          exact LW.sub hL (by exact ⟨rfl, rfl, rfl, rfl, rfl, trivial⟩) (K3 true w10 (by exact hB) h)
        · have h := h1_J2 hb6
          refine LW.rd hL rfl (Wants.on rfl rfl rfl rfl rfl hb6) rfl (Rd.move (v := .pointer r4) rfl) ?_
          refine LW.rd hL rfl (Wants.on rfl rfl rfl rfl rfl hb6) rfl (Rd.ldN (cs := [.int .i64 r8, .int .i64 r9, .int .i64 r10, .slice r11 r11n r11c, .slice r12 r12n r12c]) rfl (by kernel_rfl) (by kernel_rfl) (cellsS (box_cells (hB.at (i := 0) rfl) rfl))) ?_
          refine LW.call hL rfl (Wants.on rfl rfl rfl rfl rfl hb6) rfl (Cl.fn (f := 29) rfl Tryz.func29 (by kernel_rfl) rfl) h (fun e w12 h_ => ?_)
          clear h
          obtain ⟨r13, rfl, h⟩ := h_
          obtain ⟨hsm6, h⟩ := h
          replace hB := Boxes.sameS hB hsm6 (by simp)
          refine ⟨_, rfl, ?_⟩
          refine LW.rd hL rfl (Wants.on rfl rfl rfl rfl rfl hb6) rfl (Rd.un (v := .bool (!r13)) rfl (fun _ => by kernel_rfl)) ?_
          refine LW.rd hL rfl (Wants.free rfl) rfl (Rd.pickF rfl hb6 rfl) ?_
          exact LW.sub hL (by exact ⟨rfl, rfl, rfl, rfl, rfl, trivial⟩) (K3 (!r13) w12 (by exact hB) h)
      intro b4 w11 hB h_
      have h := hJ2 b4 w11 h_; clear h_
      refine LW.nil hL rfl ?_
      refine NW.then ?_
      refine CW.cond rfl (fun hb7 => ?_) (fun hb7 => ?_)
      · replace h := h.1 hb7
        refine CW.seq ?_
        refine CW.region fun L hL => ?_
        refine LW.rd hL rfl (Wants.free rfl) rfl (Rd.assign (v := .bool false) rfl) ?_
        refine LW.nil hL rfl ?_
        refine NW.then ?_
        refine CW.ret ?_
        refine RW.then ?_
        exact res1 rfl rfl ⟨false, rfl, h⟩
      · replace h := h.2 hb7
        refine CW.skip ?_
        refine NW.then ?_
        refine CW.seq ?_
        refine CW.seq ?_
        refine CW.region fun L hL => ?_
        refine LW.rd hL rfl (Wants.free rfl) rfl (Rd.assign (v := .int .i64 0) rfl) ?_
        refine LW.nil hL rfl ?_
        refine NW.then ?_
        refine CW.block ?_
        obtain ⟨I1, m1, hI1, h⟩ := h
        refine CW.loop (S := Bool × Int × Int × Int × Int × (Option Addr) × Nat × Nat × (Option Addr) × Nat × Nat) (fun s1 => [(2, .slice l1 l1n l1c), (7, .pointer r4), (9, .pointer (some (⟨b3, 0, none⟩ : Addr))), (6, .bool s1.1), (10, .int .i64 s1.2.1)]) (fun s1 w13 => I1 s1.1 s1.2.1 s1.2.2.1 s1.2.2.2.1 s1.2.2.2.2.1 s1.2.2.2.2.2.1 s1.2.2.2.2.2.2.1 s1.2.2.2.2.2.2.2.1 s1.2.2.2.2.2.2.2.2.1 s1.2.2.2.2.2.2.2.2.2.1 s1.2.2.2.2.2.2.2.2.2.2 w13 ∧ Boxes w13 [(b3, [.int .i64 s1.2.2.1, .int .i64 s1.2.2.2.1, .int .i64 s1.2.2.2.2.1, .slice s1.2.2.2.2.2.1 s1.2.2.2.2.2.2.1 s1.2.2.2.2.2.2.2.1, .slice s1.2.2.2.2.2.2.2.2.1 s1.2.2.2.2.2.2.2.2.2.1 s1.2.2.2.2.2.2.2.2.2.2], 43)]) (fun s1 w13 => m1 s1.1 s1.2.1 s1.2.2.1 s1.2.2.2.1 s1.2.2.2.2.1 s1.2.2.2.2.2.1 s1.2.2.2.2.2.2.1 s1.2.2.2.2.2.2.2.1 s1.2.2.2.2.2.2.2.2.1 s1.2.2.2.2.2.2.2.2.2.1 s1.2.2.2.2.2.2.2.2.2.2 w13) (false, 0, r8, r9, r10, r11, r11n, r11c, r12, r12n, r12c) (by exact ⟨rfl, rfl, rfl, rfl, rfl, trivial⟩) ⟨hI1, hB⟩ (fun s1 w13 hI1 => ?_)
        obtain ⟨hI1, hB⟩ := hI1
        obtain ⟨x1, i1, c1, c2, c3, c4, c4n, c4c, c5, c5n, c5c⟩ := s1; replace h := h x1 i1 c1 c2 c3 c4 c4n c4c c5 c5n c5c w13 hI1
        refine CW.seq ?_
        refine CW.seq ?_
        refine CW.region fun L hL => ?_
        refine LW.rd hL rfl (Wants.free rfl) rfl (Rd.move (v := .int .i64 i1) rfl) ?_
        refine LW.rd hL rfl (Wants.free rfl) rfl (Rd.move (v := .slice l1 l1n l1c) rfl) ?_
        refine LW.rd hL rfl (Wants.free rfl) rfl (Rd.builtin (v := .int .i64 (l1n : Int)) rfl (fun _ _ => by kernel_rfl)) ?_
        refine LW.rd hL rfl (Wants.free rfl) rfl (Rd.bin (v := .bool (decide (i1 < (l1n : Int)))) rfl rfl (fun w => by kernel_rfl)) ?_
        refine LW.nil hL rfl ?_
        refine NW.then ?_
        refine CW.cond rfl (fun hb8 => ?_) (fun hb8 => ?_)
        · replace h := h.1 hb8
          refine CW.skip ?_
          refine NW.then ?_
          refine CW.seq ?_
          refine CW.block ?_
          refine CW.seq ?_
          obtain ⟨w14, hw_w14⟩ : ∃ x, x = World.drew w13 := ⟨_, rfl⟩
          have hc_w14 := sil_drew (Chg.refl [] w13) hw_w14
          replace hB := hB.drew hw_w14
          replace h := h  w14  hc_w14
          obtain ⟨a1, he1, hi1, hi2, h⟩ := h
          obtain ⟨t1, t2, t3, t4, t5, t6, t6n, t6c, hc1, h⟩ := h
          refine CW.drawn (fun w => CellsAt w (a1.add (Int.toNat i1 * 6)) 0 [.int .i64 t1, .int .i64 t2, .int .i64 t3, .int .i64 t4, .int .u32 t5, .slice t6 t6n t6c] ∧ Boxes w [(b3, [.int .i64 c1, .int .i64 c2, .int .i64 c3, .slice c4 c4n c4c, .slice c5 c5n c5c], 43)]) 11 (by kernel_rfl) fun H hH => ?_
          rw [← hw_w14]
          have hS1 : CellsAt w14 (a1.add (Int.toNat i1 * 6)) 0 [.int .i64 t1, .int .i64 t2, .int .i64 t3, .int .i64 t4, .int .u32 t5, .slice t6 t6n t6c] ∧ Boxes w14 [(b3, [.int .i64 c1, .int .i64 c2, .int .i64 c3, .slice c4 c4n c4c, .slice c5 c5n c5c], 43)] := ⟨hc1, hB⟩
          refine HW.pure (i := 0) hH rfl (by kernel_rfl) (Wants.free rfl) rfl (fun _ => hS1) (Rd.move (v := .pointer r4) rfl) ?_
          refine HW.take (i := 1) hH rfl (by kernel_rfl) (by kernel_rfl) (Wants.free rfl) rfl (fun _ => hS1) (Rd.ldN (cs := [.int .i64 c1, .int .i64 c2, .int .i64 c3, .slice c4 c4n c4c, .slice c5 c5n c5c]) rfl (by kernel_rfl) (by kernel_rfl) (fun w h => cellsAt_get (box_cells (Boxes.at (i := 0) h.2 rfl) rfl))) ?_
          refine HW.pure (i := 2) hH rfl (by kernel_rfl) (Wants.free rfl) rfl (fun _ => hS1) (Rd.move (v := .slice l1 l1n l1c) rfl) ?_
          refine HW.pure (i := 3) hH rfl (by kernel_rfl) (Wants.free rfl) rfl (fun _ => hS1) (Rd.move (v := .int .i64 i1) rfl) ?_
          refine HW.pure (i := 4) hH rfl (by kernel_rfl) (Wants.free rfl) rfl (fun _ => hS1) (Rd.iaS (q := a1) (sz := 6) (by rw [← he1]; rfl) rfl Tryz.underlying69 (by kernel_rfl) hi1 hi2) ?_
          refine HW.take (i := 5) hH rfl (by kernel_rfl) (by kernel_rfl) (Wants.free rfl) rfl (fun _ => hS1) (Rd.ldN (cs := [.int .i64 t1, .int .i64 t2, .int .i64 t3, .int .i64 t4, .int .u32 t5, .slice t6 t6n t6c]) rfl (by kernel_rfl) (by kernel_rfl) (fun w h => cellsAt_get h.1)) ?_
          obtain ⟨J3, hJ3, h1_J3, h2_J3⟩ := h
          suffices K4 : ∀ (s2 : Nat × Int × Int × Int × (Option Addr) × Nat × Nat × (Option Addr) × Nat × Nat × Bool) (w15 : World), (CellsAt w15 (a1.add (Int.toNat i1 * 6)) 0 [.int .i64 t1, .int .i64 t2, .int .i64 t3, .int .i64 t4, .int .u32 t5, .slice t6 t6n t6c] ∧ Boxes w15 [(b3, [.int .i64 c1, .int .i64 c2, .int .i64 c3, .slice c4 c4n c4c, .slice c5 c5n c5c], 43)]) → Boxes w15 [(s2.1, [.int .i64 0, .int .i64 0, .int .i64 0, .slice none 0 0, .slice none 0 0], 43), (b3, [.int .i64 c1, .int .i64 c2, .int .i64 c3, .slice c4 c4n c4c, .slice c5 c5n c5c], 43)] → J3 s2.1 s2.2.1 s2.2.2.1 s2.2.2.2.1 s2.2.2.2.2.1 s2.2.2.2.2.2.1 s2.2.2.2.2.2.2.1 s2.2.2.2.2.2.2.2.1 s2.2.2.2.2.2.2.2.2.1 s2.2.2.2.2.2.2.2.2.2.1 s2.2.2.2.2.2.2.2.2.2.2 w15 → H 2 #[true, true, true, true, true, true, true, true, true, true, true, false, false] [(2, .slice l1 l1n l1c), (6, .bool x1), (7, .pointer r4), (9, .pointer (some (⟨b3, 0, none⟩ : Addr))), (10, .int .i64 i1), (11, .pointer (some (⟨s2.1, 0, none⟩ : Addr))), (60, .agg #[.int .i64 s2.2.1, .int .i64 s2.2.2.1, .int .i64 s2.2.2.2.1, .slice s2.2.2.2.2.1 s2.2.2.2.2.2.1 s2.2.2.2.2.2.2.1, .slice s2.2.2.2.2.2.2.2.1 s2.2.2.2.2.2.2.2.2.1 s2.2.2.2.2.2.2.2.2.2.1]), (61, .bool s2.2.2.2.2.2.2.2.2.2.2)] w15 by
            refine HW.two (i := 6) (j := 10) hH (by kernel_rfl) ?_ ?_
            · have h := h1_J3
              refine H1.call (i := 6) hH rfl (Wants.free rfl) rfl (Cl.fn (f := 30) rfl Tryz.func30 (by kernel_rfl) rfl) h (fun e w16 h_ => ?_)
              clear h
              obtain ⟨r14, r15, r16, r17, r17n, r17c, r18, r18n, r18c, r19, rfl, hS2, h⟩ := h_
              obtain ⟨hsm7, h⟩ := h
              replace hB := Boxes.sameS hB hsm7 (by simp)
              have hS3 := (⟨hS2, hB⟩ : CellsAt w16 (a1.add (Int.toNat i1 * 6)) 0 [.int .i64 t1, .int .i64 t2, .int .i64 t3, .int .i64 t4, .int .u32 t5, .slice t6 t6n t6c] ∧ Boxes w16 [(b3, [.int .i64 c1, .int .i64 c2, .int .i64 c3, .slice c4 c4n c4c, .slice c5 c5n c5c], 43)])
              refine ⟨_, rfl, (fun _ => hS3), ?_⟩
              refine HW.pure (i := 7) hH rfl (by kernel_rfl) (Wants.free rfl) rfl (fun _ => hS3) (Rd.move (v := .tuple #[.agg #[.int .i64 r14, .int .i64 r15, .int .i64 r16, .slice r17 r17n r17c, .slice r18 r18n r18c], .bool r19]) rfl) ?_
              refine HW.pure (i := 8) hH rfl (by kernel_rfl) (Wants.free rfl) rfl (fun _ => hS3) (Rd.extract (v := .agg #[.int .i64 r14, .int .i64 r15, .int .i64 r16, .slice r17 r17n r17c, .slice r18 r18n r18c]) rfl rfl) ?_
              refine HW.pure (i := 9) hH rfl (by kernel_rfl) (Wants.free rfl) rfl (fun _ => hS3) (Rd.extract (v := .bool r19) rfl rfl) ?_
              obtain ⟨b6, hb_b6⟩ : ∃ b6, b6 = World.size w16 := ⟨_, rfl⟩
              obtain ⟨w17, hw_w17⟩ : ∃ w17, w17 = World.alloc w16 (.cells #[.int .i64 0, .int .i64 0, .int .i64 0, .slice none 0 0, .slice none 0 0] 43) := ⟨_, rfl⟩
              have hS4 := (⟨cellsAlloc hw_w17 hS3.1, ((hS3.2).grow hw_w17)⟩ : CellsAt w17 (a1.add (Int.toNat i1 * 6)) 0 [.int .i64 t1, .int .i64 t2, .int .i64 t3, .int .i64 t4, .int .u32 t5, .slice t6 t6n t6c] ∧ Boxes w17 [(b3, [.int .i64 c1, .int .i64 c2, .int .i64 c3, .slice c4 c4n c4c, .slice c5 c5n c5c], 43)])
              refine HW.val (i := 10) hH (by kernel_rfl) rfl (Wants.free rfl) rfl (boxE hb_b6 hw_w17 (Vl.alloc (z := .agg #[.int .i64 0, .int .i64 0, .int .i64 0, .slice none 0 0, .slice none 0 0]) (by kernel_rfl))) (fun _ => hS4) ?_
              replace hB := Boxes.alloc (cs := [.int .i64 0, .int .i64 0, .int .i64 0, .slice none 0 0, .slice none 0 0]) (T := 43) hB hb_b6 hw_w17
              have hlo_b6 := sil_lo (Chg.refl [] w16) hb_b6
              have hc_w17 := sil_alloc (Chg.refl [] w16) hw_w17
              replace h := h b6 w17 ⟨hlo_b6, lt_of_heap (hB.at (i := 0) rfl)⟩ hc_w17
              exact HW.sub hH (by exact ⟨rfl, rfl, rfl, rfl, rfl, rfl, rfl, rfl, trivial⟩) (K4 (b6, r14, r15, r16, r17, r17n, r17c, r18, r18n, r18c, r19) w17 hS4 (by exact hB) h)
            · have h := h2_J3
              obtain ⟨b7, hb_b7⟩ : ∃ b7, b7 = World.size w14 := ⟨_, rfl⟩
              obtain ⟨w18, hw_w18⟩ : ∃ w18, w18 = World.alloc w14 (.cells #[.int .i64 0, .int .i64 0, .int .i64 0, .slice none 0 0, .slice none 0 0] 43) := ⟨_, rfl⟩
              have hS5 := (⟨cellsAlloc hw_w18 hS1.1, ((hS1.2).grow hw_w18)⟩ : CellsAt w18 (a1.add (Int.toNat i1 * 6)) 0 [.int .i64 t1, .int .i64 t2, .int .i64 t3, .int .i64 t4, .int .u32 t5, .slice t6 t6n t6c] ∧ Boxes w18 [(b3, [.int .i64 c1, .int .i64 c2, .int .i64 c3, .slice c4 c4n c4c, .slice c5 c5n c5c], 43)])
              refine H1.val (i := 10) hH rfl (Wants.free rfl) rfl (boxE hb_b7 hw_w18 (Vl.alloc (z := .agg #[.int .i64 0, .int .i64 0, .int .i64 0, .slice none 0 0, .slice none 0 0]) (by kernel_rfl))) (fun _ => hS5) ?_
              replace hB := Boxes.alloc (cs := [.int .i64 0, .int .i64 0, .int .i64 0, .slice none 0 0, .slice none 0 0]) (T := 43) hB hb_b7 hw_w18
              have hlo_b7 := sil_lo (Chg.refl [] w14) hb_b7
              have hc_w18 := sil_alloc (Chg.refl [] w14) hw_w18
              replace h := h b7 w18 ⟨hlo_b7, lt_of_heap (hB.at (i := 0) rfl)⟩ hc_w18
              refine HW.call (i := 6) hH (by kernel_rfl) rfl (Wants.free rfl) rfl (Cl.fn (f := 30) rfl Tryz.func30 (by kernel_rfl) rfl) h (fun e w19 h_ => ?_)
              clear h
              obtain ⟨r20, r21, r22, r23, r23n, r23c, r24, r24n, r24c, r25, rfl, hS6, h⟩ := h_
              obtain ⟨hsm8, h⟩ := h
              replace hB := Boxes.sameS hB hsm8 (by simp)
              have hS7 := (⟨hS6, (hB.sel [1] (by decide) rfl)⟩ : CellsAt w19 (a1.add (Int.toNat i1 * 6)) 0 [.int .i64 t1, .int .i64 t2, .int .i64 t3, .int .i64 t4, .int .u32 t5, .slice t6 t6n t6c] ∧ Boxes w19 [(b3, [.int .i64 c1, .int .i64 c2, .int .i64 c3, .slice c4 c4n c4c, .slice c5 c5n c5c], 43)])
              refine ⟨_, rfl, (fun _ => hS7), ?_⟩
              refine HW.pure (i := 7) hH rfl (by kernel_rfl) (Wants.free rfl) rfl (fun _ => hS7) (Rd.move (v := .tuple #[.agg #[.int .i64 r20, .int .i64 r21, .int .i64 r22, .slice r23 r23n r23c, .slice r24 r24n r24c], .bool r25]) rfl) ?_
              refine HW.pure (i := 8) hH rfl (by kernel_rfl) (Wants.free rfl) rfl (fun _ => hS7) (Rd.extract (v := .agg #[.int .i64 r20, .int .i64 r21, .int .i64 r22, .slice r23 r23n r23c, .slice r24 r24n r24c]) rfl rfl) ?_
              refine HW.pure (i := 9) hH rfl (by kernel_rfl) (Wants.free rfl) rfl (fun _ => hS7) (Rd.extract (v := .bool r25) rfl rfl) ?_
              exact HW.sub hH (by exact ⟨rfl, rfl, rfl, rfl, rfl, rfl, rfl, rfl, trivial⟩) (K4 (b7, r20, r21, r22, r23, r23n, r23c, r24, r24n, r24c, r25) w19 hS7 (by exact hB) h)
          intro s2 w15 hS8 hB h_
          obtain ⟨b5, x2, x3, x4, x5, x5n, x5c, x6, x6n, x6c, x7⟩ := s2
          have h := hJ3 b5 x2 x3 x4 x5 x5n x5c x6 x6n x6c x7 w15 h_; clear h_
          obtain ⟨w20, hw_w20⟩ : ∃ x, x = setCells w15 (⟨b5, 0, none⟩ : Addr) 0 [.int .i64 x2, .int .i64 x3, .int .i64 x4, .slice x5 x5n x5c, .slice x6 x6n x6c] := ⟨_, rfl⟩
          refine HW.eff (i := 11) hH (by kernel_rfl) rfl (Wants.free rfl) rfl (stNE hw_w20 (Ef.stN (cs := [.int .i64 x2, .int .i64 x3, .int .i64 x4, .slice x5 x5n x5c, .slice x6 x6n x6c]) rfl rfl (by kernel_rfl) (List.forall_mem_cons.2 ⟨rfl, (List.forall_mem_cons.2 ⟨rfl, (List.forall_mem_cons.2 ⟨rfl, (List.forall_mem_cons.2 ⟨rfl, (List.forall_mem_cons.2 ⟨rfl, (List.forall_mem_nil _)⟩)⟩)⟩)⟩)⟩) (has_of (hB.at (i := 0) rfl) (by simp)) (free_of' (hB.at (i := 0) rfl)))) (fun hc => by cases hc) ?_
          replace hB : Boxes w20 [(b5, [.int .i64 x2, .int .i64 x3, .int .i64 x4, .slice x5 x5n x5c, .slice x6 x6n x6c], 43), (b3, [.int .i64 c1, .int .i64 c2, .int .i64 c3, .slice c4 c4n c4c, .slice c5 c5n c5c], 43)] := Boxes.store (vs := [.int .i64 x2, .int .i64 x3, .int .i64 x4, .slice x5 x5n x5c, .slice x6 x6n x6c]) (i := 0) (o := 0) hB rfl rfl rfl rfl hw_w20
          have hc_w20 : Chg [b5] w15 w20 := sil_more (Chg.refl [] w15) (sil_cN hw_w20)
          refine HW.pure (i := 12) hH rfl (by kernel_rfl) (Wants.free rfl) rfl (fun hc => by cases hc) (Rd.assign (v := .bool x7) rfl) ?_
          refine HW.done hH (by kernel_rfl) ?_
          refine NW.then ?_
          refine CW.seq ?_
          refine CW.seq ?_
          refine CW.region fun L hL => ?_
          refine LW.rd hL rfl (Wants.free rfl) rfl (Rd.move (v := .bool x7) rfl) ?_
          refine LW.rd hL rfl (Wants.free rfl) rfl (Rd.un (v := .bool (!x7)) rfl (fun _ => by kernel_rfl)) ?_
          refine LW.rd hL rfl (Wants.free rfl) rfl (Rd.move (v := .bool (!x7)) rfl) ?_
          replace h := h  w20  hc_w20
          obtain ⟨J4, hJ4, h1_J4, h0_J4⟩ := h
          suffices K5 : ∀ (b8 : Bool) (w21 : World), Boxes w21 [(b5, [.int .i64 x2, .int .i64 x3, .int .i64 x4, .slice x5 x5n x5c, .slice x6 x6n x6c], 43), (b3, [.int .i64 c1, .int .i64 c2, .int .i64 c3, .slice c4 c4n c4c, .slice c5 c5n c5c], 43)] → J4 b8 w21 → L 8 [(2, .slice l1 l1n l1c), (6, .bool x1), (7, .pointer r4), (9, .pointer (some (⟨b3, 0, none⟩ : Addr))), (10, .int .i64 i1), (11, .pointer (some (⟨b5, 0, none⟩ : Addr))), (69, .bool b8)] w21 by
            rcases Bool.eq_false_or_eq_true (!x7) with hb9 | hb9
            · have h := h0_J4 hb9
              refine LW.skip hL rfl (Skips.on rfl rfl rfl rfl rfl hb9) rfl ?_
              refine LW.skip hL rfl (Skips.on rfl rfl rfl rfl rfl hb9) rfl ?_
              refine LW.skip hL rfl (Skips.on rfl rfl rfl rfl rfl hb9) rfl ?_
              refine LW.skip hL rfl (Skips.on rfl rfl rfl rfl rfl hb9) rfl ?_
              refine LW.rd hL rfl (Wants.free rfl) rfl (Rd.pickT rfl hb9 rfl) ?_
              exact LW.sub hL (by exact ⟨rfl, rfl, rfl, rfl, rfl, rfl, rfl, trivial⟩) (K5 true w20 (by exact hB) h)
            · have h := h1_J4 hb9
              refine LW.rd hL rfl (Wants.on rfl rfl rfl rfl rfl hb9) rfl (Rd.move (v := .pointer r4) rfl) ?_
              refine LW.rd hL rfl (Wants.on rfl rfl rfl rfl rfl hb9) rfl (Rd.ldN (cs := [.int .i64 x2, .int .i64 x3, .int .i64 x4, .slice x5 x5n x5c, .slice x6 x6n x6c]) rfl (by kernel_rfl) (by kernel_rfl) (cellsS (box_cells (hB.at (i := 0) rfl) rfl))) ?_
              refine LW.call hL rfl (Wants.on rfl rfl rfl rfl rfl hb9) rfl (Cl.fn (f := 29) rfl Tryz.func29 (by kernel_rfl) rfl) h (fun e w22 h_ => ?_)
              clear h
              obtain ⟨r26, rfl, h⟩ := h_
              obtain ⟨hsm9, h⟩ := h
              replace hB := Boxes.sameS hB hsm9 (by simp)
              refine ⟨_, rfl, ?_⟩
              refine LW.rd hL rfl (Wants.on rfl rfl rfl rfl rfl hb9) rfl (Rd.un (v := .bool (!r26)) rfl (fun _ => by kernel_rfl)) ?_
              refine LW.rd hL rfl (Wants.free rfl) rfl (Rd.pickF rfl hb9 rfl) ?_
              exact LW.sub hL (by exact ⟨rfl, rfl, rfl, rfl, rfl, rfl, rfl, trivial⟩) (K5 (!r26) w22 (by exact hB) h)
          intro b8 w21 hB h_
          have h := hJ4 b8 w21 h_; clear h_
          refine LW.nil hL rfl ?_
          refine NW.then ?_
          refine CW.cond rfl (fun hb10 => ?_) (fun hb10 => ?_)
          · replace h := h.1 hb10
            refine CW.seq ?_
            refine CW.region fun L hL => ?_
            refine LW.rd hL rfl (Wants.free rfl) rfl (Rd.assign (v := .bool false) rfl) ?_
            refine LW.nil hL rfl ?_
            refine NW.then ?_
            refine CW.ret ?_
            refine RW.then ?_
            refine RW.block ?_
            refine RW.then ?_
            refine RW.then ?_
            refine RW.block ?_
            refine RW.then ?_
            exact res1 rfl rfl ⟨false, rfl, h⟩
          · replace h := h.2 hb10
            refine CW.skip ?_
            refine NW.then ?_
            refine CW.region fun L hL => ?_
            refine LW.rd hL rfl (Wants.free rfl) rfl (Rd.ldN (cs := [.int .i64 x2, .int .i64 x3, .int .i64 x4, .slice x5 x5n x5c, .slice x6 x6n x6c]) rfl (by kernel_rfl) (by kernel_rfl) (cellsS (box_cells (hB.at (i := 0) rfl) rfl))) ?_
            obtain ⟨w23, hw_w23⟩ : ∃ x, x = setCells w21 (⟨b3, 0, none⟩ : Addr) 0 [.int .i64 x2, .int .i64 x3, .int .i64 x4, .slice x5 x5n x5c, .slice x6 x6n x6c] := ⟨_, rfl⟩
            refine LW.eff hL rfl (Wants.free rfl) rfl (stNE hw_w23 (Ef.stN (cs := [.int .i64 x2, .int .i64 x3, .int .i64 x4, .slice x5 x5n x5c, .slice x6 x6n x6c]) rfl rfl (by kernel_rfl) (List.forall_mem_cons.2 ⟨rfl, (List.forall_mem_cons.2 ⟨rfl, (List.forall_mem_cons.2 ⟨rfl, (List.forall_mem_cons.2 ⟨rfl, (List.forall_mem_cons.2 ⟨rfl, (List.forall_mem_nil _)⟩)⟩)⟩)⟩)⟩) (has_of (hB.at (i := 1) rfl) (by simp)) (free_of' (hB.at (i := 1) rfl)))) ?_
            replace hB : Boxes w23 [(b5, [.int .i64 x2, .int .i64 x3, .int .i64 x4, .slice x5 x5n x5c, .slice x6 x6n x6c], 43), (b3, [.int .i64 x2, .int .i64 x3, .int .i64 x4, .slice x5 x5n x5c, .slice x6 x6n x6c], 43)] := Boxes.store (vs := [.int .i64 x2, .int .i64 x3, .int .i64 x4, .slice x5 x5n x5c, .slice x6 x6n x6c]) (i := 1) (o := 0) hB rfl rfl rfl rfl hw_w23
            have hc_w23 : Chg [b3] w21 w23 := sil_more (Chg.refl [] w21) (sil_cN hw_w23)
            refine LW.nil hL rfl ?_
            refine NW.block ?_
            refine NW.then ?_
            refine CW.region fun L hL => ?_
            refine LW.rd hL rfl (Wants.free rfl) rfl (Rd.move (v := .int .i64 i1) rfl) ?_
            refine LW.rd hL rfl (Wants.free rfl) rfl (Rd.bin (v := .int .i64 (IntKind.wrap .i64 (i1 + 1))) rfl rfl (fun w => by kernel_rfl)) ?_
            refine LW.rd hL rfl (Wants.free rfl) rfl (Rd.assign (v := .int .i64 (IntKind.wrap .i64 (i1 + 1))) rfl) ?_
            refine LW.nil hL rfl ?_
            replace h := h  w23  hc_w23
            exact NW.loop (S := Bool × Int × Int × Int × Int × (Option Addr) × Nat × Nat × (Option Addr) × Nat × Nat) (Ek := fun s1 => [(2, .slice l1 l1n l1c), (7, .pointer r4), (9, .pointer (some (⟨b3, 0, none⟩ : Addr))), (6, .bool s1.1), (10, .int .i64 s1.2.1)]) (x1, IntKind.wrap .i64 (i1 + 1), x2, x3, x4, x5, x5n, x5c, x6, x6n, x6c) (by exact ⟨rfl, rfl, rfl, rfl, rfl, trivial⟩) ⟨⟨h.1, (hB.sel [1] (by decide) rfl)⟩, h.2⟩
        · replace h := h.2 hb8
          refine CW.exit ?_
          refine XW.then ?_
          refine XW.then ?_
          refine XW.hit ?_
          refine NW.then ?_
          refine CW.seq ?_
          refine CW.region fun L hL => ?_
          refine LW.call hL rfl (Wants.free rfl) rfl (Cl.fn (f := 25) rfl Tryz.func25 (by kernel_rfl) rfl) h (fun e w24 h_ => ?_)
          clear h
          obtain ⟨r27, rfl, h⟩ := h_
          refine ⟨_, rfl, ?_⟩
          refine LW.rd hL rfl (Wants.free rfl) rfl (Rd.assign (v := .bool r27) rfl) ?_
          refine LW.nil hL rfl ?_
          refine NW.then ?_
          refine CW.ret ?_
          exact res1 rfl rfl ⟨r27, rfl, h⟩

end Go.Proofs.YtfcfkhbkkfpehaaGreat
end

/- XFplayW -/
section
/- FlowPlay's walk. -/
set_option linter.unusedVariables false
set_option linter.unusedSimpArgs false
set_option maxRecDepth 100000
namespace Go.Proofs.YtfcfkhbkkfpehaaGreat
open Go Go.RowKit Go.X Go.XR

theorem fplay_walk {w : World} {fr se most : Int} {S : Nat → Prop} {l1 : Option Addr} {ln lc : Nat} {acts : List ActV} (hA : ActsAt w S l1 ln acts) (hS : ∀ i, S i → i < w.heap.size) (hln : ln ≤ maxLen) :
    Calls Tryz.prog 5 #[.agg #[.int .i64 fr, .int .i64 se], .int .i64 most, .slice l1 ln lc] w fun e w' => ∃ r : Bool, e = .returned (.bool r) ∧ (r = true ∧ Chg [] w w') := by
  have hal := hA.length
  have hln' := hln
  simp only [maxLen] at hln'
  refine go_pomanderlaw12_FlowPlay _ _ _ _ _ _ _ _ ?_
  unfold W_pomanderlaw12_FlowPlay
  rintro b1 w1 ⟨i1, j1⟩ c1
  have s1 := c1.size
  refine (vast_ok (c := lc) (hA.chg c1 (by simp)) hln).mono ?_
  rintro _ w2 ⟨_, rfl, rfl, hw⟩
  subst w2
  have N : ∀ {A B : World}, w1.heap.size ≤ A.heap.size → Chg [] A B → Same A B [b1] := fun h hc => Same.chg hc (by simp; omega)
  refine ⟨_, rfl, N (Nat.le_refl _) (Chg.refl _ _), fun _ => ?_, fun hb => ?_⟩
  · refine (known12 w1).mono ?_
    rintro _ w3 ⟨_, rfl, rfl, c3⟩
    exact ⟨_, rfl, N (Nat.le_refl _) c3, rfl, c1.trans0 c3⟩
  have hvast : ¬ vastA acts := of_decide_eq_false hb
  obtain ⟨h30, htame⟩ := vast_tame hvast
  refine (flow_new w1 fr se most).mono ?_
  rintro _ w4 ⟨r4, r5, rfl, c4, hF⟩
  have s4 := c4.size
  refine ⟨_, _, rfl, N (Nat.le_refl _) c4, ?_⟩
  refine (ref_right fr se most).mono ?_
  rintro _ w5 ⟨_, rfl, rfl, c5⟩
  have s5 := c5.size
  refine ⟨_, rfl, N (by omega) c5, fun hr => ?_, fun hr => ?_⟩
  · have hr' : ¬ rightP fr se most := by simpa using hr
    rw [if_neg hr'] at hF
    obtain ⟨rfl, rfl⟩ := hF
    refine ⟨fun b w' => b = true ∧ Chg [] w w', fun _ _ h => h, fun _ => ?_, fun h => by simp at h⟩
    refine (known12 w5).mono ?_
    rintro _ w7 ⟨_, rfl, rfl, c7⟩
    exact ⟨_, rfl, N (by omega) c7, rfl, ((c1.trans0 c4).trans0 c5).trans0 c7⟩
  have hr' : rightP fr se most := by simpa using hr
  rw [if_pos hr'] at hF
  obtain ⟨rfl, bf, fp, rfl, hF, hf⟩ := hF
  refine (ref_new fr se most).mono ?_
  rintro _ w8 ⟨z1, z2, z3, p4, n4, c4', p5, n5, c5', rfl, y1, y2, y3, hR, c8, hfr⟩
  obtain rfl := y1.symm
  obtain rfl := y2.symm
  obtain rfl := y3.symm
  have s8 := c8.size
  refine ⟨_, _, _, _, _, _, _, _, _, rfl, ?_⟩
  rintro b3 w10 ⟨i3, j3⟩ c10
  have s10 := c10.size
  have h8 : LoopAt w w8 [] bf (flowNew fr se most) ⟨fr, se, most, [0], []⟩ p4 n4 c4' p5 n5 c5' fp := LoopAt.start hF hf c1 c4 (c5.trans0 c8) hR (fun i hi => by have := hfr i hi; omega) (by simp)
  have h10 := h8.add i3 j3 c10
  have hlens := fun j : Nat => playR_len (R := ⟨fr, se, most, [0], []⟩) (by simp) (acts := acts.take j) (fun a ha => htame a ((List.take_sublist j acts).subset ha))
  have hlt := fun j : Nat => List.length_take_le j acts
  have hlt' := fun j : Nat => List.length_take_le' j acts
  refine ⟨fun b w' => b = false ∧ ∃ fp, LoopAt w w' [b3] bf (flowNew fr se most) ⟨fr, se, most, [0], []⟩ p4 n4 c4' p5 n5 c5' fp, ?_, fun _ => ?_, fun h => by simp at h⟩
  rotate_left
  · refine (h10.same12 (by simp)).mono ?_
    rintro _ w12 ⟨_, rfl, rfl, c12⟩
    exact ⟨_, rfl, h10.same0 (by simp) c12, rfl, fp, h10.later c12⟩
  rintro _ w11 ⟨rfl, fp11, h11⟩
  refine ⟨fun h => by simp at h, fun _ => ?_⟩
  refine ⟨fun _ i c1 c2 c3 p4 n4 c4 p5 n5 c5 w' => ∃ j : Nat, i = j ∧ j ≤ ln ∧ ∃ F R fp, F = playF (flowNew fr se most) (acts.take j) ∧ R = playR ⟨fr, se, most, [0], []⟩ (acts.take j) ∧ c1 = R.fr ∧ c2 = R.se ∧ c3 = R.most ∧ LoopAt w w' [b3] bf F R p4 n4 c4 p5 n5 c5 fp,
    fun _ i _ _ _ _ _ _ _ _ _ _ => ln - i.toNat, ⟨0, rfl, Nat.zero_le _, _, _, fp11, rfl, rfl, rfl, rfl, rfl, h11⟩, ?_⟩
  rintro x1 _ _ _ _ q4 m4 d4 q5 m5 d5 w13 ⟨j, rfl, hj, F, R, fp13, eF, eR, rfl, rfl, rfl, h13⟩
  refine ⟨fun hlt1 w14 c14 => ?_, fun hge => ?_⟩
  · have hjl : j < ln := by have := of_decide_eq_true hlt1; omega
    obtain ⟨a, hx⟩ := get_of (l := acts) (j := j) (by omega)
    have h14 := h13.later c14
    obtain ⟨b, q, qn, qc, rfl, hbS, hc, hAct⟩ := (hA.chg h14.chg (by simp)).each j _ hx
    have ej : Int.toNat (j : Int) = j := by omega
    rw [ej]
    have hl := hlens j
    rw [← eR] at hl
    have hn4 : R.sets.length ≤ 100000 := by have := hl.2.1; have := hlt j; simp at *; omega
    have hn5 : R.pairs.length ≤ 90000000 := by have := hl.1; have := hlt j; simp at *; omega
    have hta := htame a (List.mem_of_getElem? hx)
    have eF' : playF (flowNew fr se most) (acts.take (j + 1)) = stepF F a := by rw [take_snoc hx, playF_snoc, eF]
    have eR' : playR ⟨fr, se, most, [0], []⟩ (acts.take (j + 1)) = stepR R a := by rw [take_snoc hx, playR_snoc, eR]
    have hl' := hlens (j + 1)
    rw [eR'] at hl'
    have hn5' : (stepR R a).pairs.length ≤ 90000000 := by have := hl'.1; have := hlt (j + 1); simp at *; omega
    have old : ∀ {A : World}, Chg [] w A → CellsAt A (b.add (j * 6)) 0 [.int .i64 a.kind, .int .i64 a.n, .int .i64 a.p.1, .int .i64 a.p.2, .int .u32 a.set, .slice q qn qc] := fun hcA => by
      obtain ⟨b', q', qn', qc', e, _, hc', hA'⟩ := hA.each j _ hx
      cases e
      have h1 := hcA.cells (f := []) (by simp) hc'
      have h2 := h14.chg.cells (f := []) (by simp) hc'
      have e1 := hc.2.2.2.2.2.1
      have e2 := h2.2.2.2.2.2.1
      rw [e1] at e2
      cases e2
      exact h1
    refine ⟨b, rfl, by omega, by omega, _, _, _, _, _, _, _, _, hc, ?_⟩
    refine ⟨fun bb c1 c2 c3 p4 n4 c4 p5 n5 c5 ok w' => ok = true ∧ c1 = (stepR R a).fr ∧ c2 = (stepR R a).se ∧ c3 = (stepR R a).most ∧ w.heap.size ≤ bb ∧ ∃ fp, LoopAt w w' [bb, b3] bf (stepF F a) (stepR R a) p4 n4 c4 p5 n5 c5 fp, ?_, ?_, ?_⟩
    · rintro b5 _ _ _ r4 r4n r4c r5 r5n r5c _ w15 ⟨rfl, rfl, rfl, rfl, hb5, fp15, h15⟩ w20 c20
      have h20 := h15.put (by simp) hb5 c20
      refine ⟨fun b w' => b = false ∧ ∃ fp, LoopAt w w' [b3] bf (stepF F a) (stepR R a) r4 r4n r4c r5 r5n r5c fp, ?_, fun _ => ?_, fun h => by simp at h⟩
      · rintro _ w21 ⟨rfl, fp21, h21⟩
        refine ⟨fun h => by simp at h, fun _ w23 c23 => ?_⟩
        rw [wr (by omega) (by omega)]
        exact ⟨⟨j + 1, by omega, by omega, _, _, fp21, eF'.symm, eR'.symm, rfl, rfl, rfl, h21.put (by simp) (by have := h8.chg.size; omega) c23⟩, by simp only []; omega⟩
      · refine (h20.same12 hn5').mono ?_
        rintro _ w22 ⟨_, rfl, rfl, c22⟩
        exact ⟨_, rfl, h20.same0 (by simp) c22, rfl, fp15, (h20.later c22).drop (by simp)⟩
    · refine (h14.does hn4 hn5 hl.2.2 hAct hS hta).mono ?_
      rintro _ w16 ⟨r1, r2, r3, r4, r4n, r4c, r5, r5n, r5c, r6, rfl, rfl, rfl, rfl, rfl, fp16, h16, c16, hf16⟩
      refine ⟨_, _, _, _, _, _, _, _, _, _, rfl, old h16.chg, h14.same (by simp) c16, ?_⟩
      rintro b6 w17 ⟨i6, j6⟩ c17
      exact ⟨rfl, rfl, rfl, rfl, by have := h16.chg.size; omega, fp16, h16.add i6 j6 c17⟩
    · rintro b7 w18 ⟨i7, j7⟩ c18
      have h18 := h14.add i7 j7 c18
      have hAct' := hAct.chg c18 (by simp)
      refine (h18.does hn4 hn5 hl.2.2 hAct' hS hta).mono ?_
      rintro _ w19 ⟨r1, r2, r3, r4, r4n, r4c, r5, r5n, r5c, r6, rfl, rfl, rfl, rfl, rfl, fp19, h19, c19, hf19⟩
      exact ⟨_, _, _, _, _, _, _, _, _, _, rfl, old h19.chg, h18.same (by simp) c19, rfl, rfl, rfl, rfl, by have := h14.chg.size; omega, fp19, h19⟩
  · refine (known12 w13).mono ?_
    rintro _ w24 ⟨_, rfl, rfl, c24⟩
    exact ⟨_, rfl, rfl, h13.chg.trans0 c24⟩
end Go.Proofs.YtfcfkhbkkfpehaaGreat
end

/- XHfmarks -/
section
set_option linter.unusedVariables false
set_option linter.unusedSimpArgs false
namespace Go.Proofs.YtfcfkhbkkfpehaaGreat
open Go Go.X

/- pomander/pomanderlaw12.FlowMarks -/
def W_pomanderlaw12_FlowMarks (l1 : Option Addr) (l1n : Nat) (l1c : Nat) (disk1 : Bool) (w : World) (R : Bool → World → Prop) : Prop :=
  ((decide ((l1n : Int) > 12)) = true → Calls Tryz.prog 25 #[] w fun e w1 => ∃ (r2 : Bool), e = .returned (.bool r2) ∧ (R r2 w1)) ∧ ((decide ((l1n : Int) > 12)) = false → ∃ (I1 : (Option Addr) → Nat → Nat → Int → World → Prop) (m1 : (Option Addr) → Nat → Nat → Int → World → Nat), I1 none 0 0 0 w ∧ ∀ (acts1 : Option Addr) (acts1n : Nat) (acts1c : Nat) (i1 : Int) (w2 : World), I1 acts1 acts1n acts1c i1 w2 → ((decide (i1 < (l1n : Int))) = true → ∃ a1 : Addr, l1 = some a1 ∧ (0 : Int) ≤ i1 ∧ i1 < (l1n : Int) ∧ ((0 : Int) ≤ 0 ∧ (0 : Int) < 3 ∧ (∃ (t1 : Int), w2.cell? ((a1.add (Int.toNat i1 * 3)).add (Int.toNat 0 * 1)) = some (.int .i64 t1) ∧ (∀ (b1 : Nat) (w4 : World), (w2.heap.size ≤ b1 ∧ b1 < w4.heap.size) → Chg [] w2 w4 → (∃ J1 : Int → World → Prop, (∀ (c1 : Int) (w5 : World), J1 c1 w5 → ∀ (w6 : World), Chg [] w5 w6 → ((0 : Int) ≤ 1 ∧ (1 : Int) < 3 ∧ (∃ (t2 : Int), w6.cell? ((a1.add (Int.toNat i1 * 3)).add (Int.toNat 1 * 1)) = some (.int .i64 t2) ∧ ((0 : Int) ≤ 2 ∧ (2 : Int) < 3 ∧ (∃ (t3 : Int), w6.cell? ((a1.add (Int.toNat i1 * 3)).add (Int.toNat 2 * 1)) = some (.int .i64 t3) ∧ (∀ b2 : Nat, b2 = World.size w6 → ∀ w7 : World, w7 = World.alloc w6 (.cells #[.int .i64 1, .int .i64 t2, .int .i64 c1, .int .i64 t1, .int .u32 (IntKind.wrap .u32 (Int.tmod (if t3 < 0 then 0 else t3) 70000)), .slice none 0 0] 79) → (∃ (l2 : Option Addr) (l2n : Nat) (l2c : Nat) (w8 : World), (Builtin.append_ #[69, 69] 69 #[.slice acts1 acts1n acts1c, .slice (some (⟨b2, 0, none⟩ : Addr)) 1 1]).run Tryz.prog w7 = .ok (.slice l2 l2n l2c) w8 ∧ ((I1 l2 l2n l2c (IntKind.wrap .i64 (i1 + 1)) w8 ∧ m1 l2 l2n l2c (IntKind.wrap .i64 (i1 + 1)) w8 < m1 acts1 acts1n acts1c i1 w2))))))))) ∧ ((disk1 = true → ∀ (w9 : World), Chg [b1] w4 w9 → (J1 12 w9)) ∧ (disk1 = false → J1 10 w4))))))) ∧ ((decide (i1 < (l1n : Int))) = false → Calls Tryz.prog 5 #[.agg #[.int .i64 2, .int .i64 2], .int .i64 9, .slice acts1 acts1n acts1c] w2 fun e w10 => ∃ (r3 : Bool), e = .returned (.bool r3) ∧ (R r3 w10)))
set_option maxRecDepth 100000 in
theorem go_pomanderlaw12_FlowMarks (l1 : Option Addr) (l1n : Nat) (l1c : Nat) (disk1 : Bool) (w : World) (R : Bool → World → Prop) (h : W_pomanderlaw12_FlowMarks l1 l1n l1c disk1 w R) : Calls Tryz.prog 6 #[.slice l1 l1n l1c, .bool disk1] w (fun e w' => ∃ (r1 : Bool), e = .returned (.bool r1) ∧ R r1 w') := by
  unfold W_pomanderlaw12_FlowMarks at h
  refine enter (N := 47) Tryz.func6 rfl rfl ?_
  refine CW.seq ?_
  refine CW.region fun L hL => ?_
  refine LW.rd hL rfl (Wants.free rfl) rfl (Rd.assign (v := .bool false) rfl) ?_
  refine LW.nil hL rfl ?_
  refine NW.then ?_
  refine CW.seq ?_
  refine CW.seq ?_
  refine CW.region fun L hL => ?_
  refine LW.rd hL rfl (Wants.free rfl) rfl (Rd.move (v := .slice l1 l1n l1c) rfl) ?_
  refine LW.rd hL rfl (Wants.free rfl) rfl (Rd.builtin (v := .int .i64 (l1n : Int)) rfl (fun _ _ => by kernel_rfl)) ?_
  refine LW.rd hL rfl (Wants.free rfl) rfl (Rd.bin (v := .bool (decide ((l1n : Int) > 12))) rfl rfl (fun w => by kernel_rfl)) ?_
  refine LW.nil hL rfl ?_
  refine NW.then ?_
  refine CW.cond rfl (fun hb1 => ?_) (fun hb1 => ?_)
  · replace h := h.1 hb1
    refine CW.seq ?_
    refine CW.region fun L hL => ?_
    refine LW.call hL rfl (Wants.free rfl) rfl (Cl.fn (f := 25) rfl Tryz.func25 (by kernel_rfl) rfl) h (fun e w1 h_ => ?_)
    clear h
    obtain ⟨r2, rfl, h⟩ := h_
    refine ⟨_, rfl, ?_⟩
    refine LW.rd hL rfl (Wants.free rfl) rfl (Rd.assign (v := .bool r2) rfl) ?_
    refine LW.nil hL rfl ?_
    refine NW.then ?_
    refine CW.ret ?_
    refine RW.then ?_
    exact res1 rfl rfl ⟨r2, rfl, h⟩
  · replace h := h.2 hb1
    refine CW.skip ?_
    refine NW.then ?_
    refine CW.seq ?_
    refine CW.region fun L hL => ?_
    refine LW.rd hL rfl (Wants.free rfl) rfl (Rd.assign (v := .slice none 0 0) rfl) ?_
    refine LW.nil hL rfl ?_
    refine NW.then ?_
    refine CW.seq ?_
    refine CW.seq ?_
    refine CW.region fun L hL => ?_
    refine LW.rd hL rfl (Wants.free rfl) rfl (Rd.assign (v := .int .i64 0) rfl) ?_
    refine LW.nil hL rfl ?_
    refine NW.then ?_
    refine CW.block ?_
    obtain ⟨I1, m1, hI1, h⟩ := h
    refine CW.loop (S := (Option Addr) × Nat × Nat × Int) (fun s1 => [(0, .slice l1 l1n l1c), (1, .bool disk1), (4, .bool false), (5, .slice s1.1 s1.2.1 s1.2.2.1), (6, .int .i64 s1.2.2.2)]) (fun s1 w2 => I1 s1.1 s1.2.1 s1.2.2.1 s1.2.2.2 w2) (fun s1 w2 => m1 s1.1 s1.2.1 s1.2.2.1 s1.2.2.2 w2) (none, 0, 0, 0) (by exact ⟨rfl, rfl, rfl, rfl, rfl, trivial⟩) hI1 (fun s1 w2 hI1 => ?_)
    obtain ⟨acts1, acts1n, acts1c, i1⟩ := s1; replace h := h acts1 acts1n acts1c i1 w2 hI1
    refine CW.seq ?_
    refine CW.seq ?_
    refine CW.region fun L hL => ?_
    refine LW.rd hL rfl (Wants.free rfl) rfl (Rd.move (v := .int .i64 i1) rfl) ?_
    refine LW.rd hL rfl (Wants.free rfl) rfl (Rd.move (v := .slice l1 l1n l1c) rfl) ?_
    refine LW.rd hL rfl (Wants.free rfl) rfl (Rd.builtin (v := .int .i64 (l1n : Int)) rfl (fun _ _ => by kernel_rfl)) ?_
    refine LW.rd hL rfl (Wants.free rfl) rfl (Rd.bin (v := .bool (decide (i1 < (l1n : Int)))) rfl rfl (fun w => by kernel_rfl)) ?_
    refine LW.nil hL rfl ?_
    refine NW.then ?_
    refine CW.cond rfl (fun hb2 => ?_) (fun hb2 => ?_)
    · replace h := h.1 hb2
      refine CW.skip ?_
      refine NW.then ?_
      refine CW.seq ?_
      refine CW.block ?_
      refine CW.seq ?_
      refine CW.region fun L hL => ?_
      refine LW.rd hL rfl (Wants.free rfl) rfl (Rd.move (v := .slice l1 l1n l1c) rfl) ?_
      refine LW.rd hL rfl (Wants.free rfl) rfl (Rd.move (v := .int .i64 i1) rfl) ?_
      obtain ⟨a1, he1, hi1, hi2, h⟩ := h
      refine LW.rd hL rfl (Wants.free rfl) rfl (Rd.iaS (q := a1) (sz := 3) (by rw [← he1]; rfl) rfl Tryz.underlying81 (by kernel_rfl) hi1 hi2) ?_
      obtain ⟨hi3, hi4, h⟩ := h
      refine LW.rd hL rfl (Wants.free rfl) rfl (Rd.iaA (sz := 1) rfl rfl Tryz.underlying82 (by kernel_rfl) hi3 hi4) ?_
      obtain ⟨t1, hc1, h⟩ := h
      refine LW.rd hL rfl (Wants.free rfl) rfl (Rd.ld (v := .int .i64 t1) rfl (by kernel_rfl) (eqs hc1)) ?_
      refine LW.rd hL rfl (Wants.free rfl) rfl (Rd.build (v := .agg #[.int .i64 10, .int .i64 t1]) rfl (fun _ => by kernel_rfl)) ?_
      obtain ⟨b1, hb_b1⟩ : ∃ b1, b1 = World.size w2 := ⟨_, rfl⟩
      obtain ⟨w3, hw_w3⟩ : ∃ w3, w3 = World.alloc w2 (.cells #[.int .i64 0, .int .i64 0] 62) := ⟨_, rfl⟩
      refine LW.val hL rfl (Wants.free rfl) rfl (boxE hb_b1 hw_w3 (Vl.alloc (z := .agg #[.int .i64 0, .int .i64 0]) (by kernel_rfl))) ?_
      have hB := Boxes.alloc (cs := [.int .i64 0, .int .i64 0]) (T := 62) (Boxes.nil w2) hb_b1 hw_w3
      have hlo_b1 := sil_lo (Chg.refl [] w2) hb_b1
      have hc_w3 := sil_alloc (Chg.refl [] w2) hw_w3
      obtain ⟨w4, hw_w4⟩ : ∃ x, x = setCells w3 (⟨b1, 0, none⟩ : Addr) 0 [.int .i64 10, .int .i64 t1] := ⟨_, rfl⟩
      refine LW.eff hL rfl (Wants.free rfl) rfl (stNE hw_w4 (Ef.stN (cs := [.int .i64 10, .int .i64 t1]) rfl rfl (by kernel_rfl) (List.forall_mem_cons.2 ⟨rfl, (List.forall_mem_cons.2 ⟨rfl, (List.forall_mem_nil _)⟩)⟩) (has_of (hB.at (i := 0) rfl) (by simp)) (free_of' (hB.at (i := 0) rfl)))) ?_
      replace hB : Boxes w4 [(b1, [.int .i64 10, .int .i64 t1], 62)] := Boxes.store (vs := [.int .i64 10, .int .i64 t1]) (i := 0) (o := 0) hB rfl rfl rfl rfl hw_w4
      have hc_w4 := sil_new hc_w3 (sil_cN hw_w4) hlo_b1
      refine LW.nil hL rfl ?_
      refine NW.then ?_
      replace h := h b1 w4 ⟨hlo_b1, lt_of_heap (hB.at (i := 0) rfl)⟩ hc_w4
      obtain ⟨J1, hJ1, h⟩ := h
      refine CW.cut (S := Int) (fun c1 => [(0, .slice l1 l1n l1c), (1, .bool disk1), (4, .bool false), (5, .slice acts1 acts1n acts1c), (6, .int .i64 i1), (7, .pointer (some (⟨b1, 0, none⟩ : Addr)))]) (fun c1 w5 => J1 c1 w5 ∧ Boxes w5 [(b1, [.int .i64 c1, .int .i64 t1], 62)]) (fun c1 w5 h_ => ?_) ?_
      · obtain ⟨h_, hB⟩ := h_; replace h := hJ1 c1 w5 h_; clear h_
        obtain ⟨w6, hw_w6⟩ : ∃ x, x = World.drew w5 := ⟨_, rfl⟩
        have hc_w6 := sil_drew (Chg.refl [] w5) hw_w6
        replace hB := hB.drew hw_w6
        replace h := h  w6  hc_w6
        obtain ⟨hi7, hi8, h⟩ := h
        obtain ⟨t2, hc2, h⟩ := h
        obtain ⟨hi11, hi12, h⟩ := h
        obtain ⟨t3, hc3, h⟩ := h
        refine CW.drawn (fun w => w.cell? ((a1.add (Int.toNat i1 * 3)).add (Int.toNat 1 * 1)) = some (.int .i64 t2) ∧ w.cell? ((a1.add (Int.toNat i1 * 3)).add (Int.toNat 2 * 1)) = some (.int .i64 t3) ∧ Boxes w [(b1, [.int .i64 c1, .int .i64 t1], 62)]) 17 (by kernel_rfl) fun H hH => ?_
        rw [← hw_w6]
        have hS1 : w6.cell? ((a1.add (Int.toNat i1 * 3)).add (Int.toNat 1 * 1)) = some (.int .i64 t2) ∧ w6.cell? ((a1.add (Int.toNat i1 * 3)).add (Int.toNat 2 * 1)) = some (.int .i64 t3) ∧ Boxes w6 [(b1, [.int .i64 c1, .int .i64 t1], 62)] := ⟨hc2, hc3, hB⟩
        refine HW.pure (i := 0) hH rfl (by kernel_rfl) (Wants.free rfl) rfl (fun _ => hS1) (Rd.move (v := .slice acts1 acts1n acts1c) rfl) ?_
        refine HW.pure (i := 1) hH rfl (by kernel_rfl) (Wants.free rfl) rfl (fun _ => hS1) (Rd.move (v := .slice l1 l1n l1c) rfl) ?_
        refine HW.pure (i := 2) hH rfl (by kernel_rfl) (Wants.free rfl) rfl (fun _ => hS1) (Rd.move (v := .int .i64 i1) rfl) ?_
        refine HW.pure (i := 3) hH rfl (by kernel_rfl) (Wants.free rfl) rfl (fun _ => hS1) (Rd.iaS (q := a1) (sz := 3) (by rw [← he1]; rfl) rfl Tryz.underlying81 (by kernel_rfl) hi1 hi2) ?_
        refine HW.pure (i := 4) hH rfl (by kernel_rfl) (Wants.free rfl) rfl (fun _ => hS1) (Rd.iaA (sz := 1) rfl rfl Tryz.underlying82 (by kernel_rfl) hi7 hi8) ?_
        refine HW.take (i := 5) hH rfl (by kernel_rfl) (by kernel_rfl) (Wants.free rfl) rfl (fun _ => hS1) (Rd.ld (v := .int .i64 t2) rfl (by kernel_rfl) (fun w h => h.1)) ?_
        refine HW.take (i := 6) hH rfl (by kernel_rfl) (by kernel_rfl) (Wants.free rfl) rfl (fun _ => hS1) (Rd.ldN (cs := [.int .i64 c1, .int .i64 t1]) rfl (by kernel_rfl) (by kernel_rfl) (fun w h => cellsAt_get (box_cells (Boxes.at (i := 0) h.2.2 rfl) rfl))) ?_
        refine HW.pure (i := 7) hH rfl (by kernel_rfl) (Wants.free rfl) rfl (fun _ => hS1) (Rd.move (v := .slice l1 l1n l1c) rfl) ?_
        refine HW.pure (i := 8) hH rfl (by kernel_rfl) (Wants.free rfl) rfl (fun _ => hS1) (Rd.move (v := .int .i64 i1) rfl) ?_
        refine HW.pure (i := 9) hH rfl (by kernel_rfl) (Wants.free rfl) rfl (fun _ => hS1) (Rd.iaS (q := a1) (sz := 3) (by rw [← he1]; rfl) rfl Tryz.underlying81 (by kernel_rfl) hi1 hi2) ?_
        refine HW.pure (i := 10) hH rfl (by kernel_rfl) (Wants.free rfl) rfl (fun _ => hS1) (Rd.iaA (sz := 1) rfl rfl Tryz.underlying82 (by kernel_rfl) hi11 hi12) ?_
        refine HW.take (i := 11) hH rfl (by kernel_rfl) (by kernel_rfl) (Wants.free rfl) rfl (fun _ => hS1) (Rd.ld (v := .int .i64 t3) rfl (by kernel_rfl) (fun w h => h.2.1)) ?_
        refine HW.pure (i := 12) hH rfl (by kernel_rfl) (Wants.free rfl) rfl (fun _ => hS1) (Rd.builtin (v := .int .i64 (if t3 < 0 then 0 else t3)) rfl (fun _ _ => valB (maxI _ _ _ _ _ _))) ?_
        refine HW.pure (i := 13) hH rfl (by kernel_rfl) (Wants.free rfl) rfl (fun _ => hS1) (Rd.bin (v := .int .i64 (Int.tmod (if t3 < 0 then 0 else t3) 70000)) rfl rfl (fun w => by kernel_rfl)) ?_
        refine HW.pure (i := 14) hH rfl (by kernel_rfl) (Wants.free rfl) rfl (fun _ => hS1) (Rd.conv (v := .int .u32 (IntKind.wrap .u32 (Int.tmod (if t3 < 0 then 0 else t3) 70000))) rfl (fun _ => by kernel_rfl)) ?_
        refine HW.pure (i := 15) hH rfl (by kernel_rfl) (Wants.free rfl) rfl (fun _ => hS1) (Rd.build (v := .agg #[.int .i64 1, .int .i64 t2, .int .i64 c1, .int .i64 t1, .int .u32 (IntKind.wrap .u32 (Int.tmod (if t3 < 0 then 0 else t3) 70000)), .slice none 0 0]) rfl (fun _ => by kernel_rfl)) ?_
        obtain ⟨b2, hb_b2⟩ : ∃ b2, b2 = World.size w6 := ⟨_, rfl⟩
        obtain ⟨w7, hw_w7⟩ : ∃ w7, w7 = World.alloc w6 (.cells #[.int .i64 1, .int .i64 t2, .int .i64 c1, .int .i64 t1, .int .u32 (IntKind.wrap .u32 (Int.tmod (if t3 < 0 then 0 else t3) 70000)), .slice none 0 0] 79) := ⟨_, rfl⟩
        replace h := h b2 hb_b2 w7 hw_w7
        have hS2 := (⟨cellAlloc hw_w7 hS1.1, cellAlloc hw_w7 hS1.2.1, ((hS1.2.2).grow hw_w7)⟩ : w7.cell? ((a1.add (Int.toNat i1 * 3)).add (Int.toNat 1 * 1)) = some (.int .i64 t2) ∧ w7.cell? ((a1.add (Int.toNat i1 * 3)).add (Int.toNat 2 * 1)) = some (.int .i64 t3) ∧ Boxes w7 [(b1, [.int .i64 c1, .int .i64 t1], 62)])
        refine HW.val (i := 16) hH (by kernel_rfl) rfl (Wants.free rfl) rfl (sliceE (n := 1) hb_b2 hw_w7 (fun w => Vl.buildSlice (vs := [(0, .agg #[.int .i64 1, .int .i64 t2, .int .i64 c1, .int .i64 t1, .int .u32 (IntKind.wrap .u32 (Int.tmod (if t3 < 0 then 0 else t3) 70000)), .slice none 0 0])]) rfl (by kernel_rfl))) (fun _ => hS2) ?_
        replace hB := hB.grow hw_w7
        obtain ⟨l2, l2n, l2c, w8, ha1, h⟩ := h
        refine HW.val (i := 17) hH (by kernel_rfl) rfl (Wants.free rfl) rfl (Vl.builtin (v := .slice l2 l2n l2c) rfl (valB ha1)) (fun hc => by cases hc) ?_
        refine HW.pure (i := 18) hH rfl (by kernel_rfl) (Wants.free rfl) rfl (fun hc => by cases hc) (Rd.assign (v := .slice l2 l2n l2c) rfl) ?_
        refine HW.done hH (by kernel_rfl) ?_
        refine NW.block ?_
        refine NW.then ?_
        refine CW.region fun L hL => ?_
        refine LW.rd hL rfl (Wants.free rfl) rfl (Rd.move (v := .int .i64 i1) rfl) ?_
        refine LW.rd hL rfl (Wants.free rfl) rfl (Rd.bin (v := .int .i64 (IntKind.wrap .i64 (i1 + 1))) rfl rfl (fun w => by kernel_rfl)) ?_
        refine LW.rd hL rfl (Wants.free rfl) rfl (Rd.assign (v := .int .i64 (IntKind.wrap .i64 (i1 + 1))) rfl) ?_
        refine LW.nil hL rfl ?_
        exact NW.loop (S := (Option Addr) × Nat × Nat × Int) (Ek := fun s1 => [(0, .slice l1 l1n l1c), (1, .bool disk1), (4, .bool false), (5, .slice s1.1 s1.2.1 s1.2.2.1), (6, .int .i64 s1.2.2.2)]) (l2, l2n, l2c, IntKind.wrap .i64 (i1 + 1)) (by exact ⟨rfl, rfl, rfl, rfl, rfl, trivial⟩) h
      · skip
        refine CW.seq ?_
        refine CW.region fun L hL => ?_
        refine LW.rd hL rfl (Wants.free rfl) rfl (Rd.move (v := .bool disk1) rfl) ?_
        refine LW.nil hL rfl ?_
        refine NW.then ?_
        refine CW.cond rfl (fun hb3 => ?_) (fun hb3 => ?_)
        · replace h := h.1 hb3
          refine CW.region fun L hL => ?_
          refine LW.rd hL rfl (Wants.free rfl) rfl (Rd.fa (v := .pointer (some (⟨b1, 0, none⟩ : Addr))) rfl (fun _ => by kernel_rfl)) ?_
          obtain ⟨w9, hw_w9⟩ : ∃ x, x = World.setCell w4 (⟨b1, 0, none⟩ : Addr) (.int .i64 12) := ⟨_, rfl⟩
          refine LW.eff hL rfl (Wants.free rfl) rfl (stE hw_w9 (Ef.st rfl rfl rfl (by kernel_rfl) (box_cell (v := .int .i64 10) (hB.at (i := 0) rfl) rfl) (free_of (hB.at (i := 0) rfl) 0))) ?_
          replace hB : Boxes w9 [(b1, [.int .i64 12, .int .i64 t1], 62)] := Boxes.store1  (i := 0) (o := 0) hB rfl rfl rfl rfl hw_w9
          have hc_w9 : Chg [b1] w4 w9 := sil_more (Chg.refl [] w4) (sil_c1 hw_w9)
          refine LW.nil hL rfl ?_
          replace h := h  w9  hc_w9
          exact NW.cut (S := Int) (Ek := fun c1 => [(0, .slice l1 l1n l1c), (1, .bool disk1), (4, .bool false), (5, .slice acts1 acts1n acts1c), (6, .int .i64 i1), (7, .pointer (some (⟨b1, 0, none⟩ : Addr)))]) 12 (by exact ⟨rfl, rfl, rfl, rfl, rfl, rfl, trivial⟩) ⟨h, hB⟩
        · replace h := h.2 hb3
          refine CW.skip ?_
          exact NW.cut (S := Int) (Ek := fun c1 => [(0, .slice l1 l1n l1c), (1, .bool disk1), (4, .bool false), (5, .slice acts1 acts1n acts1c), (6, .int .i64 i1), (7, .pointer (some (⟨b1, 0, none⟩ : Addr)))]) 10 (by exact ⟨rfl, rfl, rfl, rfl, rfl, rfl, trivial⟩) ⟨h, hB⟩
    · replace h := h.2 hb2
      refine CW.exit ?_
      refine XW.then ?_
      refine XW.then ?_
      refine XW.hit ?_
      refine NW.then ?_
      refine CW.seq ?_
      refine CW.region fun L hL => ?_
      refine LW.rd hL rfl (Wants.free rfl) rfl (Rd.build (v := .agg #[.int .i64 2, .int .i64 2]) rfl (fun _ => by kernel_rfl)) ?_
      refine LW.rd hL rfl (Wants.free rfl) rfl (Rd.move (v := .slice acts1 acts1n acts1c) rfl) ?_
      refine LW.call hL rfl (Wants.free rfl) rfl (Cl.fn (f := 5) rfl Tryz.func5 (by kernel_rfl) rfl) h (fun e w10 h_ => ?_)
      clear h
      obtain ⟨r3, rfl, h⟩ := h_
      refine ⟨_, rfl, ?_⟩
      refine LW.rd hL rfl (Wants.free rfl) rfl (Rd.assign (v := .bool r3) rfl) ?_
      refine LW.nil hL rfl ?_
      refine NW.then ?_
      refine CW.ret ?_
      exact res1 rfl rfl ⟨r3, rfl, h⟩

end Go.Proofs.YtfcfkhbkkfpehaaGreat
end

/- XFmarksW -/
section
/- FlowMarks' walk: its acts are laid in a row of its own. -/
set_option linter.unusedVariables false
set_option linter.unusedSimpArgs false
set_option maxRecDepth 100000
namespace Go.Proofs.YtfcfkhbkkfpehaaGreat
open Go Go.RowKit Go.X Go.XR

/-- Three numbers each, that lie somewhere. -/
structure ThreesAt (w : World) (S : Nat → Prop) (p : Option Addr) (n : Nat) (l : List (Int × Int × Int)) : Prop where
  length : l.length = n
  each : ∀ (j : Nat) (x : Int × Int × Int), l[j]? = some x → i64s x.1 ∧ i64s x.2.1 ∧ i64s x.2.2 ∧ ∃ a, p = some a ∧ S a.block ∧ CellsAt w (a.add (j * 3)) 0 [.int .i64 x.1, .int .i64 x.2.1, .int .i64 x.2.2]
def encAct (a : ActV) : List Value := [.int .i64 a.kind, .int .i64 a.n, .int .i64 a.p.1, .int .i64 a.p.2, .int .u32 a.set, .slice none 0 0]
def actOf (k : Int) (x : Int × Int × Int) : ActV := ⟨1, x.2.1, (k, x.1), IntKind.wrap .u32 (Int.tmod (if x.2.2 < 0 then 0 else x.2.2) 70000), []⟩
theorem append_act {w : World} {p : Option Addr} {n c : Nat} {out : List ActV} (h : RowAt w 79 6 p n c (out.flatMap encAct)) {b : Nat} {x : ActV} (hb : w.heap[b]? = some (.cells (encAct x).toArray 79 (0, 0))) (hn : n ≤ 1000000000) :
    ∃ p' c' w', (Builtin.append_ #[69, 69] 69 #[.slice p n c, .slice (some (⟨b, 0, none⟩ : Addr)) 1 1]).run Tryz.prog w = .ok (.slice p' (n + 1) c') w' ∧ RowAt w' 79 6 p' (n + 1) c' ((out ++ [x]).flatMap encAct) ∧ Chg (rowB p) w w' ∧
      (∀ i ∈ rowB p', i ∈ rowB p ∨ w.heap.size ≤ i) := by
  obtain ⟨p', c', w', h1, h2, h3, h4⟩ := h.append (P := Tryz.prog) (t := 69) (ty := 69) (i := Tryz.t79) (z := .agg #[.int .i64 0, .int .i64 0, .int .i64 0, .int .i64 0, .int .u32 0, .slice none 0 0]) (bytes := 64) (by kernel_rfl) (by kernel_rfl) (by kernel_rfl) (by kernel_rfl) (by kernel_rfl) rfl (by omega)
    (a := ⟨b, 0, none⟩) (m := 1) (mc := 1) (news := encAct x) rfl (fun i u hi => by
      rw [add_at, cell_of hb, Nat.zero_add]; simpa using hi) (by simp [encAct, Value.oneCell']) (by simp only [maxLen]; omega) (by omega)
  exact ⟨p', c', w', h1, by simpa [List.flatMap_append] using h2, h3, h4⟩

theorem fmarks_walk {w : World} {l1 : Option Addr} {ln lc : Nat} {l : List (Int × Int × Int)} (hA : ThreesAt w (oldS w) l1 ln l) (hln : ln ≤ maxLen) (disk : Bool) :
    Calls Tryz.prog 6 #[.slice l1 ln lc, .bool disk] w fun e w' => ∃ r : Bool, e = .returned (.bool r) ∧ (r = true ∧ Chg [] w w') := by
  have hal := hA.length
  have hln' := hln
  simp only [maxLen] at hln'
  refine go_pomanderlaw12_FlowMarks _ _ _ _ _ _ ?_
  unfold W_pomanderlaw12_FlowMarks
  refine ⟨fun _ => ?_, fun hb => ?_⟩
  · refine (known12 w).mono ?_
    rintro _ w1 ⟨_, rfl, rfl, c1⟩
    exact ⟨_, rfl, rfl, c1⟩
  have h12 : ln ≤ 12 := by have := of_decide_eq_false hb; omega
  generalize hk : (if disk then (12 : Int) else 10) = k
  refine ⟨fun p n c i w' => ∃ j : Nat, i = j ∧ j ≤ ln ∧ n = j ∧ RowAt w' 79 6 p n c (((l.take j).map (actOf k)).flatMap encAct) ∧ (∀ b ∈ rowB p, w.heap.size ≤ b) ∧ Chg [] w w', fun _ _ _ i _ => ln - i.toNat,
    ⟨0, rfl, Nat.zero_le _, rfl, RowAt.nil, by simp [rowB], Chg.refl _ _⟩, ?_⟩
  rintro p n c _ w2 ⟨j, rfl, hj, rfl, hrow, hfr, c2⟩
  have s2 := c2.size
  refine ⟨fun hlt => ?_, fun hge => ?_⟩
  · have hjl : n < ln := by have := of_decide_eq_true hlt; omega
    obtain ⟨x, hx⟩ := get_of (l := l) (j := n) (by omega)
    obtain ⟨k1, k2, k3, a, rfl, hS, hc⟩ := hA.each n x hx
    have ej : Int.toNat (n : Int) = n := by omega
    rw [ej]
    have cc : ∀ {W : World}, Chg [] w W → W.cell? ((a.add (n * 3)).add (Int.toNat 0 * 1)) = some (.int .i64 x.1) ∧ W.cell? ((a.add (n * 3)).add (Int.toNat 1 * 1)) = some (.int .i64 x.2.1) ∧ W.cell? ((a.add (n * 3)).add (Int.toNat 2 * 1)) = some (.int .i64 x.2.2) := fun hW => by
      have h := hW.cells (f := []) (by simp) hc
      exact ⟨h.1, h.2.1, h.2.2.1⟩
    refine ⟨a, rfl, by omega, by omega, by omega, by omega, x.1, (cc c2).1, ?_⟩
    rintro b1 w4 ⟨i1, j1⟩ c4
    have s4 := c4.size
    have hlr := hrow.lt
    refine ⟨fun cc' w' => cc' = k ∧ Chg [b1] w4 w', ?_, fun hd w9 c9 => ⟨by rw [← hk, hd]; rfl, c9⟩, fun hd => ⟨by rw [← hk, hd]; rfl, Chg.refl _ _⟩⟩
    rintro z5 w5 ⟨ez, c5⟩ w6 c6
    obtain rfl := ez.symm
    have s5 := c5.size
    have s6 := c6.size
    have c06 : Chg [] w w6 := ((c2.trans0 c4).trans c5 (fun i hi hlt => by simp at hi; omega)).trans0 c6
    have hrow6 : RowAt w6 79 6 p n c (((l.take n).map (actOf k)).flatMap encAct) := ((hrow.chg c4 (by simp)).chg c5 (fun i hi hm => by simp at hm; subst hm; have := hlr i hi; omega)).chg c6 (by simp)
    refine ⟨by omega, by omega, x.2.1, (cc c06).2.1, by omega, by omega, x.2.2, (cc c06).2.2, ?_⟩
    refine v_alloc fun b2 w7 e2 h7 c7 => ?_
    have s7 := c7.size
    obtain ⟨p', c', w8, hap, hrow8, c8, hf8⟩ := append_act (x := actOf k x) (hrow6.chg c7 (by simp)) h7 (by omega)
    refine ⟨p', _, c', w8, hap, ?_⟩
    rw [wr (by omega) (by omega)]
    refine ⟨⟨n + 1, by omega, by omega, rfl, ?_, fun b hb => ?_, ?_⟩, by simp only []; omega⟩
    · rw [take_snoc hx, List.map_append]; exact hrow8
    · rcases hf8 b hb with h | h
      · exact hfr b h
      · have := c06.size; omega
    · exact (c06.trans0 c7).trans c8 (fun i hi hlt => by have := hfr i hi; omega)
  · have hge' : ¬ n < ln := by have := of_decide_eq_false hge; omega
    obtain rfl : n = ln := by omega
    rw [List.take_of_length_le (by omega)] at hrow
    have hlen := hrow.length
    have hA2 : ActsAt w2 (oldS w2) p n (l.map (actOf k)) := by
      refine ⟨by simp; omega, fun j y hy => ?_⟩
      obtain ⟨a, rfl, hc⟩ := RowAt.elem (size := 6) (enc := encAct) (fun _ => rfl) hrow hy (by omega)
      rw [List.getElem?_map] at hy
      obtain ⟨x, hx, rfl⟩ := Option.map_eq_some_iff.1 hy
      obtain ⟨k1, k2, k3, _⟩ := hA.each j x hx
      refine ⟨a, none, 0, 0, rfl, by have := cellsAt_lt hc; rwa [add_block] at this, hc, ⟨?_, k1⟩, ?_, k2, ⟨rfl, by intro j t ht; simp [actOf] at ht⟩, by simp [maxLen], by simp [actOf]⟩
      · show i64s k
        rw [← hk]; unfold i64s; split <;> omega
      · simp only [actOf]
        rw [show IntKind.wrap .u32 (Int.tmod (if x.2.2 < 0 then 0 else x.2.2) 70000) = Int.tmod (if x.2.2 < 0 then 0 else x.2.2) 70000 % 4294967296 from rfl]
        omega
    refine (fplay_walk (S := oldS w2) hA2 (fun i h => h) hln).mono ?_
    rintro _ w10 ⟨_, rfl, rfl, c10⟩
    exact ⟨_, rfl, rfl, c2.trans0 c10⟩
end Go.Proofs.YtfcfkhbkkfpehaaGreat
end

/- XOpen4 -/
section
/- Arguments that came in, opened: acts on flows. -/
set_option linter.unusedVariables false
set_option linter.unusedSimpArgs false
namespace Go.Proofs.YtfcfkhbkkfpehaaGreat
open Go Go.RowKit Go.X Go.ChangeShapes Go.WideShapes Go.ChangeAt
section
variable {H : Type} {enc : TypeId × Value → H} {w : World} {base : Nat} {spare : Nat → Bool} {held : Bool} {fuel : Nat} {cs : List Value} {x : DataW H × List MemPlace}
end
end Go.Proofs.YtfcfkhbkkfpehaaGreat
end

/- XOpen5 -/
section
/- Arguments that came in, opened: forms. -/
set_option linter.unusedVariables false
set_option linter.unusedSimpArgs false
namespace Go.Proofs.YtfcfkhbkkfpehaaGreat
open Go Go.RowKit Go.X Go.ChangeShapes Go.WideShapes Go.ChangeAt
section
variable {H : Type} {enc : TypeId × Value → H} {w : World} {base : Nat} {spare : Nat → Bool} {held : Bool} {fuel : Nat} {cs : List Value} {x : DataW H × List MemPlace}
end
end Go.Proofs.YtfcfkhbkkfpehaaGreat
end

/- XOpen6 -/
section
/- Arguments that came in, opened: rows of three numbers. -/
set_option linter.unusedVariables false
set_option linter.unusedSimpArgs false
namespace Go.Proofs.YtfcfkhbkkfpehaaGreat
open Go Go.RowKit Go.X Go.ChangeShapes Go.WideShapes Go.ChangeAt
section
variable {H : Type} {enc : TypeId × Value → H} {w : World} {base : Nat} {spare : Nat → Bool} {held : Bool} {fuel : Nat} {cs : List Value} {x : DataW H × List MemPlace}
theorem open_three (h : DataW.trod enc Tryz.prog w base spare held fuel 82 cs = some x) : ∃ t : Int × Int × Int, cs = [.int .i64 t.1, .int .i64 t.2.1, .int .i64 t.2.2] ∧ i64s t.1 ∧ i64s t.2.1 ∧ i64s t.2.2 := by
  obtain ⟨xs, n, _, _, hl, hlen, hf⟩ := DataW.trod_array Tryz.underlying82 h
  have h0 := hf 0 (by omega)
  have h1 := hf 1 (by omega)
  have h2 := hf 2 (by omega)
  simp only [cells3] at h0 h1 h2
  rw [show Tryz.prog.cellsOf 82 = 3 by kernel_rfl] at hl
  rw [List.getElem?_eq_getElem (by omega)] at h0 h1 h2
  obtain ⟨a, e0, _, w0⟩ := DataW.trod_int un3 h0
  obtain ⟨b, e1, _, w1⟩ := DataW.trod_int un3 h1
  obtain ⟨c, e2, _, w2⟩ := DataW.trod_int un3 h2
  obtain ⟨c0, c1, c2, rfl⟩ := len3 hl
  simp at e0 e1 e2
  subst e0 e1 e2
  exact ⟨(a, b, c), rfl, wf_i64 w0, wf_i64 w1, wf_i64 w2⟩
theorem open_threes (h : DataW.trod enc Tryz.prog w base spare held fuel 81 cs = some x) : ∃ p n c ms, cs = [.slice p n c] ∧ n ≤ maxLen ∧ ThreesAt w (oldS w) p n ms := by
  obtain ⟨p, n, c, rfl, hn, hel⟩ := open_slice Tryz.underlying81 h
  obtain ⟨l, hl, hq⟩ := list_of (Q := fun j (x : Int × Int × Int) => i64s x.1 ∧ i64s x.2.1 ∧ i64s x.2.2 ∧ ∃ a, p = some a ∧ oldS w a.block ∧ CellsAt w (a.add (j * 3)) 0 [.int .i64 x.1, .int .i64 x.2.1, .int .i64 x.2.2]) (n := n) (fun i hi => by
    obtain ⟨a, cs', m, y, ha, hc, _, hy⟩ := hel i hi
    obtain ⟨q, rfl, k1, k2, k3⟩ := open_three hy
    rw [show Tryz.prog.cellsOf 82 = 3 by kernel_rfl] at hc
    exact ⟨q, k1, k2, k3, a, ha, by have := cellsAt_lt hc; rwa [add_block] at this, hc⟩)
  exact ⟨p, n, c, l, rfl, hn, hl, hq⟩
end
end Go.Proofs.YtfcfkhbkkfpehaaGreat
end

/- XStep -/
section
/- What every row's step needs. -/
set_option linter.unusedVariables false
namespace Go.Proofs.YtfcfkhbkkfpehaaGreat
open Go Go.RowKit Go.X
theorem ownX : ownKnob Tryz.prog.godebug = none := by kernel_rfl
theorem laidOutX : laidOutB Tryz.prog = true := by kernel_rfl
end Go.Proofs.YtfcfkhbkkfpehaaGreat
end
