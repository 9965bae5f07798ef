import Derived.Test.YtkfncibmfcdokaaProg
import Derived.Test.YtkfncibmfcdokaaXEq
import Derived.Test.YtkfncibmfcdokaaXLoc
import Derived.Test.YtkfncibmfcdokaaXRange
set_option linter.unusedVariables false
set_option linter.unusedSimpArgs false
namespace Go.Proofs.Ytkfncibmfcdokaa
open Go Go.X

/- pomander/pomanderlaw03.ShadowMakes -/
def W_pomanderlaw03_ShadowMakes (pages1 : Int) (w : World) (R : Bool → World → Prop) : Prop :=
  ∀ (b1 : Nat) (w1 : World), (w.heap.size ≤ b1 ∧ b1 < w1.heap.size) → Chg [] w w1 → (Calls Try.prog 51 #[.int .i64 pages1] w1 fun e w2 => ∃ (r2 : Option Addr) (r3 : Int), e = .returned (.tuple #[.pointer r2, .int .i64 r3]) ∧ (Same w1 w2 [b1] ∧ (Calls Try.prog 42 #[.pointer none, .int .i64 0] w2 fun e w3 => ∃ (r4 : Int) (r5 : Int), e = .returned (.tuple #[.int .u32 r4, .int .i64 r5]) ∧ (Same w2 w3 [b1] ∧ (Calls Try.prog 46 #[.pointer none, .int .i64 0, .int .i64 0] w3 fun e w4 => ∃ (r6 : Int) (r7 : Int), e = .returned (.tuple #[.int .u32 r6, .int .i64 r7]) ∧ (Same w3 w4 [b1] ∧ (Calls Try.prog 50 #[.pointer none] w4 fun e w5 => ∃ (r8 : Value), e = .returned (r8) ∧ (Same w4 w5 [b1] ∧ (∃ (t1 : Bool), (∀ w : World, ((do eqGuard .eql 111 (.tmp 26) (.const (.nilFunc)) (r8) (.nilFunc); binOp .eql 111 (r8) (.nilFunc) : Sem Value)).run Try.prog w = .ok (.bool t1) w) ∧ ((t1 = true → ∀ (w6 : World), Chg [b1] w5 w6 → (R false w6)) ∧ (t1 = false → Calls Try.prog 50 #[.pointer none] w5 fun e w7 => ∃ (r9 : Value), e = .returned (r9) ∧ (Same w5 w7 [b1] ∧ (∃ (S1 Sp1 : List (Int × Int) → Prop) (keep1 : List Nat), XR.IsFn Try.prog r9 ∧ XR.Iterates Try.prog r9 (fun x : Int × Int => #[.int .i64 x.1, .int .u32 x.2]) S1 Sp1 keep1 w7 ∧ (∀ i_ ∈ keep1, i_ < w7.heap.size) ∧ ∃ (I1 : List Nat → List (Int × Int) → World → Prop) (X1 : Bool → List Nat → List (Int × Int) → World → Prop), (∀ (pre_ : List (Int × Int)), XR.Stab w7 (fun O_ w_ => I1 O_ pre_ w_)) ∧ (∀ (c1 : Bool) (pre_ : List (Int × Int)), XR.Stab w7 (fun O_ w_ => X1 c1 O_ pre_ w_)) ∧ (∀ (O1 : List Nat) (w8 : World), Chg [] w7 w8 → XR.InO w7 O1 w8 → I1 O1 ([]) w8) ∧ (∀ (l1 : Nat) (O1 : List Nat) (pre1 : List (Int × Int)) (x1 : Int) (x2 : Int) (w8 : World), XR.InO w7 O1 w8 → l1 ∈ O1 → Sp1 (pre1 ++ [(x1, x2)]) → I1 O1 pre1 w8 → (∀ (w9 : World), Chg [l1] w8 w9 → (∀ (w10 : World), Chg [b1] w9 w10 → ((w9.heap.size ≤ w10.heap.size ∧ X1 false O1 (pre1 ++ [(x1, x2)]) w10 ∧ Same w9 w10 (keep1 ++ O1)))))) ∧ (∀ (d1 : Nat) (O2 : List Nat) (xs1 : List (Int × Int)) (w11 : World), XR.InO w7 O2 w11 → d1 ∈ O2 → S1 xs1 → I1 O2 xs1 w11 → (Calls Try.prog 44 #[.int .i64 r5] w11 fun e w12 => ∃ (r10 : Int), e = .returned (.int .i64 r10) ∧ (Same w11 w12 [b1, d1] ∧ (∃ J1 : Bool → World → Prop, (∀ (b2 : Bool) (w13 : World), J1 b2 w13 → ∃ J2 : Bool → World → Prop, (∀ (b3 : Bool) (w15 : World), J2 b3 w15 → ∃ J3 : Bool → World → Prop, (∀ (b4 : Bool) (w18 : World), J3 b4 w18 → ∃ J4 : Bool → World → Prop, (∀ (b5 : Bool) (w21 : World), J4 b5 w21 → ∃ J5 : Bool → World → Prop, (∀ (b6 : Bool) (w23 : World), J5 b6 w23 → ∃ J6 : Bool → World → Prop, (∀ (b7 : Bool) (w25 : World), J6 b7 w25 → ∃ J7 : Bool → World → Prop, (∀ (b8 : Bool) (w27 : World), J7 b8 w27 → ∃ J8 : Bool → World → Prop, (∀ (b9 : Bool) (w29 : World), J8 b9 w29 → ∃ J9 : Bool → World → Prop, (∀ (b10 : Bool) (w31 : World), J9 b10 w31 → (b10 = true → ∀ (w36 : World), Chg [b1] w31 w36 → (∀ w37 : World, Chg [d1] w36 w37 → (R false w37))) ∧ (b10 = false → ((decide (pages1 < 1) || decide (pages1 > 32)) = true → ∃ J12 : Bool → World → Prop, (∀ (b13 : Bool) (w38 : World), J12 b13 w38 → ∃ J13 : Bool → World → Prop, (∀ (b14 : Bool) (w40 : World), J13 b14 w40 → ∀ (w42 : World), Chg [b1] w40 w42 → (∀ w43 : World, Chg [d1] w42 w43 → (R b14 w43))) ∧ ((b13 = true → Calls Try.prog 40 #[] w38 fun e w41 => ∃ (r24 : Bool), e = .returned (.bool r24) ∧ (Same w38 w41 [b1, d1] ∧ (J13 r24 w41))) ∧ (b13 = false → J13 false w38))) ∧ (((Option.isNone r2) = true → Calls Try.prog 44 #[.int .i64 r3] w31 fun e w39 => ∃ (r23 : Int), e = .returned (.int .i64 r23) ∧ (Same w31 w39 [b1, d1] ∧ (J12 (r23 == 2) w39))) ∧ ((Option.isNone r2) = false → J12 false w31))) ∧ ((decide (pages1 < 1) || decide (pages1 > 32)) = false → Calls Try.prog 44 #[.int .i64 r3] w31 fun e w44 => ∃ (r25 : Int), e = .returned (.int .i64 r25) ∧ (Same w31 w44 [b1, d1] ∧ (∃ J14 : Bool → World → Prop, (∀ (b15 : Bool) (w45 : World), J14 b15 w45 → ∃ J15 : Bool → World → Prop, (∀ (b16 : Bool) (w48 : World), J15 b16 w48 → ∀ (w50 : World), Chg [b1] w48 w50 → (∀ w51 : World, Chg [d1] w50 w51 → (R b16 w51))) ∧ ((b15 = true → Calls Try.prog 40 #[] w45 fun e w49 => ∃ (r28 : Bool), e = .returned (.bool r28) ∧ (Same w45 w49 [b1, d1] ∧ (J15 r28 w49))) ∧ (b15 = false → J15 false w45))) ∧ (((r25 == 0) = true → Calls Try.prog 58 #[.int .i64 pages1] w44 fun e w46 => ∃ (r26 : Option Addr) (r26n : Nat) (r26c : Nat), e = .returned (.slice r26 r26n r26c) ∧ (Same w44 w46 [b1, d1] ∧ (Calls Try.prog 45 #[.pointer r2, .slice r26 r26n r26c] w46 fun e w47 => ∃ (r27 : Bool), e = .returned (.bool r27) ∧ (Same w46 w47 [b1, d1] ∧ (J14 r27 w47))))) ∧ ((r25 == 0) = false → J14 false w44))))))) ∧ ((b9 = false → ∃ J10 : Bool → World → Prop, (∀ (b11 : Bool) (w32 : World), J10 b11 w32 → J9 b11 w32) ∧ (((!(Option.isNone r2)) = true → Calls Try.prog 53 #[.pointer r2, .pointer none] w29 fun e w33 => ∃ (r21 : Bool), e = .returned (.bool r21) ∧ (Same w29 w33 [b1, d1] ∧ (∃ J11 : Bool → World → Prop, (∀ (b12 : Bool) (w34 : World), J11 b12 w34 → J10 b12 w34) ∧ ((r21 = false → Calls Try.prog 53 #[.pointer none, .pointer r2] w33 fun e w35 => ∃ (r22 : Bool), e = .returned (.bool r22) ∧ (Same w33 w35 [b1, d1] ∧ (J11 r22 w35))) ∧ (r21 = true → J11 true w33))))) ∧ ((!(Option.isNone r2)) = false → J10 false w29))) ∧ (b9 = true → J9 true w29))) ∧ ((b8 = false → Calls Try.prog 53 #[.pointer none, .pointer none] w27 fun e w30 => ∃ (r20 : Bool), e = .returned (.bool r20) ∧ (Same w27 w30 [b1, d1] ∧ (J8 (!r20) w30))) ∧ (b8 = true → J8 true w27))) ∧ ((b7 = false → Calls Try.prog 57 #[.pointer none] w25 fun e w28 => ∃ (r19 : Option Addr), e = .returned (.pointer r19) ∧ (Same w25 w28 [b1, d1] ∧ (J7 (!(Option.isNone r19)) w28))) ∧ (b7 = true → J7 true w25))) ∧ ((b6 = false → Calls Try.prog 56 #[.pointer none, .int .i64 0] w23 fun e w26 => ∃ (r18 : Bool), e = .returned (.bool r18) ∧ (Same w23 w26 [b1, d1] ∧ (J6 r18 w26))) ∧ (b6 = true → J6 true w23))) ∧ ((b5 = false → Calls Try.prog 55 #[.pointer none] w21 fun e w24 => ∃ (r17 : Int), e = .returned (.int .i64 r17) ∧ (Same w21 w24 [b1, d1] ∧ (J5 (!(r17 == 0)) w24))) ∧ (b5 = true → J5 true w21))) ∧ ((b4 = false → Calls Try.prog 54 #[.pointer none] w18 fun e w22 => ∃ (r16 : Int), e = .returned (.int .i64 r16) ∧ (Same w18 w22 [b1, d1] ∧ (J4 (!(r16 == 0)) w22))) ∧ (b4 = true → J4 true w18))) ∧ ((b3 = false → Calls Try.prog 49 #[.pointer none, .int .i64 0, .int .i64 0, .int .u32 0] w15 fun e w19 => ∃ (r14 : Int), e = .returned (.int .i64 r14) ∧ (Same w15 w19 [b1, d1] ∧ (Calls Try.prog 44 #[.int .i64 r14] w19 fun e w20 => ∃ (r15 : Int), e = .returned (.int .i64 r15) ∧ (Same w19 w20 [b1, d1] ∧ (J3 (!(r15 == 1)) w20))))) ∧ (b3 = true → J3 true w15))) ∧ ((b2 = false → Calls Try.prog 52 #[.pointer none, .int .i64 0, .int .u32 0] w13 fun e w16 => ∃ (r12 : Int), e = .returned (.int .i64 r12) ∧ (Same w13 w16 [b1, d1] ∧ (Calls Try.prog 44 #[.int .i64 r12] w16 fun e w17 => ∃ (r13 : Int), e = .returned (.int .i64 r13) ∧ (Same w16 w17 [b1, d1] ∧ (J2 (!(r13 == 1)) w17))))) ∧ (b2 = true → J2 true w13))) ∧ (((!(r10 == 1)) = false → Calls Try.prog 44 #[.int .i64 r7] w12 fun e w14 => ∃ (r11 : Int), e = .returned (.int .i64 r11) ∧ (Same w12 w14 [b1, d1] ∧ (J1 (!(r11 == 1)) w14))) ∧ ((!(r10 == 1)) = true → J1 true w12)))))) ∧ (∀ (d2 : Nat) (O3 : List Nat) (xs2 : List (Int × Int)) (c1 : Bool) (w52 : World), XR.InO w7 O3 w52 → d2 ∈ O3 → Sp1 xs2 → X1 c1 O3 xs2 w52 → (∀ w53 : World, Chg [d2] w52 w53 → (R c1 w53))))))))))))))))
set_option maxRecDepth 100000 in
theorem go_pomanderlaw03_ShadowMakes (pages1 : Int) (w : World) (R : Bool → World → Prop) (h : W_pomanderlaw03_ShadowMakes pages1 w R) : Calls Try.prog 13 #[.int .i64 pages1] w (fun e w' => ∃ (r1 : Bool), e = .returned (.bool r1) ∧ R r1 w') := by
  unfold W_pomanderlaw03_ShadowMakes at h
  refine XR.enterM (N := 118) Try.func13 rfl rfl ?_
  refine CW.seq ?_
  refine CW.region fun L hL => ?_
  obtain ⟨b1, hb_b1⟩ : ∃ b1, b1 = World.size w := ⟨_, rfl⟩
  obtain ⟨w1, hw_w1⟩ : ∃ w1, w1 = World.alloc w (.cells #[.bool false] 4) := ⟨_, rfl⟩
  refine LW.val hL rfl (Wants.free rfl) rfl (boxE hb_b1 hw_w1 (Vl.alloc (z := .bool false) (by kernel_rfl))) ?_
  have hB := Boxes.alloc (cs := [.bool false]) (T := 4) (Boxes.nil w) hb_b1 hw_w1
  have hlo_b1 := sil_lo (Chg.refl [] w) hb_b1
  have hc_w1 := sil_alloc (Chg.refl [] w) hw_w1
  refine LW.nil hL rfl ?_
  refine NW.then ?_
  refine CW.seq ?_
  refine CW.region fun L hL => ?_
  refine LW.rd hL rfl (Wants.free rfl) rfl (Rd.move (v := .int .i64 pages1) rfl) ?_
  replace h := h b1 w1 ⟨hlo_b1, lt_of_heap (hB.at (i := 0) rfl)⟩ hc_w1
  refine LW.call hL rfl (Wants.free rfl) rfl (Cl.fn (f := 51) rfl Try.func51 (by kernel_rfl) rfl) h (fun e w2 h_ => ?_)
  clear h
  obtain ⟨r2, r3, rfl, h⟩ := h_
  obtain ⟨hsm1, h⟩ := h
  replace hB := Boxes.sameS hB hsm1 (by simp)
  refine ⟨_, rfl, ?_⟩
  refine LW.rd hL rfl (Wants.free rfl) rfl (Rd.move (v := .tuple #[.pointer r2, .int .i64 r3]) rfl) ?_
  refine LW.rd hL rfl (Wants.free rfl) rfl (Rd.extract (v := .pointer r2) rfl rfl) ?_
  refine LW.rd hL rfl (Wants.free rfl) rfl (Rd.extract (v := .int .i64 r3) rfl rfl) ?_
  refine LW.rd hL rfl (Wants.free rfl) rfl (Rd.assign (v := .pointer r2) rfl) ?_
  refine LW.rd hL rfl (Wants.free rfl) rfl (Rd.assign (v := .int .i64 r3) rfl) ?_
  refine LW.nil hL rfl ?_
  refine NW.then ?_
  refine CW.seq ?_
  refine CW.region fun L hL => ?_
  refine LW.rd hL rfl (Wants.free rfl) rfl (Rd.assign (v := .pointer none) rfl) ?_
  refine LW.nil hL rfl ?_
  refine NW.then ?_
  refine CW.seq ?_
  refine CW.region fun L hL => ?_
  refine LW.rd hL rfl (Wants.free rfl) rfl (Rd.move (v := .pointer none) rfl) ?_
  refine LW.call hL rfl (Wants.free rfl) rfl (Cl.fn (f := 42) rfl Try.func42 (by kernel_rfl) rfl) h (fun e w3 h_ => ?_)
  clear h
  obtain ⟨r4, r5, rfl, h⟩ := h_
  obtain ⟨hsm2, h⟩ := h
  replace hB := Boxes.sameS hB hsm2 (by simp)
  refine ⟨_, rfl, ?_⟩
  refine LW.rd hL rfl (Wants.free rfl) rfl (Rd.move (v := .tuple #[.int .u32 r4, .int .i64 r5]) rfl) ?_
  refine LW.rd hL rfl (Wants.free rfl) rfl (Rd.extract (v := .int .u32 r4) rfl rfl) ?_
  refine LW.rd hL rfl (Wants.free rfl) rfl (Rd.extract (v := .int .i64 r5) rfl rfl) ?_
  refine LW.rd hL rfl (Wants.free rfl) rfl (Rd.assign (v := .int .u32 r4) rfl) ?_
  refine LW.rd hL rfl (Wants.free rfl) rfl (Rd.assign (v := .int .i64 r5) rfl) ?_
  refine LW.nil hL rfl ?_
  refine NW.then ?_
  refine CW.seq ?_
  refine CW.region fun L hL => ?_
  refine LW.rd hL rfl (Wants.free rfl) rfl (Rd.move (v := .pointer none) rfl) ?_
  refine LW.call hL rfl (Wants.free rfl) rfl (Cl.fn (f := 46) rfl Try.func46 (by kernel_rfl) rfl) h (fun e w4 h_ => ?_)
  clear h
  obtain ⟨r6, r7, rfl, h⟩ := h_
  obtain ⟨hsm3, h⟩ := h
  replace hB := Boxes.sameS hB hsm3 (by simp)
  refine ⟨_, rfl, ?_⟩
  refine LW.rd hL rfl (Wants.free rfl) rfl (Rd.move (v := .tuple #[.int .u32 r6, .int .i64 r7]) rfl) ?_
  refine LW.rd hL rfl (Wants.free rfl) rfl (Rd.extract (v := .int .u32 r6) rfl rfl) ?_
  refine LW.rd hL rfl (Wants.free rfl) rfl (Rd.extract (v := .int .i64 r7) rfl rfl) ?_
  refine LW.rd hL rfl (Wants.free rfl) rfl (Rd.assign (v := .int .u32 r6) rfl) ?_
  refine LW.rd hL rfl (Wants.free rfl) rfl (Rd.assign (v := .int .i64 r7) rfl) ?_
  refine LW.nil hL rfl ?_
  refine NW.then ?_
  refine CW.seq ?_
  refine CW.seq ?_
  refine CW.region fun L hL => ?_
  refine LW.rd hL rfl (Wants.free rfl) rfl (Rd.move (v := .pointer none) rfl) ?_
  refine LW.call hL rfl (Wants.free rfl) rfl (Cl.fn (f := 50) rfl Try.func50 (by kernel_rfl) rfl) h (fun e w5 h_ => ?_)
  clear h
  obtain ⟨r8, rfl, h⟩ := h_
  obtain ⟨hsm4, h⟩ := h
  replace hB := Boxes.sameS hB hsm4 (by simp)
  refine ⟨_, rfl, ?_⟩
  obtain ⟨t1, hx1, h⟩ := h
  refine LW.rd hL rfl (Wants.free rfl) rfl (Rd.bin (v := .bool t1) rfl rfl hx1) ?_
  refine LW.nil hL rfl ?_
  refine NW.then ?_
  refine CW.cond rfl (fun hb1 => ?_) (fun hb1 => ?_)
  · replace h := h.1 hb1
    refine CW.seq ?_
    refine CW.region fun L hL => ?_
    obtain ⟨w6, hw_w6⟩ : ∃ x, x = World.setCell w5 (⟨b1, 0, none⟩ : Addr) (.bool false) := ⟨_, rfl⟩
    refine LW.eff hL rfl (Wants.free rfl) rfl (stE hw_w6 (Ef.st rfl rfl rfl (by kernel_rfl) (box_cell (v := .bool false) (hB.at (i := 0) rfl) rfl) (free_of (hB.at (i := 0) rfl) 0))) ?_
    replace hB : Boxes w6 [(b1, [.bool false], 4)] := Boxes.store1  (i := 0) (o := 0) hB rfl rfl rfl rfl hw_w6
    have hc_w6 : Chg [b1] w5 w6 := sil_more (Chg.refl [] w5) (sil_c1 hw_w6)
    refine LW.nil hL rfl ?_
    refine NW.then ?_
    replace h := h  w6  hc_w6
    refine CW.ret ?_
    refine RW.then ?_
    exact XR.res0M (vs := [.bool false]) (by exact (ResOK.c rfl (lv1 (by kernel_rfl) (box_cell (Boxes.at (i := 0) hB rfl) rfl)) ResOK.nil)) rfl ⟨false, rfl, h⟩
  · replace h := h.2 hb1
    refine CW.skip ?_
    refine NW.then ?_
    refine CW.seq ?_
    refine CW.seq ?_
    refine CW.region fun L hL => ?_
    refine LW.rd hL rfl (Wants.free rfl) rfl (Rd.move (v := .pointer none) rfl) ?_
    refine LW.call hL rfl (Wants.free rfl) rfl (Cl.fn (f := 50) rfl Try.func50 (by kernel_rfl) rfl) h (fun e w7 h_ => ?_)
    clear h
    obtain ⟨r9, rfl, h⟩ := h_
    obtain ⟨hsm5, h⟩ := h
    replace hB := Boxes.sameS hB hsm5 (by simp)
    refine ⟨_, rfl, ?_⟩
    refine LW.nil hL rfl ?_
    refine NW.then ?_
    refine CW.block ?_
    obtain ⟨S1, Sp1, keep1, hfn_, hit_, hkp_, I1, X1, hst_I1, hst_X1, h0_, hrd_, hdn_, hso_X1⟩ := h
    refine XR.CW.rangeV (α := Int × Int) (enc := (fun x : Int × Int => #[.int .i64 x.1, .int .u32 x.2])) (S := S1) (Sp := Sp1) (keep := keep1) rfl hfn_ (fun _ => rfl) (by decide) hit_ (fun (O_ : List Nat) (pre_ : List (Int × Int)) (w_ : World) => I1 O_ pre_ w_ ∧ ∃ (u1 : Value), Boxes w_ [(b1, [u1], 4)]) (fun (c_ : Code) (O_ : List Nat) (pre_ : List (Int × Int)) (w_ : World) => (c_ = Code.ret ∧ ∃ (c1 : Bool), X1 c1 O_ pre_ w_ ∧ Boxes w_ [(b1, [.bool c1], 4)])) ?_ ?_ ?_ hkp_ ?_ ?_ ?_
    · intro pre_ O_ O2_ A_ B_ hi_ hO_ hc_ hO2_ hg_
      have hB0_ := hB
      obtain ⟨hi_, u1, hB⟩ := hi_
      exact ⟨hst_I1  pre_ O_ O2_ A_ B_ hi_ hO_ hc_ hO2_ hg_, u1, hB.stab hB0_ rfl hO_ hc_⟩
    · intro c_ pre_ O_ O2_ A_ B_ hi_ hO_ hc_ hO2_ hg_
      have hB0_ := hB
      rcases hi_ with ⟨hcc_, c1, hi_, hB⟩
      · exact ⟨hcc_, c1, hst_X1 c1 pre_ O_ O2_ A_ B_ hi_ hO_ hc_ hO2_ hg_, hB.stab hB0_ rfl hO_ hc_⟩
    · intro O_ A_ hc_ hO_
      exact ⟨h0_ O_ A_ hc_ hO_, .bool false, Boxes.chg hB hc_ (by simp)⟩
    · intro l1 O1 pre1 x_ w8 hO_ hl_ hSp_ hi_
      obtain ⟨x1, x2⟩ := x_
      obtain ⟨hi_, u1, hB⟩ := hi_
      have h := hrd_ l1 O1 pre1 x1 x2 w8 hO_ hl_ hSp_ hi_
      refine XR.CW.skip ?_
      refine XR.NW.begin (Chg.refl [] w8) (fun w9 hcb_w9 hlp_ hib_ => ?_)
      have hc_w9 : Chg [l1] w8 w9 := sil_more (Chg.refl [] w8) hcb_w9
      replace hB := hB.notloop hlp_ hcb_w9
      replace h := h  w9  hc_w9
      refine XR.CW.block ?_
      refine XR.CW.seq ?_
      refine XR.CW.region fun L hL => ?_
      obtain ⟨w10, hw_w10⟩ : ∃ x, x = World.setCell w9 (⟨b1, 0, none⟩ : Addr) (.bool false) := ⟨_, rfl⟩
      refine XR.LW.eff hL rfl (Wants.free rfl) rfl (stE hw_w10 (Ef.st rfl rfl rfl (by kernel_rfl) (box_cell (v := u1) (hB.at (i := 0) rfl) rfl) (free_of (hB.at (i := 0) rfl) 0))) ?_
      replace hB : Boxes w10 [(b1, [.bool false], 4)] := Boxes.store1  (i := 0) (o := 0) hB rfl rfl rfl rfl hw_w10
      have hc_w10 : Chg [b1] w9 w10 := sil_more (Chg.refl [] w9) (sil_c1 hw_w10)
      refine XR.LW.nil hL rfl ?_
      refine XR.NW.then ?_
      refine XR.CW.ret ?_
      refine RW.block ?_
      replace h := h  w10  hc_w10
      exact fun a_ ha_ => ⟨h.1, (⟨rfl, false, h.2.1, hB⟩), h.2.2⟩
    · intro d1 O2 xs1 w11 hO_ hd_ hdh_ hS_ hi_
      obtain ⟨hi_, u1, hB⟩ := hi_
      have h := hdn_ d1 O2 xs1 w11 hO_ hd_ hS_ hi_
      have hK := XR.Marks.cons (XR.Marks.nil _) hdh_ (by simp)
      refine NW.block ?_
      refine NW.then ?_
      refine CW.seq ?_
      refine CW.seq ?_
      refine CW.region fun L hL => ?_
      refine LW.rd hL rfl (Wants.free rfl) rfl (Rd.move (v := .int .i64 r5) rfl) ?_
      refine LW.call hL rfl (Wants.free rfl) rfl (Cl.fn (f := 44) rfl Try.func44 (by kernel_rfl) rfl) h (fun e w12 h_ => ?_)
      clear h
      obtain ⟨r10, rfl, h⟩ := h_
      obtain ⟨hsm6, h⟩ := h
      replace hB := Boxes.sameS hB hsm6 (by simp)
      replace hK := XR.Marks.same hK hsm6 (by simp)
      refine ⟨_, rfl, ?_⟩
      refine LW.rd hL rfl (Wants.free rfl) rfl (Rd.bin (v := .bool (!(r10 == 1))) rfl rfl (fun w => by kernel_rfl)) ?_
      refine LW.rd hL rfl (Wants.free rfl) rfl (Rd.move (v := .bool (!(r10 == 1))) rfl) ?_
      obtain ⟨J1, hJ1, h1_J1, h0_J1⟩ := h
      suffices K1 : ∀ (b2 : Bool) (w13 : World), XR.Marks w13 [d1] → Boxes w13 [(b1, [u1], 4)] → J1 b2 w13 → L 8 [(0, .int .i64 pages1), (2, .pointer (some (⟨b1, 0, none⟩ : Addr))), (3, .pointer r2), (4, .int .i64 r3), (5, .pointer none), (39, .bool b2)] w13 by
        rcases Bool.eq_false_or_eq_true (!(r10 == 1)) with hb2 | hb2
        · have h := h0_J1 hb2
          refine LW.skip hL rfl (Skips.on rfl rfl rfl rfl rfl hb2) rfl ?_
          refine LW.skip hL rfl (Skips.on rfl rfl rfl rfl rfl hb2) rfl ?_
          refine LW.skip hL rfl (Skips.on rfl rfl rfl rfl rfl hb2) rfl ?_
          refine LW.rd hL rfl (Wants.free rfl) rfl (Rd.pickT rfl hb2 rfl) ?_
          exact LW.sub hL (by exact ⟨rfl, rfl, rfl, rfl, rfl, rfl, trivial⟩) (K1 true w12 hK (by exact hB) h)
        · have h := h1_J1 hb2
          refine LW.rd hL rfl (Wants.on rfl rfl rfl rfl rfl hb2) rfl (Rd.move (v := .int .i64 r7) rfl) ?_
          refine LW.call hL rfl (Wants.on rfl rfl rfl rfl rfl hb2) rfl (Cl.fn (f := 44) rfl Try.func44 (by kernel_rfl) rfl) h (fun e w14 h_ => ?_)
          clear h
          obtain ⟨r11, rfl, h⟩ := h_
          obtain ⟨hsm7, h⟩ := h
          replace hB := Boxes.sameS hB hsm7 (by simp)
          replace hK := XR.Marks.same hK hsm7 (by simp)
          refine ⟨_, rfl, ?_⟩
          refine LW.rd hL rfl (Wants.on rfl rfl rfl rfl rfl hb2) rfl (Rd.bin (v := .bool (!(r11 == 1))) rfl rfl (fun w => by kernel_rfl)) ?_
          refine LW.rd hL rfl (Wants.free rfl) rfl (Rd.pickF rfl hb2 rfl) ?_
          exact LW.sub hL (by exact ⟨rfl, rfl, rfl, rfl, rfl, rfl, trivial⟩) (K1 (!(r11 == 1)) w14 hK (by exact hB) h)
      intro b2 w13 hK hB h_
      have h := hJ1 b2 w13 h_; clear h_
      refine LW.rd hL rfl (Wants.free rfl) rfl (Rd.move (v := .bool b2) rfl) ?_
      obtain ⟨J2, hJ2, h1_J2, h0_J2⟩ := h
      suffices K2 : ∀ (b3 : Bool) (w15 : World), XR.Marks w15 [d1] → Boxes w15 [(b1, [u1], 4)] → J2 b3 w15 → L 14 [(0, .int .i64 pages1), (2, .pointer (some (⟨b1, 0, none⟩ : Addr))), (3, .pointer r2), (4, .int .i64 r3), (5, .pointer none), (45, .bool b3)] w15 by
        rcases Bool.eq_false_or_eq_true b2 with hb3 | hb3
        · have h := h0_J2 hb3
          refine LW.skip hL rfl (Skips.on rfl rfl rfl rfl rfl hb3) rfl ?_
          refine LW.skip hL rfl (Skips.on rfl rfl rfl rfl rfl hb3) rfl ?_
          refine LW.skip hL rfl (Skips.on rfl rfl rfl rfl rfl hb3) rfl ?_
          refine LW.skip hL rfl (Skips.on rfl rfl rfl rfl rfl hb3) rfl ?_
          refine LW.rd hL rfl (Wants.free rfl) rfl (Rd.pickT rfl hb3 rfl) ?_
          exact LW.sub hL (by exact ⟨rfl, rfl, rfl, rfl, rfl, rfl, trivial⟩) (K2 true w13 hK (by exact hB) h)
        · have h := h1_J2 hb3
          refine LW.rd hL rfl (Wants.on rfl rfl rfl rfl rfl hb3) rfl (Rd.move (v := .pointer none) rfl) ?_
          refine LW.call hL rfl (Wants.on rfl rfl rfl rfl rfl hb3) rfl (Cl.fn (f := 52) rfl Try.func52 (by kernel_rfl) rfl) h (fun e w16 h_ => ?_)
          clear h
          obtain ⟨r12, rfl, h⟩ := h_
          obtain ⟨hsm8, h⟩ := h
          replace hB := Boxes.sameS hB hsm8 (by simp)
          replace hK := XR.Marks.same hK hsm8 (by simp)
          refine ⟨_, rfl, ?_⟩
          refine LW.call hL rfl (Wants.on rfl rfl rfl rfl rfl hb3) rfl (Cl.fn (f := 44) rfl Try.func44 (by kernel_rfl) rfl) h (fun e w17 h_ => ?_)
          clear h
          obtain ⟨r13, rfl, h⟩ := h_
          obtain ⟨hsm9, h⟩ := h
          replace hB := Boxes.sameS hB hsm9 (by simp)
          replace hK := XR.Marks.same hK hsm9 (by simp)
          refine ⟨_, rfl, ?_⟩
          refine LW.rd hL rfl (Wants.on rfl rfl rfl rfl rfl hb3) rfl (Rd.bin (v := .bool (!(r13 == 1))) rfl rfl (fun w => by kernel_rfl)) ?_
          refine LW.rd hL rfl (Wants.free rfl) rfl (Rd.pickF rfl hb3 rfl) ?_
          exact LW.sub hL (by exact ⟨rfl, rfl, rfl, rfl, rfl, rfl, trivial⟩) (K2 (!(r13 == 1)) w17 hK (by exact hB) h)
      intro b3 w15 hK hB h_
      have h := hJ2 b3 w15 h_; clear h_
      refine LW.rd hL rfl (Wants.free rfl) rfl (Rd.move (v := .bool b3) rfl) ?_
      obtain ⟨J3, hJ3, h1_J3, h0_J3⟩ := h
      suffices K3 : ∀ (b4 : Bool) (w18 : World), XR.Marks w18 [d1] → Boxes w18 [(b1, [u1], 4)] → J3 b4 w18 → L 20 [(0, .int .i64 pages1), (2, .pointer (some (⟨b1, 0, none⟩ : Addr))), (3, .pointer r2), (4, .int .i64 r3), (5, .pointer none), (51, .bool b4)] w18 by
        rcases Bool.eq_false_or_eq_true b3 with hb4 | hb4
        · have h := h0_J3 hb4
          refine LW.skip hL rfl (Skips.on rfl rfl rfl rfl rfl hb4) rfl ?_
          refine LW.skip hL rfl (Skips.on rfl rfl rfl rfl rfl hb4) rfl ?_
          refine LW.skip hL rfl (Skips.on rfl rfl rfl rfl rfl hb4) rfl ?_
          refine LW.skip hL rfl (Skips.on rfl rfl rfl rfl rfl hb4) rfl ?_
          refine LW.rd hL rfl (Wants.free rfl) rfl (Rd.pickT rfl hb4 rfl) ?_
          exact LW.sub hL (by exact ⟨rfl, rfl, rfl, rfl, rfl, rfl, trivial⟩) (K3 true w15 hK (by exact hB) h)
        · have h := h1_J3 hb4
          refine LW.rd hL rfl (Wants.on rfl rfl rfl rfl rfl hb4) rfl (Rd.move (v := .pointer none) rfl) ?_
          refine LW.call hL rfl (Wants.on rfl rfl rfl rfl rfl hb4) rfl (Cl.fn (f := 49) rfl Try.func49 (by kernel_rfl) rfl) h (fun e w19 h_ => ?_)
          clear h
          obtain ⟨r14, rfl, h⟩ := h_
          obtain ⟨hsm10, h⟩ := h
          replace hB := Boxes.sameS hB hsm10 (by simp)
          replace hK := XR.Marks.same hK hsm10 (by simp)
          refine ⟨_, rfl, ?_⟩
          refine LW.call hL rfl (Wants.on rfl rfl rfl rfl rfl hb4) rfl (Cl.fn (f := 44) rfl Try.func44 (by kernel_rfl) rfl) h (fun e w20 h_ => ?_)
          clear h
          obtain ⟨r15, rfl, h⟩ := h_
          obtain ⟨hsm11, h⟩ := h
          replace hB := Boxes.sameS hB hsm11 (by simp)
          replace hK := XR.Marks.same hK hsm11 (by simp)
          refine ⟨_, rfl, ?_⟩
          refine LW.rd hL rfl (Wants.on rfl rfl rfl rfl rfl hb4) rfl (Rd.bin (v := .bool (!(r15 == 1))) rfl rfl (fun w => by kernel_rfl)) ?_
          refine LW.rd hL rfl (Wants.free rfl) rfl (Rd.pickF rfl hb4 rfl) ?_
          exact LW.sub hL (by exact ⟨rfl, rfl, rfl, rfl, rfl, rfl, trivial⟩) (K3 (!(r15 == 1)) w20 hK (by exact hB) h)
      intro b4 w18 hK hB h_
      have h := hJ3 b4 w18 h_; clear h_
      refine LW.rd hL rfl (Wants.free rfl) rfl (Rd.move (v := .bool b4) rfl) ?_
      obtain ⟨J4, hJ4, h1_J4, h0_J4⟩ := h
      suffices K4 : ∀ (b5 : Bool) (w21 : World), XR.Marks w21 [d1] → Boxes w21 [(b1, [u1], 4)] → J4 b5 w21 → L 25 [(0, .int .i64 pages1), (2, .pointer (some (⟨b1, 0, none⟩ : Addr))), (3, .pointer r2), (4, .int .i64 r3), (5, .pointer none), (56, .bool b5)] w21 by
        rcases Bool.eq_false_or_eq_true b4 with hb5 | hb5
        · have h := h0_J4 hb5
          refine LW.skip hL rfl (Skips.on rfl rfl rfl rfl rfl hb5) rfl ?_
          refine LW.skip hL rfl (Skips.on rfl rfl rfl rfl rfl hb5) rfl ?_
          refine LW.skip hL rfl (Skips.on rfl rfl rfl rfl rfl hb5) rfl ?_
          refine LW.rd hL rfl (Wants.free rfl) rfl (Rd.pickT rfl hb5 rfl) ?_
          exact LW.sub hL (by exact ⟨rfl, rfl, rfl, rfl, rfl, rfl, trivial⟩) (K4 true w18 hK (by exact hB) h)
        · have h := h1_J4 hb5
          refine LW.rd hL rfl (Wants.on rfl rfl rfl rfl rfl hb5) rfl (Rd.move (v := .pointer none) rfl) ?_
          refine LW.call hL rfl (Wants.on rfl rfl rfl rfl rfl hb5) rfl (Cl.fn (f := 54) rfl Try.func54 (by kernel_rfl) rfl) h (fun e w22 h_ => ?_)
          clear h
          obtain ⟨r16, rfl, h⟩ := h_
          obtain ⟨hsm12, h⟩ := h
          replace hB := Boxes.sameS hB hsm12 (by simp)
          replace hK := XR.Marks.same hK hsm12 (by simp)
          refine ⟨_, rfl, ?_⟩
          refine LW.rd hL rfl (Wants.on rfl rfl rfl rfl rfl hb5) rfl (Rd.bin (v := .bool (!(r16 == 0))) rfl rfl (fun w => by kernel_rfl)) ?_
          refine LW.rd hL rfl (Wants.free rfl) rfl (Rd.pickF rfl hb5 rfl) ?_
          exact LW.sub hL (by exact ⟨rfl, rfl, rfl, rfl, rfl, rfl, trivial⟩) (K4 (!(r16 == 0)) w22 hK (by exact hB) h)
      intro b5 w21 hK hB h_
      have h := hJ4 b5 w21 h_; clear h_
      refine LW.rd hL rfl (Wants.free rfl) rfl (Rd.move (v := .bool b5) rfl) ?_
      obtain ⟨J5, hJ5, h1_J5, h0_J5⟩ := h
      suffices K5 : ∀ (b6 : Bool) (w23 : World), XR.Marks w23 [d1] → Boxes w23 [(b1, [u1], 4)] → J5 b6 w23 → L 30 [(0, .int .i64 pages1), (2, .pointer (some (⟨b1, 0, none⟩ : Addr))), (3, .pointer r2), (4, .int .i64 r3), (5, .pointer none), (61, .bool b6)] w23 by
        rcases Bool.eq_false_or_eq_true b5 with hb6 | hb6
        · have h := h0_J5 hb6
          refine LW.skip hL rfl (Skips.on rfl rfl rfl rfl rfl hb6) rfl ?_
          refine LW.skip hL rfl (Skips.on rfl rfl rfl rfl rfl hb6) rfl ?_
          refine LW.skip hL rfl (Skips.on rfl rfl rfl rfl rfl hb6) rfl ?_
          refine LW.rd hL rfl (Wants.free rfl) rfl (Rd.pickT rfl hb6 rfl) ?_
          exact LW.sub hL (by exact ⟨rfl, rfl, rfl, rfl, rfl, rfl, trivial⟩) (K5 true w21 hK (by exact hB) h)
        · have h := h1_J5 hb6
          refine LW.rd hL rfl (Wants.on rfl rfl rfl rfl rfl hb6) rfl (Rd.move (v := .pointer none) rfl) ?_
          refine LW.call hL rfl (Wants.on rfl rfl rfl rfl rfl hb6) rfl (Cl.fn (f := 55) rfl Try.func55 (by kernel_rfl) rfl) h (fun e w24 h_ => ?_)
          clear h
          obtain ⟨r17, rfl, h⟩ := h_
          obtain ⟨hsm13, h⟩ := h
          replace hB := Boxes.sameS hB hsm13 (by simp)
          replace hK := XR.Marks.same hK hsm13 (by simp)
          refine ⟨_, rfl, ?_⟩
          refine LW.rd hL rfl (Wants.on rfl rfl rfl rfl rfl hb6) rfl (Rd.bin (v := .bool (!(r17 == 0))) rfl rfl (fun w => by kernel_rfl)) ?_
          refine LW.rd hL rfl (Wants.free rfl) rfl (Rd.pickF rfl hb6 rfl) ?_
          exact LW.sub hL (by exact ⟨rfl, rfl, rfl, rfl, rfl, rfl, trivial⟩) (K5 (!(r17 == 0)) w24 hK (by exact hB) h)
      intro b6 w23 hK hB h_
      have h := hJ5 b6 w23 h_; clear h_
      refine LW.rd hL rfl (Wants.free rfl) rfl (Rd.move (v := .bool b6) rfl) ?_
      obtain ⟨J6, hJ6, h1_J6, h0_J6⟩ := h
      suffices K6 : ∀ (b7 : Bool) (w25 : World), XR.Marks w25 [d1] → Boxes w25 [(b1, [u1], 4)] → J6 b7 w25 → L 34 [(0, .int .i64 pages1), (2, .pointer (some (⟨b1, 0, none⟩ : Addr))), (3, .pointer r2), (4, .int .i64 r3), (5, .pointer none), (65, .bool b7)] w25 by
        rcases Bool.eq_false_or_eq_true b6 with hb7 | hb7
        · have h := h0_J6 hb7
          refine LW.skip hL rfl (Skips.on rfl rfl rfl rfl rfl hb7) rfl ?_
          refine LW.skip hL rfl (Skips.on rfl rfl rfl rfl rfl hb7) rfl ?_
          refine LW.rd hL rfl (Wants.free rfl) rfl (Rd.pickT rfl hb7 rfl) ?_
          exact LW.sub hL (by exact ⟨rfl, rfl, rfl, rfl, rfl, rfl, trivial⟩) (K6 true w23 hK (by exact hB) h)
        · have h := h1_J6 hb7
          refine LW.rd hL rfl (Wants.on rfl rfl rfl rfl rfl hb7) rfl (Rd.move (v := .pointer none) rfl) ?_
          refine LW.call hL rfl (Wants.on rfl rfl rfl rfl rfl hb7) rfl (Cl.fn (f := 56) rfl Try.func56 (by kernel_rfl) rfl) h (fun e w26 h_ => ?_)
          clear h
          obtain ⟨r18, rfl, h⟩ := h_
          obtain ⟨hsm14, h⟩ := h
          replace hB := Boxes.sameS hB hsm14 (by simp)
          replace hK := XR.Marks.same hK hsm14 (by simp)
          refine ⟨_, rfl, ?_⟩
          refine LW.rd hL rfl (Wants.free rfl) rfl (Rd.pickF rfl hb7 rfl) ?_
          exact LW.sub hL (by exact ⟨rfl, rfl, rfl, rfl, rfl, rfl, trivial⟩) (K6 r18 w26 hK (by exact hB) h)
      intro b7 w25 hK hB h_
      have h := hJ6 b7 w25 h_; clear h_
      refine LW.rd hL rfl (Wants.free rfl) rfl (Rd.move (v := .bool b7) rfl) ?_
      obtain ⟨J7, hJ7, h1_J7, h0_J7⟩ := h
      suffices K7 : ∀ (b8 : Bool) (w27 : World), XR.Marks w27 [d1] → Boxes w27 [(b1, [u1], 4)] → J7 b8 w27 → L 39 [(0, .int .i64 pages1), (2, .pointer (some (⟨b1, 0, none⟩ : Addr))), (3, .pointer r2), (4, .int .i64 r3), (5, .pointer none), (70, .bool b8)] w27 by
        rcases Bool.eq_false_or_eq_true b7 with hb8 | hb8
        · have h := h0_J7 hb8
          refine LW.skip hL rfl (Skips.on rfl rfl rfl rfl rfl hb8) rfl ?_
          refine LW.skip hL rfl (Skips.on rfl rfl rfl rfl rfl hb8) rfl ?_
          refine LW.skip hL rfl (Skips.on rfl rfl rfl rfl rfl hb8) rfl ?_
          refine LW.rd hL rfl (Wants.free rfl) rfl (Rd.pickT rfl hb8 rfl) ?_
          exact LW.sub hL (by exact ⟨rfl, rfl, rfl, rfl, rfl, rfl, trivial⟩) (K7 true w25 hK (by exact hB) h)
        · have h := h1_J7 hb8
          refine LW.rd hL rfl (Wants.on rfl rfl rfl rfl rfl hb8) rfl (Rd.move (v := .pointer none) rfl) ?_
          refine LW.call hL rfl (Wants.on rfl rfl rfl rfl rfl hb8) rfl (Cl.fn (f := 57) rfl Try.func57 (by kernel_rfl) rfl) h (fun e w28 h_ => ?_)
          clear h
          obtain ⟨r19, rfl, h⟩ := h_
          obtain ⟨hsm15, h⟩ := h
          replace hB := Boxes.sameS hB hsm15 (by simp)
          replace hK := XR.Marks.same hK hsm15 (by simp)
          refine ⟨_, rfl, ?_⟩
          refine LW.rd hL rfl (Wants.on rfl rfl rfl rfl rfl hb8) rfl (Rd.bin (v := .bool (!(Option.isNone r19))) rfl rfl (fun w => ptr_nil_ne (by kernel_rfl) r19 w)) ?_
          refine LW.rd hL rfl (Wants.free rfl) rfl (Rd.pickF rfl hb8 rfl) ?_
          exact LW.sub hL (by exact ⟨rfl, rfl, rfl, rfl, rfl, rfl, trivial⟩) (K7 (!(Option.isNone r19)) w28 hK (by exact hB) h)
      intro b8 w27 hK hB h_
      have h := hJ7 b8 w27 h_; clear h_
      refine LW.rd hL rfl (Wants.free rfl) rfl (Rd.move (v := .bool b8) rfl) ?_
      obtain ⟨J8, hJ8, h1_J8, h0_J8⟩ := h
      suffices K8 : ∀ (b9 : Bool) (w29 : World), XR.Marks w29 [d1] → Boxes w29 [(b1, [u1], 4)] → J8 b9 w29 → L 44 [(0, .int .i64 pages1), (2, .pointer (some (⟨b1, 0, none⟩ : Addr))), (3, .pointer r2), (4, .int .i64 r3), (5, .pointer none), (75, .bool b9)] w29 by
        rcases Bool.eq_false_or_eq_true b8 with hb9 | hb9
        · have h := h0_J8 hb9
          refine LW.skip hL rfl (Skips.on rfl rfl rfl rfl rfl hb9) rfl ?_
          refine LW.skip hL rfl (Skips.on rfl rfl rfl rfl rfl hb9) rfl ?_
          refine LW.skip hL rfl (Skips.on rfl rfl rfl rfl rfl hb9) rfl ?_
          refine LW.rd hL rfl (Wants.free rfl) rfl (Rd.pickT rfl hb9 rfl) ?_
          exact LW.sub hL (by exact ⟨rfl, rfl, rfl, rfl, rfl, rfl, trivial⟩) (K8 true w27 hK (by exact hB) h)
        · have h := h1_J8 hb9
          refine LW.rd hL rfl (Wants.on rfl rfl rfl rfl rfl hb9) rfl (Rd.move (v := .pointer none) rfl) ?_
          refine LW.call hL rfl (Wants.on rfl rfl rfl rfl rfl hb9) rfl (Cl.fn (f := 53) rfl Try.func53 (by kernel_rfl) rfl) h (fun e w30 h_ => ?_)
          clear h
          obtain ⟨r20, rfl, h⟩ := h_
          obtain ⟨hsm16, h⟩ := h
          replace hB := Boxes.sameS hB hsm16 (by simp)
          replace hK := XR.Marks.same hK hsm16 (by simp)
          refine ⟨_, rfl, ?_⟩
          refine LW.rd hL rfl (Wants.on rfl rfl rfl rfl rfl hb9) rfl (Rd.un (v := .bool (!r20)) rfl (fun _ => by kernel_rfl)) ?_
          refine LW.rd hL rfl (Wants.free rfl) rfl (Rd.pickF rfl hb9 rfl) ?_
          exact LW.sub hL (by exact ⟨rfl, rfl, rfl, rfl, rfl, rfl, trivial⟩) (K8 (!r20) w30 hK (by exact hB) h)
      intro b9 w29 hK hB h_
      have h := hJ8 b9 w29 h_; clear h_
      refine LW.rd hL rfl (Wants.free rfl) rfl (Rd.move (v := .bool b9) rfl) ?_
      obtain ⟨J9, hJ9, h1_J9, h0_J9⟩ := h
      suffices K9 : ∀ (b10 : Bool) (w31 : World), XR.Marks w31 [d1] → Boxes w31 [(b1, [u1], 4)] → J9 b10 w31 → L 58 [(0, .int .i64 pages1), (2, .pointer (some (⟨b1, 0, none⟩ : Addr))), (3, .pointer r2), (4, .int .i64 r3), (89, .bool b10)] w31 by
        rcases Bool.eq_false_or_eq_true b9 with hb10 | hb10
        · have h := h0_J9 hb10
          refine LW.skip hL rfl (Skips.on rfl rfl rfl rfl rfl hb10) rfl ?_
          refine LW.skip hL rfl (Skips.on rfl rfl rfl rfl rfl hb10) rfl ?_
          refine LW.skip hL rfl (Skips.on rfl rfl rfl rfl rfl hb10) rfl ?_
          refine LW.skip hL rfl (Skips.un rfl rfl rfl rfl rfl) rfl ?_
          refine LW.skip hL rfl (Skips.un rfl rfl rfl rfl rfl) rfl ?_
          refine LW.skip hL rfl (Skips.un rfl rfl rfl rfl rfl) rfl ?_
          refine LW.skip hL rfl (Skips.un rfl rfl rfl rfl rfl) rfl ?_
          refine LW.skip hL rfl (Skips.un rfl rfl rfl rfl rfl) rfl ?_
          refine LW.skip hL rfl (Skips.un rfl rfl rfl rfl rfl) rfl ?_
          refine LW.skip hL rfl (Skips.un rfl rfl rfl rfl rfl) rfl ?_
          refine LW.skip hL rfl (Skips.un rfl rfl rfl rfl rfl) rfl ?_
          refine LW.skip hL rfl (Skips.on rfl rfl rfl rfl rfl hb10) rfl ?_
          refine LW.rd hL rfl (Wants.free rfl) rfl (Rd.pickT rfl hb10 rfl) ?_
          exact LW.sub hL (by exact ⟨rfl, rfl, rfl, rfl, rfl, trivial⟩) (K9 true w29 hK (by exact hB) h)
        · have h := h1_J9 hb10
          refine LW.rd hL rfl (Wants.on rfl rfl rfl rfl rfl hb10) rfl (Rd.move (v := .pointer r2) rfl) ?_
          refine LW.rd hL rfl (Wants.on rfl rfl rfl rfl rfl hb10) rfl (Rd.bin (v := .bool (!(Option.isNone r2))) rfl rfl (fun w => ptr_nil_ne (by kernel_rfl) r2 w)) ?_
          refine LW.rd hL rfl (Wants.on rfl rfl rfl rfl rfl hb10) rfl (Rd.move (v := .bool (!(Option.isNone r2))) rfl) ?_
          obtain ⟨J10, hJ10, h1_J10, h0_J10⟩ := h
          suffices K10 : ∀ (b11 : Bool) (w32 : World), XR.Marks w32 [d1] → Boxes w32 [(b1, [u1], 4)] → J10 b11 w32 → L 57 [(0, .int .i64 pages1), (2, .pointer (some (⟨b1, 0, none⟩ : Addr))), (3, .pointer r2), (4, .int .i64 r3), (76, .bool b9), (88, .bool b11)] w32 by
            rcases Bool.eq_false_or_eq_true (!(Option.isNone r2)) with hb11 | hb11
            · have h := h1_J10 hb11
              refine LW.rd hL rfl (Wants.on rfl rfl rfl rfl rfl hb11) rfl (Rd.move (v := .pointer r2) rfl) ?_
              refine LW.rd hL rfl (Wants.on rfl rfl rfl rfl rfl hb11) rfl (Rd.move (v := .pointer none) rfl) ?_
              refine LW.call hL rfl (Wants.on rfl rfl rfl rfl rfl hb11) rfl (Cl.fn (f := 53) rfl Try.func53 (by kernel_rfl) rfl) h (fun e w33 h_ => ?_)
              clear h
              obtain ⟨r21, rfl, h⟩ := h_
              obtain ⟨hsm17, h⟩ := h
              replace hB := Boxes.sameS hB hsm17 (by simp)
              replace hK := XR.Marks.same hK hsm17 (by simp)
              refine ⟨_, rfl, ?_⟩
              refine LW.rd hL rfl (Wants.on rfl rfl rfl rfl rfl hb11) rfl (Rd.move (v := .bool r21) rfl) ?_
              obtain ⟨J11, hJ11, h1_J11, h0_J11⟩ := h
              suffices K11 : ∀ (b12 : Bool) (w34 : World), XR.Marks w34 [d1] → Boxes w34 [(b1, [u1], 4)] → J11 b12 w34 → L 56 [(0, .int .i64 pages1), (2, .pointer (some (⟨b1, 0, none⟩ : Addr))), (3, .pointer r2), (4, .int .i64 r3), (76, .bool b9), (79, .bool (!(Option.isNone r2))), (87, .bool b12)] w34 by
                rcases Bool.eq_false_or_eq_true r21 with hb12 | hb12
                · have h := h0_J11 hb12
                  refine LW.skip hL rfl (Skips.on rfl rfl rfl rfl rfl hb12) rfl ?_
                  refine LW.skip hL rfl (Skips.on rfl rfl rfl rfl rfl hb12) rfl ?_
                  refine LW.skip hL rfl (Skips.on rfl rfl rfl rfl rfl hb12) rfl ?_
                  refine LW.rd hL rfl (Wants.on rfl rfl rfl rfl rfl hb11) rfl (Rd.pickT rfl hb12 rfl) ?_
                  exact LW.sub hL (by exact ⟨rfl, rfl, rfl, rfl, rfl, rfl, rfl, trivial⟩) (K11 true w33 hK (by exact hB) h)
                · have h := h1_J11 hb12
                  refine LW.rd hL rfl (Wants.on rfl rfl rfl rfl rfl hb12) rfl (Rd.move (v := .pointer none) rfl) ?_
                  refine LW.rd hL rfl (Wants.on rfl rfl rfl rfl rfl hb12) rfl (Rd.move (v := .pointer r2) rfl) ?_
                  refine LW.call hL rfl (Wants.on rfl rfl rfl rfl rfl hb12) rfl (Cl.fn (f := 53) rfl Try.func53 (by kernel_rfl) rfl) h (fun e w35 h_ => ?_)
                  clear h
                  obtain ⟨r22, rfl, h⟩ := h_
                  obtain ⟨hsm18, h⟩ := h
                  replace hB := Boxes.sameS hB hsm18 (by simp)
                  replace hK := XR.Marks.same hK hsm18 (by simp)
                  refine ⟨_, rfl, ?_⟩
                  refine LW.rd hL rfl (Wants.on rfl rfl rfl rfl rfl hb11) rfl (Rd.pickF rfl hb12 rfl) ?_
                  exact LW.sub hL (by exact ⟨rfl, rfl, rfl, rfl, rfl, rfl, rfl, trivial⟩) (K11 r22 w35 hK (by exact hB) h)
              intro b12 w34 hK hB h_
              have h := hJ11 b12 w34 h_; clear h_
              refine LW.rd hL rfl (Wants.on rfl rfl rfl rfl rfl hb10) rfl (Rd.pickT rfl hb11 rfl) ?_
              exact LW.sub hL (by exact ⟨rfl, rfl, rfl, rfl, rfl, rfl, trivial⟩) (K10 b12 w34 hK (by exact hB) h)
            · have h := h0_J10 hb11
              refine LW.skip hL rfl (Skips.on rfl rfl rfl rfl rfl hb11) rfl ?_
              refine LW.skip hL rfl (Skips.on rfl rfl rfl rfl rfl hb11) rfl ?_
              refine LW.skip hL rfl (Skips.on rfl rfl rfl rfl rfl hb11) rfl ?_
              refine LW.skip hL rfl (Skips.on rfl rfl rfl rfl rfl hb11) rfl ?_
              refine LW.skip hL rfl (Skips.un rfl rfl rfl rfl rfl) rfl ?_
              refine LW.skip hL rfl (Skips.un rfl rfl rfl rfl rfl) rfl ?_
              refine LW.skip hL rfl (Skips.un rfl rfl rfl rfl rfl) rfl ?_
              refine LW.skip hL rfl (Skips.on rfl rfl rfl rfl rfl hb11) rfl ?_
              refine LW.rd hL rfl (Wants.on rfl rfl rfl rfl rfl hb10) rfl (Rd.pickF rfl hb11 rfl) ?_
              exact LW.sub hL (by exact ⟨rfl, rfl, rfl, rfl, rfl, rfl, trivial⟩) (K10 false w29 hK (by exact hB) h)
          intro b11 w32 hK hB h_
          have h := hJ10 b11 w32 h_; clear h_
          refine LW.rd hL rfl (Wants.free rfl) rfl (Rd.pickF rfl hb10 rfl) ?_
          exact LW.sub hL (by exact ⟨rfl, rfl, rfl, rfl, rfl, trivial⟩) (K9 b11 w32 hK (by exact hB) h)
      intro b10 w31 hK hB h_
      have h := hJ9 b10 w31 h_; clear h_
      refine LW.nil hL rfl ?_
      refine NW.then ?_
      refine CW.cond rfl (fun hb13 => ?_) (fun hb13 => ?_)
      · replace h := h.1 hb13
        refine CW.seq ?_
        refine CW.region fun L hL => ?_
        obtain ⟨w36, hw_w36⟩ : ∃ x, x = World.setCell w31 (⟨b1, 0, none⟩ : Addr) (.bool false) := ⟨_, rfl⟩
        refine LW.eff hL rfl (Wants.free rfl) rfl (stE hw_w36 (Ef.st rfl rfl rfl (by kernel_rfl) (box_cell (v := u1) (hB.at (i := 0) rfl) rfl) (free_of (hB.at (i := 0) rfl) 0))) ?_
        replace hK := XR.Marks.set hK (hB.at (i := 0) rfl) (sil_c1 hw_w36)
        replace hB : Boxes w36 [(b1, [.bool false], 4)] := Boxes.store1  (i := 0) (o := 0) hB rfl rfl rfl rfl hw_w36
        have hc_w36 : Chg [b1] w31 w36 := sil_more (Chg.refl [] w31) (sil_c1 hw_w36)
        refine LW.nil hL rfl ?_
        refine NW.then ?_
        replace h := h  w36  hc_w36
        refine CW.ret ?_
        refine RW.then ?_
        exact XR.resM (ms := [d1]) (vs := [.bool false]) hK rfl (fun w_ hc_ => ⟨(ResOK.c rfl (lv1 (by kernel_rfl) (box_cell (Boxes.at (i := 0) (hB.marks hK hc_) rfl) rfl)) ResOK.nil), false, rfl, h w_ hc_⟩)
      · replace h := h.2 hb13
        refine CW.skip ?_
        refine NW.then ?_
        refine CW.seq ?_
        refine CW.seq ?_
        refine CW.region fun L hL => ?_
        refine LW.rd hL rfl (Wants.free rfl) rfl (Rd.move (v := .int .i64 pages1) rfl) ?_
        refine LW.rd hL rfl (Wants.free rfl) rfl (Rd.bin (v := .bool (decide (pages1 < 1))) rfl rfl (fun w => by kernel_rfl)) ?_
        refine LW.rd hL rfl (Wants.free rfl) rfl (Rd.move (v := .bool (decide (pages1 < 1))) rfl) ?_
        suffices K12 : L 6 [(0, .int .i64 pages1), (2, .pointer (some (⟨b1, 0, none⟩ : Addr))), (3, .pointer r2), (4, .int .i64 r3), (95, .bool (decide (pages1 < 1) || decide (pages1 > 32)))] w31 by
          rcases Bool.eq_false_or_eq_true (decide (pages1 < 1)) with hb15 | hb15
          · skip
            refine LW.skip hL rfl (Skips.on rfl rfl rfl rfl rfl hb15) rfl ?_
            refine LW.skip hL rfl (Skips.on rfl rfl rfl rfl rfl hb15) rfl ?_
            refine LW.rd hL rfl (Wants.free rfl) rfl (Rd.pickT rfl hb15 rfl) ?_
            exact LW.sub hL (by exact ⟨rfl, rfl, rfl, rfl, (by rw [hb15]; rfl), trivial⟩) K12
          · skip
            refine LW.rd hL rfl (Wants.on rfl rfl rfl rfl rfl hb15) rfl (Rd.move (v := .int .i64 pages1) rfl) ?_
            refine LW.rd hL rfl (Wants.on rfl rfl rfl rfl rfl hb15) rfl (Rd.bin (v := .bool (decide (pages1 > 32))) rfl rfl (fun w => by kernel_rfl)) ?_
            refine LW.rd hL rfl (Wants.free rfl) rfl (Rd.pickF rfl hb15 rfl) ?_
            exact LW.sub hL (by exact ⟨rfl, rfl, rfl, rfl, (by rw [hb15]; rfl), trivial⟩) K12
        refine LW.nil hL rfl ?_
        refine NW.then ?_
        refine CW.cond rfl (fun hb16 => ?_) (fun hb16 => ?_)
        · replace h := h.1 hb16
          refine CW.seq ?_
          refine CW.region fun L hL => ?_
          refine LW.rd hL rfl (Wants.free rfl) rfl (Rd.move (v := .pointer r2) rfl) ?_
          refine LW.rd hL rfl (Wants.free rfl) rfl (Rd.bin (v := .bool (Option.isNone r2)) rfl rfl (fun w => ptr_nil_eq (by kernel_rfl) r2 w)) ?_
          refine LW.rd hL rfl (Wants.free rfl) rfl (Rd.move (v := .bool (Option.isNone r2)) rfl) ?_
          obtain ⟨J12, hJ12, h1_J12, h0_J12⟩ := h
          suffices K13 : ∀ (b13 : Bool) (w38 : World), XR.Marks w38 [d1] → Boxes w38 [(b1, [u1], 4)] → J12 b13 w38 → L 7 [(0, .int .i64 pages1), (2, .pointer (some (⟨b1, 0, none⟩ : Addr))), (3, .pointer r2), (4, .int .i64 r3), (102, .bool b13)] w38 by
            rcases Bool.eq_false_or_eq_true (Option.isNone r2) with hb17 | hb17
            · have h := h1_J12 hb17
              refine LW.rd hL rfl (Wants.on rfl rfl rfl rfl rfl hb17) rfl (Rd.move (v := .int .i64 r3) rfl) ?_
              refine LW.call hL rfl (Wants.on rfl rfl rfl rfl rfl hb17) rfl (Cl.fn (f := 44) rfl Try.func44 (by kernel_rfl) rfl) h (fun e w39 h_ => ?_)
              clear h
              obtain ⟨r23, rfl, h⟩ := h_
              obtain ⟨hsm19, h⟩ := h
              replace hB := Boxes.sameS hB hsm19 (by simp)
              replace hK := XR.Marks.same hK hsm19 (by simp)
              refine ⟨_, rfl, ?_⟩
              refine LW.rd hL rfl (Wants.on rfl rfl rfl rfl rfl hb17) rfl (Rd.bin (v := .bool (r23 == 2)) rfl rfl (fun w => by kernel_rfl)) ?_
              refine LW.rd hL rfl (Wants.free rfl) rfl (Rd.pickT rfl hb17 rfl) ?_
              exact LW.sub hL (by exact ⟨rfl, rfl, rfl, rfl, rfl, trivial⟩) (K13 (r23 == 2) w39 hK (by exact hB) h)
            · have h := h0_J12 hb17
              refine LW.skip hL rfl (Skips.on rfl rfl rfl rfl rfl hb17) rfl ?_
              refine LW.skip hL rfl (Skips.on rfl rfl rfl rfl rfl hb17) rfl ?_
              refine LW.skip hL rfl (Skips.on rfl rfl rfl rfl rfl hb17) rfl ?_
              refine LW.rd hL rfl (Wants.free rfl) rfl (Rd.pickF rfl hb17 rfl) ?_
              exact LW.sub hL (by exact ⟨rfl, rfl, rfl, rfl, rfl, trivial⟩) (K13 false w31 hK (by exact hB) h)
          intro b13 w38 hK hB h_
          have h := hJ12 b13 w38 h_; clear h_
          refine LW.rd hL rfl (Wants.free rfl) rfl (Rd.move (v := .bool b13) rfl) ?_
          obtain ⟨J13, hJ13, h1_J13, h0_J13⟩ := h
          suffices K14 : ∀ (b14 : Bool) (w40 : World), XR.Marks w40 [d1] → Boxes w40 [(b1, [u1], 4)] → J13 b14 w40 → L 10 [(0, .int .i64 pages1), (2, .pointer (some (⟨b1, 0, none⟩ : Addr))), (3, .pointer r2), (4, .int .i64 r3), (105, .bool b14)] w40 by
            rcases Bool.eq_false_or_eq_true b13 with hb18 | hb18
            · have h := h1_J13 hb18
              refine LW.call hL rfl (Wants.on rfl rfl rfl rfl rfl hb18) rfl (Cl.fn (f := 40) rfl Try.func40 (by kernel_rfl) rfl) h (fun e w41 h_ => ?_)
              clear h
              obtain ⟨r24, rfl, h⟩ := h_
              obtain ⟨hsm20, h⟩ := h
              replace hB := Boxes.sameS hB hsm20 (by simp)
              replace hK := XR.Marks.same hK hsm20 (by simp)
              refine ⟨_, rfl, ?_⟩
              refine LW.rd hL rfl (Wants.free rfl) rfl (Rd.pickT rfl hb18 rfl) ?_
              exact LW.sub hL (by exact ⟨rfl, rfl, rfl, rfl, rfl, trivial⟩) (K14 r24 w41 hK (by exact hB) h)
            · have h := h0_J13 hb18
              refine LW.skip hL rfl (Skips.on rfl rfl rfl rfl rfl hb18) rfl ?_
              refine LW.rd hL rfl (Wants.free rfl) rfl (Rd.pickF rfl hb18 rfl) ?_
              exact LW.sub hL (by exact ⟨rfl, rfl, rfl, rfl, rfl, trivial⟩) (K14 false w38 hK (by exact hB) h)
          intro b14 w40 hK hB h_
          have h := hJ13 b14 w40 h_; clear h_
          obtain ⟨w42, hw_w42⟩ : ∃ x, x = World.setCell w40 (⟨b1, 0, none⟩ : Addr) (.bool b14) := ⟨_, rfl⟩
          refine LW.eff hL rfl (Wants.free rfl) rfl (stE hw_w42 (Ef.st rfl rfl rfl (by kernel_rfl) (box_cell (v := u1) (hB.at (i := 0) rfl) rfl) (free_of (hB.at (i := 0) rfl) 0))) ?_
          replace hK := XR.Marks.set hK (hB.at (i := 0) rfl) (sil_c1 hw_w42)
          replace hB : Boxes w42 [(b1, [.bool b14], 4)] := Boxes.store1  (i := 0) (o := 0) hB rfl rfl rfl rfl hw_w42
          have hc_w42 : Chg [b1] w40 w42 := sil_more (Chg.refl [] w40) (sil_c1 hw_w42)
          refine LW.nil hL rfl ?_
          refine NW.then ?_
          replace h := h  w42  hc_w42
          refine CW.ret ?_
          refine RW.then ?_
          exact XR.resM (ms := [d1]) (vs := [.bool b14]) hK rfl (fun w_ hc_ => ⟨(ResOK.c rfl (lv1 (by kernel_rfl) (box_cell (Boxes.at (i := 0) (hB.marks hK hc_) rfl) rfl)) ResOK.nil), b14, rfl, h w_ hc_⟩)
        · replace h := h.2 hb16
          refine CW.skip ?_
          refine NW.then ?_
          refine CW.seq ?_
          refine CW.region fun L hL => ?_
          refine LW.rd hL rfl (Wants.free rfl) rfl (Rd.move (v := .int .i64 r3) rfl) ?_
          refine LW.call hL rfl (Wants.free rfl) rfl (Cl.fn (f := 44) rfl Try.func44 (by kernel_rfl) rfl) h (fun e w44 h_ => ?_)
          clear h
          obtain ⟨r25, rfl, h⟩ := h_
          obtain ⟨hsm21, h⟩ := h
          replace hB := Boxes.sameS hB hsm21 (by simp)
          replace hK := XR.Marks.same hK hsm21 (by simp)
          refine ⟨_, rfl, ?_⟩
          refine LW.rd hL rfl (Wants.free rfl) rfl (Rd.bin (v := .bool (r25 == 0)) rfl rfl (fun w => by kernel_rfl)) ?_
          refine LW.rd hL rfl (Wants.free rfl) rfl (Rd.move (v := .bool (r25 == 0)) rfl) ?_
          obtain ⟨J14, hJ14, h1_J14, h0_J14⟩ := h
          suffices K15 : ∀ (b15 : Bool) (w45 : World), XR.Marks w45 [d1] → Boxes w45 [(b1, [u1], 4)] → J14 b15 w45 → L 9 [(2, .pointer (some (⟨b1, 0, none⟩ : Addr))), (114, .bool b15)] w45 by
            rcases Bool.eq_false_or_eq_true (r25 == 0) with hb19 | hb19
            · have h := h1_J14 hb19
              refine LW.rd hL rfl (Wants.on rfl rfl rfl rfl rfl hb19) rfl (Rd.move (v := .pointer r2) rfl) ?_
              refine LW.rd hL rfl (Wants.on rfl rfl rfl rfl rfl hb19) rfl (Rd.move (v := .int .i64 pages1) rfl) ?_
              refine LW.call hL rfl (Wants.on rfl rfl rfl rfl rfl hb19) rfl (Cl.fn (f := 58) rfl Try.func58 (by kernel_rfl) rfl) h (fun e w46 h_ => ?_)
              clear h
              obtain ⟨r26, r26n, r26c, rfl, h⟩ := h_
              obtain ⟨hsm22, h⟩ := h
              replace hB := Boxes.sameS hB hsm22 (by simp)
              replace hK := XR.Marks.same hK hsm22 (by simp)
              refine ⟨_, rfl, ?_⟩
              refine LW.call hL rfl (Wants.on rfl rfl rfl rfl rfl hb19) rfl (Cl.fn (f := 45) rfl Try.func45 (by kernel_rfl) rfl) h (fun e w47 h_ => ?_)
              clear h
              obtain ⟨r27, rfl, h⟩ := h_
              obtain ⟨hsm23, h⟩ := h
              replace hB := Boxes.sameS hB hsm23 (by simp)
              replace hK := XR.Marks.same hK hsm23 (by simp)
              refine ⟨_, rfl, ?_⟩
              refine LW.rd hL rfl (Wants.free rfl) rfl (Rd.pickT rfl hb19 rfl) ?_
              exact LW.sub hL (by exact ⟨rfl, rfl, trivial⟩) (K15 r27 w47 hK (by exact hB) h)
            · have h := h0_J14 hb19
              refine LW.skip hL rfl (Skips.on rfl rfl rfl rfl rfl hb19) rfl ?_
              refine LW.skip hL rfl (Skips.on rfl rfl rfl rfl rfl hb19) rfl ?_
              refine LW.skip hL rfl (Skips.on rfl rfl rfl rfl rfl hb19) rfl ?_
              refine LW.skip hL rfl (Skips.on rfl rfl rfl rfl rfl hb19) rfl ?_
              refine LW.rd hL rfl (Wants.free rfl) rfl (Rd.pickF rfl hb19 rfl) ?_
              exact LW.sub hL (by exact ⟨rfl, rfl, trivial⟩) (K15 false w44 hK (by exact hB) h)
          intro b15 w45 hK hB h_
          have h := hJ14 b15 w45 h_; clear h_
          refine LW.rd hL rfl (Wants.free rfl) rfl (Rd.move (v := .bool b15) rfl) ?_
          obtain ⟨J15, hJ15, h1_J15, h0_J15⟩ := h
          suffices K16 : ∀ (b16 : Bool) (w48 : World), XR.Marks w48 [d1] → Boxes w48 [(b1, [u1], 4)] → J15 b16 w48 → L 12 [(2, .pointer (some (⟨b1, 0, none⟩ : Addr))), (117, .bool b16)] w48 by
            rcases Bool.eq_false_or_eq_true b15 with hb20 | hb20
            · have h := h1_J15 hb20
              refine LW.call hL rfl (Wants.on rfl rfl rfl rfl rfl hb20) rfl (Cl.fn (f := 40) rfl Try.func40 (by kernel_rfl) rfl) h (fun e w49 h_ => ?_)
              clear h
              obtain ⟨r28, rfl, h⟩ := h_
              obtain ⟨hsm24, h⟩ := h
              replace hB := Boxes.sameS hB hsm24 (by simp)
              replace hK := XR.Marks.same hK hsm24 (by simp)
              refine ⟨_, rfl, ?_⟩
              refine LW.rd hL rfl (Wants.free rfl) rfl (Rd.pickT rfl hb20 rfl) ?_
              exact LW.sub hL (by exact ⟨rfl, rfl, trivial⟩) (K16 r28 w49 hK (by exact hB) h)
            · have h := h0_J15 hb20
              refine LW.skip hL rfl (Skips.on rfl rfl rfl rfl rfl hb20) rfl ?_
              refine LW.rd hL rfl (Wants.free rfl) rfl (Rd.pickF rfl hb20 rfl) ?_
              exact LW.sub hL (by exact ⟨rfl, rfl, trivial⟩) (K16 false w45 hK (by exact hB) h)
          intro b16 w48 hK hB h_
          have h := hJ15 b16 w48 h_; clear h_
          obtain ⟨w50, hw_w50⟩ : ∃ x, x = World.setCell w48 (⟨b1, 0, none⟩ : Addr) (.bool b16) := ⟨_, rfl⟩
          refine LW.eff hL rfl (Wants.free rfl) rfl (stE hw_w50 (Ef.st rfl rfl rfl (by kernel_rfl) (box_cell (v := u1) (hB.at (i := 0) rfl) rfl) (free_of (hB.at (i := 0) rfl) 0))) ?_
          replace hK := XR.Marks.set hK (hB.at (i := 0) rfl) (sil_c1 hw_w50)
          replace hB : Boxes w50 [(b1, [.bool b16], 4)] := Boxes.store1  (i := 0) (o := 0) hB rfl rfl rfl rfl hw_w50
          have hc_w50 : Chg [b1] w48 w50 := sil_more (Chg.refl [] w48) (sil_c1 hw_w50)
          refine LW.nil hL rfl ?_
          refine NW.then ?_
          replace h := h  w50  hc_w50
          refine CW.ret ?_
          exact XR.resM (ms := [d1]) (vs := [.bool b16]) hK rfl (fun w_ hc_ => ⟨(ResOK.c rfl (lv1 (by kernel_rfl) (box_cell (Boxes.at (i := 0) (hB.marks hK hc_) rfl) rfl)) ResOK.nil), b16, rfl, h w_ hc_⟩)
    · intro d2 c_ O3 xs2 w52 hO_ hd_ hdh_ hS_ hi_
      rcases hi_ with ⟨rfl, c1, hi_, hB⟩
      · have h := hso_X1 d2 O3 xs2 c1 w52 hO_ hd_ hS_ hi_
        have hK := XR.Marks.cons (XR.Marks.nil _) hdh_ (by simp)
        refine CW.ret ?_
        refine RW.block ?_
        refine RW.then ?_
        exact XR.resM (ms := [d2]) (vs := [.bool c1]) hK rfl (fun w_ hc_ => ⟨(ResOK.c rfl (lv1 (by kernel_rfl) (box_cell (Boxes.at (i := 0) (hB.marks hK hc_) rfl) rfl)) ResOK.nil), c1, rfl, h w_ hc_⟩)

end Go.Proofs.Ytkfncibmfcdokaa
