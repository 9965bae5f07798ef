import Derived.Test.YtkfncibmfcdokaaProg
import Derived.Test.YtkfncibmfcdokaaXEq
import Derived.Test.YtkfncibmfcdokaaXLoc
import Derived.Test.YtkfncibmfcdokaaXRange
set_option linter.unusedVariables false
set_option linter.unusedSimpArgs false
namespace Go.Proofs.Ytkfncibmfcdokaa
open Go Go.X

/- pomander/pomanderlaw03.ShadowAlls -/
def W_pomanderlaw03_ShadowAlls (pages1 : Int) (script1 : Option Addr) (script1n : Nat) (script1c : Nat) (many1 : Int) (w : World) (R : Bool → World → Prop) : Prop :=
  ∀ (b2 b1 : Nat) (w2 : World), (w.heap.size ≤ b2 ∧ b2 < w2.heap.size) → (w.heap.size ≤ b1 ∧ b1 < w2.heap.size) → Chg [] w w2 → ((((decide (pages1 < 1) || decide (pages1 > 32)) || decide ((script1n : Int) > 40)) = true → Calls Try.prog 40 #[] w2 fun e w3 => ∃ (r2 : Bool), e = .returned (.bool r2) ∧ (Same w2 w3 [b2, b1] ∧ (∀ (w4 : World), Chg [b2] w3 w4 → (R r2 w4)))) ∧ (((decide (pages1 < 1) || decide (pages1 > 32)) || decide ((script1n : Int) > 40)) = false → Calls Try.prog 41 #[.int .i64 pages1, .slice script1 script1n script1c] w2 fun e w5 => ∃ (r3 : Option Addr) (r4 : Option Addr) (r4n : Nat) (r4c : Nat) (r5 : Bool), e = .returned (.tuple #[.pointer r3, .slice r4 r4n r4c, .bool r5]) ∧ (Same w2 w5 [b2, b1] ∧ (∀ (b5 b4 b3 : Nat) (w11 : World), (w5.heap.size ≤ b5 ∧ b5 < w11.heap.size) → (w5.heap.size ≤ b4 ∧ b4 < w11.heap.size) → (w5.heap.size ≤ b3 ∧ b3 < w11.heap.size) → Chg [] w5 w11 → (Calls Try.prog 50 #[.pointer r3] w11 fun e w12 => ∃ (r6 : Value), e = .returned (r6) ∧ (Same w11 w12 [b5, b4, b3, b2, b1] ∧ (∃ (t1 : Bool), (∀ w : World, ((do eqGuard .eql 111 (.tmp 38) (.const (.nilFunc)) (r6) (.nilFunc); binOp .eql 111 (r6) (.nilFunc) : Sem Value)).run Try.prog w = .ok (.bool t1) w) ∧ ((t1 = true → ∀ (w13 : World), Chg [b2] w12 w13 → (R false w13)) ∧ (t1 = false → Calls Try.prog 50 #[.pointer r3] w12 fun e w14 => ∃ (r7 : Value), e = .returned (r7) ∧ (Same w12 w14 [b5, b4, b3, b2, b1] ∧ (∃ (S1 Sp1 : List (Int × Int) → Prop) (keep1 : List Nat), XR.IsFn Try.prog r7 ∧ XR.Iterates Try.prog r7 (fun x : Int × Int => #[.int .i64 x.1, .int .u32 x.2]) S1 Sp1 keep1 w14 ∧ (∀ i_ ∈ keep1, i_ < w14.heap.size) ∧ ∃ (I1 : Int → Int → List Nat → List (Int × Int) → World → Prop) (X1 : Bool → Int → Int → List Nat → List (Int × Int) → World → Prop) (X2 : Int → Int → List Nat → List (Int × Int) → World → Prop), (∀ (c1 : Int) (c2 : Int) (pre_ : List (Int × Int)), XR.Stab w14 (fun O_ w_ => I1 c1 c2 O_ pre_ w_)) ∧ (∀ (c3 : Bool) (c4 : Int) (c5 : Int) (pre_ : List (Int × Int)), XR.Stab w14 (fun O_ w_ => X1 c3 c4 c5 O_ pre_ w_)) ∧ (∀ (c1 : Int) (c2 : Int) (pre_ : List (Int × Int)), XR.Stab w14 (fun O_ w_ => X2 c1 c2 O_ pre_ w_)) ∧ (∀ (O1 : List Nat) (w15 : World), Chg [] w14 w15 → XR.InO w14 O1 w15 → I1 (-1) 0 O1 ([]) w15) ∧ (∀ (l1 : Nat) (O1 : List Nat) (pre1 : List (Int × Int)) (x1 : Int) (x2 : Int) (c1 : Int) (c2 : Int) (w15 : World), XR.InO w14 O1 w15 → l1 ∈ O1 → Sp1 (pre1 ++ [(x1, x2)]) → I1 c1 c2 O1 pre1 w15 → (∀ (w16 : World), Chg [l1] w15 w16 → (∃ J1 : Bool → World → Prop, (∀ (b6 : Bool) (w17 : World), J1 b6 w17 → ∃ J2 : Bool → World → Prop, (∀ (b7 : Bool) (w18 : World), J2 b7 w18 → ((b7 || x2 == 0) = true → ∀ (w19 : World), Chg [b2] w18 w19 → ((w16.heap.size ≤ w19.heap.size ∧ X1 false c1 c2 O1 (pre1 ++ [(x1, x2)]) w19 ∧ Same w16 w19 (keep1 ++ O1)))) ∧ ((b7 || x2 == 0) = false → ∀ (w21 : World), Chg [b4, b5] w18 w21 → (((decide ((IntKind.wrap .i64 (c2 + 1)) ≥ many1)) = true → (w16.heap.size ≤ w21.heap.size ∧ X2 x1 (IntKind.wrap .i64 (c2 + 1)) O1 (pre1 ++ [(x1, x2)]) w21 ∧ Same w16 w21 (keep1 ++ O1))) ∧ ((decide ((IntKind.wrap .i64 (c2 + 1)) ≥ many1)) = false → (w16.heap.size ≤ w21.heap.size ∧ I1 x1 (IntKind.wrap .i64 (c2 + 1)) O1 (pre1 ++ [(x1, x2)]) w21 ∧ Same w16 w21 (keep1 ++ O1)))))) ∧ ((b6 = false → ∃ a1 : Addr, r4 = some a1 ∧ (0 : Int) ≤ x1 ∧ x1 < (r4n : Int) ∧ (∃ (t2 : Int), w17.cell? (a1.add (Int.toNat x1 * 1)) = some (.int .u32 t2) ∧ (J2 (!(t2 == x2)) w17))) ∧ (b6 = true → J2 true w17))) ∧ (((decide (x1 ≤ c1)) = false → J1 (decide (x1 ≥ (r4n : Int))) w16) ∧ ((decide (x1 ≤ c1)) = true → J1 true w16))))) ∧ (∀ (d1 : Nat) (O2 : List Nat) (xs1 : List (Int × Int)) (c1 : Int) (c2 : Int) (w22 : World), XR.InO w14 O2 w22 → d1 ∈ O2 → S1 xs1 → I1 c1 c2 O2 xs1 w22 → (Calls Try.prog 51 #[.int .i64 pages1] w22 fun e w23 => ∃ (r8 : Option Addr) (r9 : Int), e = .returned (.tuple #[.pointer r8, .int .i64 r9]) ∧ (Same w22 w23 [b2, d1] ∧ (∀ (b8 : Nat) (w25 : World), (w23.heap.size ≤ b8 ∧ b8 < w25.heap.size) → Chg [] w23 w25 → (Calls Try.prog 50 #[.pointer r3] w25 fun e w26 => ∃ (r10 : Value), e = .returned (r10) ∧ (Same w25 w26 [b8, b2, d1] ∧ (∃ (S2 Sp2 : List (Int × Int) → Prop) (keep2 : List Nat), XR.IsFn Try.prog r10 ∧ XR.Iterates Try.prog r10 (fun x : Int × Int => #[.int .i64 x.1, .int .u32 x.2]) S2 Sp2 keep2 w26 ∧ (∀ i_ ∈ keep2, i_ < w26.heap.size) ∧ ∃ (I2 : List Nat → List (Int × Int) → World → Prop), (∀ (pre_ : List (Int × Int)), XR.Stab w26 (fun O_ w_ => I2 O_ pre_ w_)) ∧ (∀ (O3 : List Nat) (w27 : World), Chg [] w26 w27 → XR.InO w26 O3 w27 → I2 O3 ([]) w27) ∧ (∀ (l2 : Nat) (O3 : List Nat) (pre2 : List (Int × Int)) (x3 : Int) (x4 : Int) (w27 : World), XR.InO w26 O3 w27 → l2 ∈ O3 → Sp2 (pre2 ++ [(x3, x4)]) → I2 O3 pre2 w27 → (∀ (w28 : World), Chg [l2] w27 w28 → (Calls Try.prog 52 #[.pointer r8, .int .i64 x3, .int .u32 x4] w28 fun e w29 => ∃ (r11 : Int), e = .returned (.int .i64 r11) ∧ (Same w28 w29 [b2, b8, d1] ∧ ((w28.heap.size ≤ w29.heap.size ∧ I2 O3 (pre2 ++ [(x3, x4)]) w29 ∧ Same w28 w29 (keep2 ++ O3))))))) ∧ (∀ (d2 : Nat) (O4 : List Nat) (xs2 : List (Int × Int)) (w30 : World), XR.InO w26 O4 w30 → d2 ∈ O4 → S2 xs2 → I2 O4 xs2 w30 → (∃ J3 : Bool → World → Prop, (∀ (b9 : Bool) (w31 : World), J3 b9 w31 → ∃ J4 : Bool → World → Prop, (∀ (b10 : Bool) (w33 : World), J4 b10 w33 → ∃ J5 : Bool → World → Prop, (∀ (b11 : Bool) (w35 : World), J5 b11 w35 → ∀ (w37 : World), Chg [b2] w35 w37 → (∀ w38 : World, Chg [d2, d1] w37 w38 → (R b11 w38))) ∧ ((b10 = true → Calls Try.prog 40 #[] w33 fun e w36 => ∃ (r14 : Bool), e = .returned (.bool r14) ∧ (Same w33 w36 [b2, d2, d1] ∧ (J5 r14 w36))) ∧ (b10 = false → J5 false w33))) ∧ ((b9 = true → Calls Try.prog 53 #[.pointer r8, .pointer r3] w31 fun e w34 => ∃ (r13 : Bool), e = .returned (.bool r13) ∧ (Same w31 w34 [b2, d2, d1] ∧ (J4 r13 w34))) ∧ (b9 = false → J4 false w31))) ∧ ((r5 = true → Calls Try.prog 44 #[.int .i64 r9] w30 fun e w32 => ∃ (r12 : Int), e = .returned (.int .i64 r12) ∧ (Same w30 w32 [b2, b8, d2, d1] ∧ (J3 (r12 == 0) w32))) ∧ (r5 = false → J3 false w30))))))))))) ∧ (∀ (d4 : Nat) (O6 : List Nat) (xs4 : List (Int × Int)) (c3 : Bool) (c4 : Int) (c5 : Int) (w40 : World), XR.InO w14 O6 w40 → d4 ∈ O6 → Sp1 xs4 → X1 c3 c4 c5 O6 xs4 w40 → (∀ w41 : World, Chg [d4] w40 w41 → (R c3 w41))) ∧ (∀ (d4 : Nat) (O6 : List Nat) (xs4 : List (Int × Int)) (c1 : Int) (c2 : Int) (w40 : World), XR.InO w14 O6 w40 → d4 ∈ O6 → Sp1 xs4 → X2 c1 c2 O6 xs4 w40 → (Calls Try.prog 51 #[.int .i64 pages1] w40 fun e w42 => ∃ (r15 : Option Addr) (r16 : Int), e = .returned (.tuple #[.pointer r15, .int .i64 r16]) ∧ (Same w40 w42 [b2, d4] ∧ (∀ (b12 : Nat) (w44 : World), (w42.heap.size ≤ b12 ∧ b12 < w44.heap.size) → Chg [] w42 w44 → (Calls Try.prog 50 #[.pointer r3] w44 fun e w45 => ∃ (r17 : Value), e = .returned (r17) ∧ (Same w44 w45 [b12, b2, d4] ∧ (∃ (S3 Sp3 : List (Int × Int) → Prop) (keep3 : List Nat), XR.IsFn Try.prog r17 ∧ XR.Iterates Try.prog r17 (fun x : Int × Int => #[.int .i64 x.1, .int .u32 x.2]) S3 Sp3 keep3 w45 ∧ (∀ i_ ∈ keep3, i_ < w45.heap.size) ∧ ∃ (I3 : List Nat → List (Int × Int) → World → Prop), (∀ (pre_ : List (Int × Int)), XR.Stab w45 (fun O_ w_ => I3 O_ pre_ w_)) ∧ (∀ (O7 : List Nat) (w46 : World), Chg [] w45 w46 → XR.InO w45 O7 w46 → I3 O7 ([]) w46) ∧ (∀ (l3 : Nat) (O7 : List Nat) (pre3 : List (Int × Int)) (x5 : Int) (x6 : Int) (w46 : World), XR.InO w45 O7 w46 → l3 ∈ O7 → Sp3 (pre3 ++ [(x5, x6)]) → I3 O7 pre3 w46 → (∀ (w47 : World), Chg [l3] w46 w47 → (Calls Try.prog 52 #[.pointer r15, .int .i64 x5, .int .u32 x6] w47 fun e w48 => ∃ (r18 : Int), e = .returned (.int .i64 r18) ∧ (Same w47 w48 [b2, b12, d4] ∧ ((w47.heap.size ≤ w48.heap.size ∧ I3 O7 (pre3 ++ [(x5, x6)]) w48 ∧ Same w47 w48 (keep3 ++ O7))))))) ∧ (∀ (d5 : Nat) (O8 : List Nat) (xs5 : List (Int × Int)) (w49 : World), XR.InO w45 O8 w49 → d5 ∈ O8 → S3 xs5 → I3 O8 xs5 w49 → (∃ J6 : Bool → World → Prop, (∀ (b13 : Bool) (w50 : World), J6 b13 w50 → ∃ J7 : Bool → World → Prop, (∀ (b14 : Bool) (w52 : World), J7 b14 w52 → ∃ J8 : Bool → World → Prop, (∀ (b15 : Bool) (w54 : World), J8 b15 w54 → ∀ (w56 : World), Chg [b2] w54 w56 → (∀ w57 : World, Chg [d5, d4] w56 w57 → (R b15 w57))) ∧ ((b14 = true → Calls Try.prog 40 #[] w52 fun e w55 => ∃ (r21 : Bool), e = .returned (.bool r21) ∧ (Same w52 w55 [b2, d5, d4] ∧ (J8 r21 w55))) ∧ (b14 = false → J8 false w52))) ∧ ((b13 = true → Calls Try.prog 53 #[.pointer r15, .pointer r3] w50 fun e w53 => ∃ (r20 : Bool), e = .returned (.bool r20) ∧ (Same w50 w53 [b2, d5, d4] ∧ (J7 r20 w53))) ∧ (b13 = false → J7 false w50))) ∧ ((r5 = true → Calls Try.prog 44 #[.int .i64 r16] w49 fun e w51 => ∃ (r19 : Int), e = .returned (.int .i64 r19) ∧ (Same w49 w51 [b2, b12, d5, d4] ∧ (J6 (r19 == 0) w51))) ∧ (r5 = false → J6 false w49))))))))))))))))))))))
set_option maxRecDepth 100000 in
theorem go_pomanderlaw03_ShadowAlls (pages1 : Int) (script1 : Option Addr) (script1n : Nat) (script1c : Nat) (many1 : Int) (w : World) (R : Bool → World → Prop) (h : W_pomanderlaw03_ShadowAlls pages1 script1 script1n script1c many1 w R) : Calls Try.prog 12 #[.int .i64 pages1, .slice script1 script1n script1c, .int .i64 many1] w (fun e w' => ∃ (r1 : Bool), e = .returned (.bool r1) ∧ R r1 w') := by
  unfold W_pomanderlaw03_ShadowAlls at h
  refine XR.enterM (N := 98) Try.func12 rfl rfl ?_
  refine CW.seq ?_
  refine CW.region fun L hL => ?_
  obtain ⟨b1, hb_b1⟩ : ∃ b1, b1 = World.size w := ⟨_, rfl⟩
  obtain ⟨w1, hw_w1⟩ : ∃ w1, w1 = World.alloc w (.cells #[.int .i64 many1] 3) := ⟨_, rfl⟩
  refine LW.val hL rfl (Wants.free rfl) rfl (boxE hb_b1 hw_w1 (Vl.box (v := .int .i64 many1) rfl)) ?_
  have hB := Boxes.alloc (cs := [.int .i64 many1]) (T := 3) (Boxes.nil w) hb_b1 hw_w1
  have hlo_b1 := sil_lo (Chg.refl [] w) hb_b1
  have hc_w1 := sil_alloc (Chg.refl [] w) hw_w1
  obtain ⟨b2, hb_b2⟩ : ∃ b2, b2 = World.size w1 := ⟨_, rfl⟩
  obtain ⟨w2, hw_w2⟩ : ∃ w2, w2 = World.alloc w1 (.cells #[.bool false] 4) := ⟨_, rfl⟩
  refine LW.val hL rfl (Wants.free rfl) rfl (boxE hb_b2 hw_w2 (Vl.alloc (z := .bool false) (by kernel_rfl))) ?_
  replace hB := Boxes.alloc (cs := [.bool false]) (T := 4) hB hb_b2 hw_w2
  have hlo_b2 := sil_lo hc_w1 hb_b2
  have hc_w2 := sil_alloc hc_w1 hw_w2
  refine LW.nil hL rfl ?_
  refine NW.then ?_
  refine CW.seq ?_
  refine CW.seq ?_
  refine CW.region fun L hL => ?_
  refine LW.rd hL rfl (Wants.free rfl) rfl (Rd.move (v := .int .i64 pages1) rfl) ?_
  refine LW.rd hL rfl (Wants.free rfl) rfl (Rd.bin (v := .bool (decide (pages1 < 1))) rfl rfl (fun w => by kernel_rfl)) ?_
  refine LW.rd hL rfl (Wants.free rfl) rfl (Rd.move (v := .bool (decide (pages1 < 1))) rfl) ?_
  suffices K1 : L 6 [(0, .int .i64 pages1), (1, .slice script1 script1n script1c), (5, .pointer (some (⟨b1, 0, none⟩ : Addr))), (6, .pointer (some (⟨b2, 0, none⟩ : Addr))), (23, .bool (decide (pages1 < 1) || decide (pages1 > 32)))] w2 by
    rcases Bool.eq_false_or_eq_true (decide (pages1 < 1)) with hb2 | hb2
    · skip
      refine LW.skip hL rfl (Skips.on rfl rfl rfl rfl rfl hb2) rfl ?_
      refine LW.skip hL rfl (Skips.on rfl rfl rfl rfl rfl hb2) rfl ?_
      refine LW.rd hL rfl (Wants.free rfl) rfl (Rd.pickT rfl hb2 rfl) ?_
      exact LW.sub hL (by exact ⟨rfl, rfl, rfl, rfl, (by rw [hb2]; rfl), trivial⟩) K1
    · skip
      refine LW.rd hL rfl (Wants.on rfl rfl rfl rfl rfl hb2) rfl (Rd.move (v := .int .i64 pages1) rfl) ?_
      refine LW.rd hL rfl (Wants.on rfl rfl rfl rfl rfl hb2) rfl (Rd.bin (v := .bool (decide (pages1 > 32))) rfl rfl (fun w => by kernel_rfl)) ?_
      refine LW.rd hL rfl (Wants.free rfl) rfl (Rd.pickF rfl hb2 rfl) ?_
      exact LW.sub hL (by exact ⟨rfl, rfl, rfl, rfl, (by rw [hb2]; rfl), trivial⟩) K1
  refine LW.rd hL rfl (Wants.free rfl) rfl (Rd.move (v := .bool (decide (pages1 < 1) || decide (pages1 > 32))) rfl) ?_
  suffices K2 : L 11 [(0, .int .i64 pages1), (1, .slice script1 script1n script1c), (5, .pointer (some (⟨b1, 0, none⟩ : Addr))), (6, .pointer (some (⟨b2, 0, none⟩ : Addr))), (28, .bool ((decide (pages1 < 1) || decide (pages1 > 32)) || decide ((script1n : Int) > 40)))] w2 by
    rcases Bool.eq_false_or_eq_true (decide (pages1 < 1) || decide (pages1 > 32)) with hb4 | hb4
    · skip
      refine LW.skip hL rfl (Skips.on rfl rfl rfl rfl rfl hb4) rfl ?_
      refine LW.skip hL rfl (Skips.on rfl rfl rfl rfl rfl hb4) rfl ?_
      refine LW.skip hL rfl (Skips.on rfl rfl rfl rfl rfl hb4) rfl ?_
      refine LW.rd hL rfl (Wants.free rfl) rfl (Rd.pickT rfl hb4 rfl) ?_
      exact LW.sub hL (by exact ⟨rfl, rfl, rfl, rfl, (by rw [hb4]; rfl), trivial⟩) K2
    · skip
      refine LW.rd hL rfl (Wants.on rfl rfl rfl rfl rfl hb4) rfl (Rd.move (v := .slice script1 script1n script1c) rfl) ?_
      refine LW.rd hL rfl (Wants.on rfl rfl rfl rfl rfl hb4) rfl (Rd.builtin (v := .int .i64 (script1n : Int)) rfl (fun _ _ => by kernel_rfl)) ?_
      refine LW.rd hL rfl (Wants.on rfl rfl rfl rfl rfl hb4) rfl (Rd.bin (v := .bool (decide ((script1n : Int) > 40))) rfl rfl (fun w => by kernel_rfl)) ?_
      refine LW.rd hL rfl (Wants.free rfl) rfl (Rd.pickF rfl hb4 rfl) ?_
      exact LW.sub hL (by exact ⟨rfl, rfl, rfl, rfl, (by rw [hb4]; rfl), trivial⟩) K2
  refine LW.nil hL rfl ?_
  refine NW.then ?_
  replace h := h b2 b1 w2 ⟨hlo_b2, lt_of_heap (hB.at (i := 0) rfl)⟩ ⟨hlo_b1, lt_of_heap (hB.at (i := 1) rfl)⟩ hc_w2
  refine CW.cond rfl (fun hb5 => ?_) (fun hb5 => ?_)
  · replace h := h.1 hb5
    refine CW.seq ?_
    refine CW.region fun L hL => ?_
    refine LW.call hL rfl (Wants.free rfl) rfl (Cl.fn (f := 40) rfl Try.func40 (by kernel_rfl) rfl) h (fun e w3 h_ => ?_)
    clear h
    obtain ⟨r2, rfl, h⟩ := h_
    obtain ⟨hsm1, h⟩ := h
    replace hB := Boxes.sameS hB hsm1 (by simp)
    refine ⟨_, rfl, ?_⟩
    obtain ⟨w4, hw_w4⟩ : ∃ x, x = World.setCell w3 (⟨b2, 0, none⟩ : Addr) (.bool r2) := ⟨_, rfl⟩
    refine LW.eff hL rfl (Wants.free rfl) rfl (stE hw_w4 (Ef.st rfl rfl rfl (by kernel_rfl) (box_cell (v := .bool false) (hB.at (i := 0) rfl) rfl) (free_of (hB.at (i := 0) rfl) 0))) ?_
    replace hB : Boxes w4 [(b2, [.bool r2], 4), (b1, [.int .i64 many1], 3)] := Boxes.store1  (i := 0) (o := 0) hB rfl rfl rfl rfl hw_w4
    have hc_w4 : Chg [b2] w3 w4 := sil_more (Chg.refl [] w3) (sil_c1 hw_w4)
    refine LW.nil hL rfl ?_
    refine NW.then ?_
    replace h := h  w4  hc_w4
    refine CW.ret ?_
    refine RW.then ?_
    exact XR.res0M (vs := [.bool r2]) (by exact (ResOK.c rfl (lv1 (by kernel_rfl) (box_cell (Boxes.at (i := 0) hB rfl) rfl)) ResOK.nil)) rfl ⟨r2, rfl, h⟩
  · replace h := h.2 hb5
    refine CW.skip ?_
    refine NW.then ?_
    refine CW.seq ?_
    refine CW.region fun L hL => ?_
    refine LW.rd hL rfl (Wants.free rfl) rfl (Rd.move (v := .int .i64 pages1) rfl) ?_
    refine LW.rd hL rfl (Wants.free rfl) rfl (Rd.move (v := .slice script1 script1n script1c) rfl) ?_
    refine LW.call hL rfl (Wants.free rfl) rfl (Cl.fn (f := 41) rfl Try.func41 (by kernel_rfl) rfl) h (fun e w5 h_ => ?_)
    clear h
    obtain ⟨r3, r4, r4n, r4c, r5, rfl, h⟩ := h_
    obtain ⟨hsm2, h⟩ := h
    replace hB := Boxes.sameS hB hsm2 (by simp)
    refine ⟨_, rfl, ?_⟩
    refine LW.rd hL rfl (Wants.free rfl) rfl (Rd.move (v := .tuple #[.pointer r3, .slice r4 r4n r4c, .bool r5]) rfl) ?_
    refine LW.rd hL rfl (Wants.free rfl) rfl (Rd.extract (v := .pointer r3) rfl rfl) ?_
    refine LW.rd hL rfl (Wants.free rfl) rfl (Rd.extract (v := .slice r4 r4n r4c) rfl rfl) ?_
    refine LW.rd hL rfl (Wants.free rfl) rfl (Rd.extract (v := .bool r5) rfl rfl) ?_
    obtain ⟨b3, hb_b3⟩ : ∃ b3, b3 = World.size w5 := ⟨_, rfl⟩
    obtain ⟨w6, hw_w6⟩ : ∃ w6, w6 = World.alloc w5 (.cells #[.slice none 0 0] 31) := ⟨_, rfl⟩
    refine LW.val hL rfl (Wants.free rfl) rfl (boxE hb_b3 hw_w6 (Vl.alloc (z := .slice none 0 0) (by kernel_rfl))) ?_
    replace hB := Boxes.alloc (cs := [.slice none 0 0]) (T := 31) hB hb_b3 hw_w6
    have hlo_b3 := sil_lo (Chg.refl [] w5) hb_b3
    have hc_w6 := sil_alloc (Chg.refl [] w5) hw_w6
    refine LW.rd hL rfl (Wants.free rfl) rfl (Rd.assign (v := .pointer r3) rfl) ?_
    obtain ⟨w7, hw_w7⟩ : ∃ x, x = World.setCell w6 (⟨b3, 0, none⟩ : Addr) (.slice r4 r4n r4c) := ⟨_, rfl⟩
    refine LW.eff hL rfl (Wants.free rfl) rfl (stE hw_w7 (Ef.st rfl rfl rfl (by kernel_rfl) (box_cell (v := .slice none 0 0) (hB.at (i := 0) rfl) rfl) (free_of (hB.at (i := 0) rfl) 0))) ?_
    replace hB : Boxes w7 [(b3, [.slice r4 r4n r4c], 31), (b2, [.bool false], 4), (b1, [.int .i64 many1], 3)] := Boxes.store1  (i := 0) (o := 0) hB rfl rfl rfl rfl hw_w7
    have hc_w7 := sil_new hc_w6 (sil_c1 hw_w7) hlo_b3
    refine LW.rd hL rfl (Wants.free rfl) rfl (Rd.assign (v := .bool r5) rfl) ?_
    refine LW.nil hL rfl ?_
    refine NW.then ?_
    refine CW.seq ?_
    refine CW.region fun L hL => ?_
    obtain ⟨b4, hb_b4⟩ : ∃ b4, b4 = World.size w7 := ⟨_, rfl⟩
    obtain ⟨w8, hw_w8⟩ : ∃ w8, w8 = World.alloc w7 (.cells #[.int .i64 0] 3) := ⟨_, rfl⟩
    refine LW.val hL rfl (Wants.free rfl) rfl (boxE hb_b4 hw_w8 (Vl.alloc (z := .int .i64 0) (by kernel_rfl))) ?_
    replace hB := Boxes.alloc (cs := [.int .i64 0]) (T := 3) hB hb_b4 hw_w8
    have hlo_b4 := sil_lo hc_w7 hb_b4
    have hc_w8 := sil_alloc hc_w7 hw_w8
    obtain ⟨b5, hb_b5⟩ : ∃ b5, b5 = World.size w8 := ⟨_, rfl⟩
    obtain ⟨w9, hw_w9⟩ : ∃ w9, w9 = World.alloc w8 (.cells #[.int .i64 0] 3) := ⟨_, rfl⟩
    refine LW.val hL rfl (Wants.free rfl) rfl (boxE hb_b5 hw_w9 (Vl.alloc (z := .int .i64 0) (by kernel_rfl))) ?_
    replace hB := Boxes.alloc (cs := [.int .i64 0]) (T := 3) hB hb_b5 hw_w9
    have hlo_b5 := sil_lo hc_w8 hb_b5
    have hc_w9 := sil_alloc hc_w8 hw_w9
    obtain ⟨w10, hw_w10⟩ : ∃ x, x = World.setCell w9 (⟨b4, 0, none⟩ : Addr) (.int .i64 (-1)) := ⟨_, rfl⟩
    refine LW.eff hL rfl (Wants.free rfl) rfl (stE hw_w10 (Ef.st rfl rfl rfl (by kernel_rfl) (box_cell (v := .int .i64 0) (hB.at (i := 1) rfl) rfl) (free_of (hB.at (i := 1) rfl) 0))) ?_
    replace hB : Boxes w10 [(b5, [.int .i64 0], 3), (b4, [.int .i64 (-1)], 3), (b3, [.slice r4 r4n r4c], 31), (b2, [.bool false], 4), (b1, [.int .i64 many1], 3)] := Boxes.store1  (i := 1) (o := 0) hB rfl rfl rfl rfl hw_w10
    have hc_w10 := sil_new hc_w9 (sil_c1 hw_w10) hlo_b4
    obtain ⟨w11, hw_w11⟩ : ∃ x, x = World.setCell w10 (⟨b5, 0, none⟩ : Addr) (.int .i64 0) := ⟨_, rfl⟩
    refine LW.eff hL rfl (Wants.free rfl) rfl (stE hw_w11 (Ef.st rfl rfl rfl (by kernel_rfl) (box_cell (v := .int .i64 0) (hB.at (i := 0) rfl) rfl) (free_of (hB.at (i := 0) rfl) 0))) ?_
    replace hB : Boxes w11 [(b5, [.int .i64 0], 3), (b4, [.int .i64 (-1)], 3), (b3, [.slice r4 r4n r4c], 31), (b2, [.bool false], 4), (b1, [.int .i64 many1], 3)] := Boxes.store1  (i := 0) (o := 0) hB rfl rfl rfl rfl hw_w11
    have hc_w11 := sil_new hc_w10 (sil_c1 hw_w11) hlo_b5
    refine LW.nil hL rfl ?_
    refine NW.then ?_
    refine CW.seq ?_
    refine CW.seq ?_
    refine CW.region fun L hL => ?_
    refine LW.rd hL rfl (Wants.free rfl) rfl (Rd.move (v := .pointer r3) rfl) ?_
    replace h := h b5 b4 b3 w11 ⟨hlo_b5, lt_of_heap (hB.at (i := 0) rfl)⟩ ⟨hlo_b4, lt_of_heap (hB.at (i := 1) rfl)⟩ ⟨hlo_b3, lt_of_heap (hB.at (i := 2) rfl)⟩ hc_w11
    refine LW.call hL rfl (Wants.free rfl) rfl (Cl.fn (f := 50) rfl Try.func50 (by kernel_rfl) rfl) h (fun e w12 h_ => ?_)
    clear h
    obtain ⟨r6, rfl, h⟩ := h_
    obtain ⟨hsm3, h⟩ := h
    replace hB := Boxes.sameS hB hsm3 (by simp)
    refine ⟨_, rfl, ?_⟩
    obtain ⟨t1, hx1, h⟩ := h
    refine LW.rd hL rfl (Wants.free rfl) rfl (Rd.bin (v := .bool t1) rfl rfl hx1) ?_
    refine LW.nil hL rfl ?_
    refine NW.then ?_
    refine CW.cond rfl (fun hb6 => ?_) (fun hb6 => ?_)
    · replace h := h.1 hb6
      refine CW.seq ?_
      refine CW.region fun L hL => ?_
      obtain ⟨w13, hw_w13⟩ : ∃ x, x = World.setCell w12 (⟨b2, 0, none⟩ : Addr) (.bool false) := ⟨_, rfl⟩
      refine LW.eff hL rfl (Wants.free rfl) rfl (stE hw_w13 (Ef.st rfl rfl rfl (by kernel_rfl) (box_cell (v := .bool false) (hB.at (i := 3) rfl) rfl) (free_of (hB.at (i := 3) rfl) 0))) ?_
      replace hB : Boxes w13 [(b5, [.int .i64 0], 3), (b4, [.int .i64 (-1)], 3), (b3, [.slice r4 r4n r4c], 31), (b2, [.bool false], 4), (b1, [.int .i64 many1], 3)] := Boxes.store1  (i := 3) (o := 0) hB rfl rfl rfl rfl hw_w13
      have hc_w13 : Chg [b2] w12 w13 := sil_more (Chg.refl [] w12) (sil_c1 hw_w13)
      refine LW.nil hL rfl ?_
      refine NW.then ?_
      replace h := h  w13  hc_w13
      refine CW.ret ?_
      refine RW.then ?_
      exact XR.res0M (vs := [.bool false]) (by exact (ResOK.c rfl (lv1 (by kernel_rfl) (box_cell (Boxes.at (i := 3) hB rfl) rfl)) ResOK.nil)) rfl ⟨false, rfl, h⟩
    · replace h := h.2 hb6
      refine CW.skip ?_
      refine NW.then ?_
      refine CW.seq ?_
      refine CW.seq ?_
      refine CW.region fun L hL => ?_
      refine LW.rd hL rfl (Wants.free rfl) rfl (Rd.move (v := .pointer r3) rfl) ?_
      refine LW.call hL rfl (Wants.free rfl) rfl (Cl.fn (f := 50) rfl Try.func50 (by kernel_rfl) rfl) h (fun e w14 h_ => ?_)
      clear h
      obtain ⟨r7, rfl, h⟩ := h_
      obtain ⟨hsm4, h⟩ := h
      replace hB := Boxes.sameS hB hsm4 (by simp)
      refine ⟨_, rfl, ?_⟩
      refine LW.nil hL rfl ?_
      refine NW.then ?_
      refine CW.block ?_
      obtain ⟨S1, Sp1, keep1, hfn_, hit_, hkp_, I1, X1, X2, hst_I1, hst_X1, hst_X2, h0_, hrd_, hdn_, hso_X1, hso_X2⟩ := h
      refine XR.CW.rangeV (α := Int × Int) (enc := (fun x : Int × Int => #[.int .i64 x.1, .int .u32 x.2])) (S := S1) (Sp := Sp1) (keep := keep1) rfl hfn_ (fun _ => rfl) (by decide) hit_ (fun (O_ : List Nat) (pre_ : List (Int × Int)) (w_ : World) => ∃ (c1 : Int) (c2 : Int), I1 c1 c2 O_ pre_ w_ ∧ ∃ (u1 : Value), Boxes w_ [(b1, [.int .i64 many1], 3), (b2, [u1], 4), (b3, [.slice r4 r4n r4c], 31), (b4, [.int .i64 c1], 3), (b5, [.int .i64 c2], 3)]) (fun (c_ : Code) (O_ : List Nat) (pre_ : List (Int × Int)) (w_ : World) => (c_ = Code.ret ∧ ∃ (c3 : Bool) (c4 : Int) (c5 : Int), X1 c3 c4 c5 O_ pre_ w_ ∧ Boxes w_ [(b1, [.int .i64 many1], 3), (b2, [.bool c3], 4), (b3, [.slice r4 r4n r4c], 31), (b4, [.int .i64 c4], 3), (b5, [.int .i64 c5], 3)]) ∨ (c_ = Code.exit 0 ∧ ∃ (c1 : Int) (c2 : Int), X2 c1 c2 O_ pre_ w_ ∧ ∃ (u1 : Value), Boxes w_ [(b1, [.int .i64 many1], 3), (b2, [u1], 4), (b3, [.slice r4 r4n r4c], 31), (b4, [.int .i64 c1], 3), (b5, [.int .i64 c2], 3)])) ?_ ?_ ?_ hkp_ ?_ ?_ ?_
      · intro pre_ O_ O2_ A_ B_ hi_ hO_ hc_ hO2_ hg_
        have hB0_ := (hB.sel [4, 3, 2, 1, 0] (by decide) rfl)
        obtain ⟨c1, c2, hi_, u1, hB⟩ := hi_
        exact ⟨c1, c2, hst_I1 c1 c2 pre_ O_ O2_ A_ B_ hi_ hO_ hc_ hO2_ hg_, u1, hB.stab hB0_ rfl hO_ hc_⟩
      · intro c_ pre_ O_ O2_ A_ B_ hi_ hO_ hc_ hO2_ hg_
        have hB0_ := (hB.sel [4, 3, 2, 1, 0] (by decide) rfl)
        rcases hi_ with ⟨hcc_, c3, c4, c5, hi_, hB⟩ | ⟨hcc_, c1, c2, hi_, u1, hB⟩
        · exact Or.inl ⟨hcc_, c3, c4, c5, hst_X1 c3 c4 c5 pre_ O_ O2_ A_ B_ hi_ hO_ hc_ hO2_ hg_, hB.stab hB0_ rfl hO_ hc_⟩
        · exact Or.inr (⟨hcc_, c1, c2, hst_X2 c1 c2 pre_ O_ O2_ A_ B_ hi_ hO_ hc_ hO2_ hg_, u1, hB.stab hB0_ rfl hO_ hc_⟩)
      · intro O_ A_ hc_ hO_
        exact ⟨(-1), 0, h0_ O_ A_ hc_ hO_, .bool false, Boxes.chg (hB.sel [4, 3, 2, 1, 0] (by decide) rfl) hc_ (by simp)⟩
      · intro l1 O1 pre1 x_ w15 hO_ hl_ hSp_ hi_
        obtain ⟨x1, x2⟩ := x_
        obtain ⟨c1, c2, hi_, u1, hB⟩ := hi_
        have h := hrd_ l1 O1 pre1 x1 x2 c1 c2 w15 hO_ hl_ hSp_ hi_
        refine XR.CW.seq ?_
        refine XR.CW.region fun L hL => ?_
        refine XR.LW.rd hL rfl (Wants.free rfl) rfl (Rd.assign (v := .int .i64 x1) rfl) ?_
        refine XR.LW.nil hL rfl ?_
        refine XR.NW.then ?_
        refine XR.CW.region fun L hL => ?_
        refine XR.LW.rd hL rfl (Wants.free rfl) rfl (Rd.assign (v := .int .u32 x2) rfl) ?_
        refine XR.LW.nil hL rfl ?_
        refine XR.NW.begin (Chg.refl [] w15) (fun w16 hcb_w16 hlp_ hib_ => ?_)
        have hc_w16 : Chg [l1] w15 w16 := sil_more (Chg.refl [] w15) hcb_w16
        replace hB := hB.notloop hlp_ hcb_w16
        replace h := h  w16  hc_w16
        refine XR.CW.block ?_
        refine XR.CW.seq ?_
        refine XR.CW.seq ?_
        refine XR.CW.region fun L hL => ?_
        refine XR.LW.rd hL rfl (Wants.free rfl) rfl (Rd.move (v := .int .i64 x1) rfl) ?_
        refine XR.LW.rd hL rfl (Wants.free rfl) rfl (Rd.ld (v := .int .i64 c1) rfl (by kernel_rfl) (eqs (box_cell (hB.at (i := 3) rfl) rfl))) ?_
        refine XR.LW.rd hL rfl (Wants.free rfl) rfl (Rd.bin (v := .bool (decide (x1 ≤ c1))) rfl rfl (fun w => by kernel_rfl)) ?_
        refine XR.LW.rd hL rfl (Wants.free rfl) rfl (Rd.move (v := .bool (decide (x1 ≤ c1))) rfl) ?_
        obtain ⟨J1, hJ1, h1_J1, h0_J1⟩ := h
        suffices K3 : ∀ (b6 : Bool) (w17 : World), Boxes w17 [(b1, [.int .i64 many1], 3), (b2, [u1], 4), (b3, [.slice r4 r4n r4c], 31), (b4, [.int .i64 c1], 3), (b5, [.int .i64 c2], 3)] → J1 b6 w17 → L 9 [(0, .int .i64 pages1), (5, .pointer (some (⟨b1, 0, none⟩ : Addr))), (6, .pointer (some (⟨b2, 0, none⟩ : Addr))), (7, .pointer r3), (8, .pointer (some (⟨b3, 0, none⟩ : Addr))), (9, .bool r5), (10, .pointer (some (⟨b4, 0, none⟩ : Addr))), (11, .pointer (some (⟨b5, 0, none⟩ : Addr))), (12, .int .i64 x1), (13, .int .u32 x2), (42, .int .i64 x1), (43, .int .u32 x2), (52, .bool b6)] w17 by
          rcases Bool.eq_false_or_eq_true (decide (x1 ≤ c1)) with hb7 | hb7
          · have h := h0_J1 hb7
            refine XR.LW.skip hL rfl (Skips.on rfl rfl rfl rfl rfl hb7) rfl ?_
            refine XR.LW.skip hL rfl (Skips.on rfl rfl rfl rfl rfl hb7) rfl ?_
            refine XR.LW.skip hL rfl (Skips.on rfl rfl rfl rfl rfl hb7) rfl ?_
            refine XR.LW.skip hL rfl (Skips.on rfl rfl rfl rfl rfl hb7) rfl ?_
            refine XR.LW.rd hL rfl (Wants.free rfl) rfl (Rd.pickT rfl hb7 rfl) ?_
            exact XR.LW.sub hL (by exact ⟨rfl, rfl, rfl, rfl, rfl, rfl, rfl, rfl, rfl, rfl, rfl, rfl, rfl, trivial⟩) (K3 true w16 (by exact hB) h)
          · have h := h1_J1 hb7
            refine XR.LW.rd hL rfl (Wants.on rfl rfl rfl rfl rfl hb7) rfl (Rd.move (v := .int .i64 x1) rfl) ?_
            refine XR.LW.rd hL rfl (Wants.on rfl rfl rfl rfl rfl hb7) rfl (Rd.ld (v := .slice r4 r4n r4c) rfl (by kernel_rfl) (eqs (box_cell (hB.at (i := 2) rfl) rfl))) ?_
            refine XR.LW.rd hL rfl (Wants.on rfl rfl rfl rfl rfl hb7) rfl (Rd.builtin (v := .int .i64 (r4n : Int)) rfl (fun _ _ => by kernel_rfl)) ?_
            refine XR.LW.rd hL rfl (Wants.on rfl rfl rfl rfl rfl hb7) rfl (Rd.bin (v := .bool (decide (x1 ≥ (r4n : Int)))) rfl rfl (fun w => by kernel_rfl)) ?_
            refine XR.LW.rd hL rfl (Wants.free rfl) rfl (Rd.pickF rfl hb7 rfl) ?_
            exact XR.LW.sub hL (by exact ⟨rfl, rfl, rfl, rfl, rfl, rfl, rfl, rfl, rfl, rfl, rfl, rfl, rfl, trivial⟩) (K3 (decide (x1 ≥ (r4n : Int))) w16 (by exact hB) h)
        intro b6 w17 hB h_
        have h := hJ1 b6 w17 h_; clear h_
        refine XR.LW.rd hL rfl (Wants.free rfl) rfl (Rd.move (v := .bool b6) rfl) ?_
        obtain ⟨J2, hJ2, h1_J2, h0_J2⟩ := h
        suffices K4 : ∀ (b7 : Bool) (w18 : World), Boxes w18 [(b1, [.int .i64 many1], 3), (b2, [u1], 4), (b3, [.slice r4 r4n r4c], 31), (b4, [.int .i64 c1], 3), (b5, [.int .i64 c2], 3)] → J2 b7 w18 → L 17 [(0, .int .i64 pages1), (5, .pointer (some (⟨b1, 0, none⟩ : Addr))), (6, .pointer (some (⟨b2, 0, none⟩ : Addr))), (7, .pointer r3), (8, .pointer (some (⟨b3, 0, none⟩ : Addr))), (9, .bool r5), (10, .pointer (some (⟨b4, 0, none⟩ : Addr))), (11, .pointer (some (⟨b5, 0, none⟩ : Addr))), (12, .int .i64 x1), (13, .int .u32 x2), (42, .int .i64 x1), (43, .int .u32 x2), (60, .bool b7)] w18 by
          rcases Bool.eq_false_or_eq_true b6 with hb8 | hb8
          · have h := h0_J2 hb8
            refine XR.LW.skip hL rfl (Skips.on rfl rfl rfl rfl rfl hb8) rfl ?_
            refine XR.LW.skip hL rfl (Skips.on rfl rfl rfl rfl rfl hb8) rfl ?_
            refine XR.LW.skip hL rfl (Skips.on rfl rfl rfl rfl rfl hb8) rfl ?_
            refine XR.LW.skip hL rfl (Skips.on rfl rfl rfl rfl rfl hb8) rfl ?_
            refine XR.LW.skip hL rfl (Skips.on rfl rfl rfl rfl rfl hb8) rfl ?_
            refine XR.LW.skip hL rfl (Skips.on rfl rfl rfl rfl rfl hb8) rfl ?_
            refine XR.LW.rd hL rfl (Wants.free rfl) rfl (Rd.pickT rfl hb8 rfl) ?_
            exact XR.LW.sub hL (by exact ⟨rfl, rfl, rfl, rfl, rfl, rfl, rfl, rfl, rfl, rfl, rfl, rfl, rfl, trivial⟩) (K4 true w17 (by exact hB) h)
          · have h := h1_J2 hb8
            refine XR.LW.rd hL rfl (Wants.on rfl rfl rfl rfl rfl hb8) rfl (Rd.ld (v := .slice r4 r4n r4c) rfl (by kernel_rfl) (eqs (box_cell (hB.at (i := 2) rfl) rfl))) ?_
            refine XR.LW.rd hL rfl (Wants.on rfl rfl rfl rfl rfl hb8) rfl (Rd.move (v := .int .i64 x1) rfl) ?_
            obtain ⟨a1, he1, hi1, hi2, h⟩ := h
            refine XR.LW.rd hL rfl (Wants.on rfl rfl rfl rfl rfl hb8) rfl (Rd.iaS (q := a1) (sz := 1) (by rw [← he1]; rfl) rfl Try.underlying31 (by kernel_rfl) hi1 hi2) ?_
            obtain ⟨t2, hc1, h⟩ := h
            refine XR.LW.rd hL rfl (Wants.on rfl rfl rfl rfl rfl hb8) rfl (Rd.ld (v := .int .u32 t2) rfl (by kernel_rfl) (eqs hc1)) ?_
            refine XR.LW.rd hL rfl (Wants.on rfl rfl rfl rfl rfl hb8) rfl (Rd.move (v := .int .u32 x2) rfl) ?_
            refine XR.LW.rd hL rfl (Wants.on rfl rfl rfl rfl rfl hb8) rfl (Rd.bin (v := .bool (!(t2 == x2))) rfl rfl (fun w => by kernel_rfl)) ?_
            refine XR.LW.rd hL rfl (Wants.free rfl) rfl (Rd.pickF rfl hb8 rfl) ?_
            exact XR.LW.sub hL (by exact ⟨rfl, rfl, rfl, rfl, rfl, rfl, rfl, rfl, rfl, rfl, rfl, rfl, rfl, trivial⟩) (K4 (!(t2 == x2)) w17 (by exact hB) h)
        intro b7 w18 hB h_
        have h := hJ2 b7 w18 h_; clear h_
        refine XR.LW.rd hL rfl (Wants.free rfl) rfl (Rd.move (v := .bool b7) rfl) ?_
        suffices K5 : L 21 [(0, .int .i64 pages1), (5, .pointer (some (⟨b1, 0, none⟩ : Addr))), (6, .pointer (some (⟨b2, 0, none⟩ : Addr))), (7, .pointer r3), (8, .pointer (some (⟨b3, 0, none⟩ : Addr))), (9, .bool r5), (10, .pointer (some (⟨b4, 0, none⟩ : Addr))), (11, .pointer (some (⟨b5, 0, none⟩ : Addr))), (12, .int .i64 x1), (42, .int .i64 x1), (43, .int .u32 x2), (64, .bool (b7 || x2 == 0))] w18 by
          rcases Bool.eq_false_or_eq_true b7 with hb10 | hb10
          · skip
            refine XR.LW.skip hL rfl (Skips.on rfl rfl rfl rfl rfl hb10) rfl ?_
            refine XR.LW.skip hL rfl (Skips.on rfl rfl rfl rfl rfl hb10) rfl ?_
            refine XR.LW.rd hL rfl (Wants.free rfl) rfl (Rd.pickT rfl hb10 rfl) ?_
            exact XR.LW.sub hL (by exact ⟨rfl, rfl, rfl, rfl, rfl, rfl, rfl, rfl, rfl, rfl, rfl, (by rw [hb10]; rfl), trivial⟩) K5
          · skip
            refine XR.LW.rd hL rfl (Wants.on rfl rfl rfl rfl rfl hb10) rfl (Rd.move (v := .int .u32 x2) rfl) ?_
            refine XR.LW.rd hL rfl (Wants.on rfl rfl rfl rfl rfl hb10) rfl (Rd.bin (v := .bool (x2 == 0)) rfl rfl (fun w => by kernel_rfl)) ?_
            refine XR.LW.rd hL rfl (Wants.free rfl) rfl (Rd.pickF rfl hb10 rfl) ?_
            exact XR.LW.sub hL (by exact ⟨rfl, rfl, rfl, rfl, rfl, rfl, rfl, rfl, rfl, rfl, rfl, (by rw [hb10]; rfl), trivial⟩) K5
        refine XR.LW.nil hL rfl ?_
        refine XR.NW.then ?_
        refine XR.CW.cond rfl (fun hb11 => ?_) (fun hb11 => ?_)
        · replace h := h.1 hb11
          refine XR.CW.seq ?_
          refine XR.CW.region fun L hL => ?_
          obtain ⟨w19, hw_w19⟩ : ∃ x, x = World.setCell w18 (⟨b2, 0, none⟩ : Addr) (.bool false) := ⟨_, rfl⟩
          refine XR.LW.eff hL rfl (Wants.free rfl) rfl (stE hw_w19 (Ef.st rfl rfl rfl (by kernel_rfl) (box_cell (v := u1) (hB.at (i := 1) rfl) rfl) (free_of (hB.at (i := 1) rfl) 0))) ?_
          replace hB : Boxes w19 [(b1, [.int .i64 many1], 3), (b2, [.bool false], 4), (b3, [.slice r4 r4n r4c], 31), (b4, [.int .i64 c1], 3), (b5, [.int .i64 c2], 3)] := Boxes.store1  (i := 1) (o := 0) hB rfl rfl rfl rfl hw_w19
          have hc_w19 : Chg [b2] w18 w19 := sil_more (Chg.refl [] w18) (sil_c1 hw_w19)
          refine XR.LW.nil hL rfl ?_
          refine XR.NW.then ?_
          refine XR.CW.ret ?_
          refine RW.then ?_
          refine RW.block ?_
          replace h := h  w19  hc_w19
          exact fun a_ ha_ => ⟨h.1, (Or.inl ⟨rfl, false, c1, c2, h.2.1, hB⟩), h.2.2⟩
        · replace h := h.2 hb11
          refine XR.CW.skip ?_
          refine XR.NW.then ?_
          refine XR.CW.seq ?_
          refine XR.CW.region fun L hL => ?_
          refine XR.LW.rd hL rfl (Wants.free rfl) rfl (Rd.move (v := .int .i64 x1) rfl) ?_
          obtain ⟨w20, hw_w20⟩ : ∃ x, x = World.setCell w18 (⟨b4, 0, none⟩ : Addr) (.int .i64 x1) := ⟨_, rfl⟩
          refine XR.LW.eff hL rfl (Wants.free rfl) rfl (stE hw_w20 (Ef.st rfl rfl rfl (by kernel_rfl) (box_cell (v := .int .i64 c1) (hB.at (i := 3) rfl) rfl) (free_of (hB.at (i := 3) rfl) 0))) ?_
          replace hB : Boxes w20 [(b1, [.int .i64 many1], 3), (b2, [u1], 4), (b3, [.slice r4 r4n r4c], 31), (b4, [.int .i64 x1], 3), (b5, [.int .i64 c2], 3)] := Boxes.store1  (i := 3) (o := 0) hB rfl rfl rfl rfl hw_w20
          have hc_w20 : Chg [b4] w18 w20 := sil_more (Chg.refl [] w18) (sil_c1 hw_w20)
          refine XR.LW.nil hL rfl ?_
          refine XR.NW.then ?_
          refine XR.CW.seq ?_
          refine XR.CW.region fun L hL => ?_
          refine XR.LW.rd hL rfl (Wants.free rfl) rfl (Rd.ld (v := .int .i64 c2) rfl (by kernel_rfl) (eqs (box_cell (hB.at (i := 4) rfl) rfl))) ?_
          refine XR.LW.rd hL rfl (Wants.free rfl) rfl (Rd.bin (v := .int .i64 (IntKind.wrap .i64 (c2 + 1))) rfl rfl (fun w => by kernel_rfl)) ?_
          obtain ⟨w21, hw_w21⟩ : ∃ x, x = World.setCell w20 (⟨b5, 0, none⟩ : Addr) (.int .i64 (IntKind.wrap .i64 (c2 + 1))) := ⟨_, rfl⟩
          refine XR.LW.eff hL rfl (Wants.free rfl) rfl (stE hw_w21 (Ef.st rfl rfl rfl (by kernel_rfl) (box_cell (v := .int .i64 c2) (hB.at (i := 4) rfl) rfl) (free_of (hB.at (i := 4) rfl) 0))) ?_
          replace hB : Boxes w21 [(b1, [.int .i64 many1], 3), (b2, [u1], 4), (b3, [.slice r4 r4n r4c], 31), (b4, [.int .i64 x1], 3), (b5, [.int .i64 (IntKind.wrap .i64 (c2 + 1))], 3)] := Boxes.store1  (i := 4) (o := 0) hB rfl rfl rfl rfl hw_w21
          have hc_w21 : Chg [b4, b5] w18 w21 := sil_more hc_w20 (sil_c1 hw_w21)
          refine XR.LW.nil hL rfl ?_
          refine XR.NW.then ?_
          refine XR.CW.seq ?_
          refine XR.CW.region fun L hL => ?_
          refine XR.LW.rd hL rfl (Wants.free rfl) rfl (Rd.ld (v := .int .i64 (IntKind.wrap .i64 (c2 + 1))) rfl (by kernel_rfl) (eqs (box_cell (hB.at (i := 4) rfl) rfl))) ?_
          refine XR.LW.rd hL rfl (Wants.free rfl) rfl (Rd.ld (v := .int .i64 many1) rfl (by kernel_rfl) (eqs (box_cell (hB.at (i := 0) rfl) rfl))) ?_
          refine XR.LW.rd hL rfl (Wants.free rfl) rfl (Rd.bin (v := .bool (decide ((IntKind.wrap .i64 (c2 + 1)) ≥ many1))) rfl rfl (fun w => by kernel_rfl)) ?_
          refine XR.LW.nil hL rfl ?_
          refine XR.NW.then ?_
          replace h := h  w21  hc_w21
          refine XR.CW.cond rfl (fun hb12 => ?_) (fun hb12 => ?_)
          · replace h := h.1 hb12
            refine XR.CW.exit ?_
            refine XW.miss rfl ?_
            exact fun a_ ha_ => ⟨h.1, (Or.inr (⟨rfl, x1, IntKind.wrap .i64 (c2 + 1), h.2.1, u1, hB⟩)), h.2.2⟩
          · replace h := h.2 hb12
            refine XR.CW.skip ?_
            refine NW.block ?_
            exact fun a_ ha_ => ⟨h.1, ⟨x1, IntKind.wrap .i64 (c2 + 1), h.2.1, u1, hB⟩, h.2.2⟩
      · intro d1 O2 xs1 w22 hO_ hd_ hdh_ hS_ hi_
        obtain ⟨c1, c2, hi_, u1, hB⟩ := hi_
        have h := hdn_ d1 O2 xs1 c1 c2 w22 hO_ hd_ hS_ hi_
        have hK := XR.Marks.cons (XR.Marks.nil _) hdh_ (by simp)
        refine NW.block ?_
        refine NW.then ?_
        refine CW.seq ?_
        refine CW.region fun L hL => ?_
        refine LW.rd hL rfl (Wants.free rfl) rfl (Rd.move (v := .int .i64 pages1) rfl) ?_
        refine LW.call hL rfl (Wants.free rfl) rfl (Cl.fn (f := 51) rfl Try.func51 (by kernel_rfl) rfl) h (fun e w23 h_ => ?_)
        clear h
        obtain ⟨r8, r9, rfl, h⟩ := h_
        obtain ⟨hsm5, h⟩ := h
        replace hB := Boxes.sameS (hB.sel [1] (by decide) rfl) hsm5 (by simp)
        replace hK := XR.Marks.same hK hsm5 (by simp)
        refine ⟨_, rfl, ?_⟩
        refine LW.rd hL rfl (Wants.free rfl) rfl (Rd.move (v := .tuple #[.pointer r8, .int .i64 r9]) rfl) ?_
        refine LW.rd hL rfl (Wants.free rfl) rfl (Rd.extract (v := .pointer r8) rfl rfl) ?_
        refine LW.rd hL rfl (Wants.free rfl) rfl (Rd.extract (v := .int .i64 r9) rfl rfl) ?_
        obtain ⟨b8, hb_b8⟩ : ∃ b8, b8 = World.size w23 := ⟨_, rfl⟩
        obtain ⟨w24, hw_w24⟩ : ∃ w24, w24 = World.alloc w23 (.cells #[.pointer none] 90) := ⟨_, rfl⟩
        refine LW.val hL rfl (Wants.free rfl) rfl (boxE hb_b8 hw_w24 (Vl.alloc (z := .pointer none) (by kernel_rfl))) ?_
        replace hB := Boxes.alloc (cs := [.pointer none]) (T := 90) hB hb_b8 hw_w24
        replace hK := XR.Marks.grow hK hw_w24
        have hlo_b8 := sil_lo (Chg.refl [] w23) hb_b8
        have hc_w24 := sil_alloc (Chg.refl [] w23) hw_w24
        obtain ⟨w25, hw_w25⟩ : ∃ x, x = World.setCell w24 (⟨b8, 0, none⟩ : Addr) (.pointer r8) := ⟨_, rfl⟩
        refine LW.eff hL rfl (Wants.free rfl) rfl (stE hw_w25 (Ef.st rfl rfl rfl (by kernel_rfl) (box_cell (v := .pointer none) (hB.at (i := 0) rfl) rfl) (free_of (hB.at (i := 0) rfl) 0))) ?_
        replace hK := XR.Marks.set hK (hB.at (i := 0) rfl) (sil_c1 hw_w25)
        replace hB : Boxes w25 [(b8, [.pointer r8], 90), (b2, [u1], 4)] := Boxes.store1  (i := 0) (o := 0) hB rfl rfl rfl rfl hw_w25
        have hc_w25 := sil_new hc_w24 (sil_c1 hw_w25) hlo_b8
        refine LW.rd hL rfl (Wants.free rfl) rfl (Rd.assign (v := .int .i64 r9) rfl) ?_
        refine LW.nil hL rfl ?_
        refine NW.then ?_
        refine CW.seq ?_
        refine CW.seq ?_
        refine CW.region fun L hL => ?_
        refine LW.rd hL rfl (Wants.free rfl) rfl (Rd.move (v := .pointer r3) rfl) ?_
        replace h := h b8 w25 ⟨hlo_b8, lt_of_heap (hB.at (i := 0) rfl)⟩ hc_w25
        refine LW.call hL rfl (Wants.free rfl) rfl (Cl.fn (f := 50) rfl Try.func50 (by kernel_rfl) rfl) h (fun e w26 h_ => ?_)
        clear h
        obtain ⟨r10, rfl, h⟩ := h_
        obtain ⟨hsm6, h⟩ := h
        replace hB := Boxes.sameS hB hsm6 (by simp)
        replace hK := XR.Marks.same hK hsm6 (by simp)
        refine ⟨_, rfl, ?_⟩
        refine LW.nil hL rfl ?_
        refine NW.then ?_
        refine CW.block ?_
        obtain ⟨S2, Sp2, keep2, hfn_, hit_, hkp_, I2, hst_I2, h0_, hrd_, hdn_⟩ := h
        refine XR.CW.rangeV (α := Int × Int) (enc := (fun x : Int × Int => #[.int .i64 x.1, .int .u32 x.2])) (S := S2) (Sp := Sp2) (keep := keep2) rfl hfn_ (fun _ => rfl) (by decide) hit_ (fun (O_ : List Nat) (pre_ : List (Int × Int)) (w_ : World) => I2 O_ pre_ w_ ∧ XR.Marks w_ [d1] ∧ Boxes w_ [(b2, [u1], 4), (b8, [.pointer r8], 90)]) (fun (c_ : Code) (O_ : List Nat) (pre_ : List (Int × Int)) (w_ : World) => False) ?_ ?_ ?_ hkp_ ?_ ?_ ?_
        · intro pre_ O_ O2_ A_ B_ hi_ hO_ hc_ hO2_ hg_
          have hB0_ := (hB.sel [1, 0] (by decide) rfl)
          have hK0_ := hK
          obtain ⟨hi_, hK, hB⟩ := hi_
          exact ⟨hst_I2  pre_ O_ O2_ A_ B_ hi_ hO_ hc_ hO2_ hg_, hK.stab hK0_ hO_ hc_, hB.stab hB0_ rfl hO_ hc_⟩
        · intro c_ pre_ O_ O2_ A_ B_ hi_ hO_ hc_ hO2_ hg_
          exact hi_.elim
        · intro O_ A_ hc_ hO_
          exact ⟨h0_ O_ A_ hc_ hO_, hK.chg hc_ (by simp), Boxes.chg (hB.sel [1, 0] (by decide) rfl) hc_ (by simp)⟩
        · intro l2 O3 pre2 x_ w27 hO_ hl_ hSp_ hi_
          obtain ⟨x3, x4⟩ := x_
          obtain ⟨hi_, hK, hB⟩ := hi_
          have h := hrd_ l2 O3 pre2 x3 x4 w27 hO_ hl_ hSp_ hi_
          refine XR.CW.seq ?_
          refine XR.CW.region fun L hL => ?_
          refine XR.LW.rd hL rfl (Wants.free rfl) rfl (Rd.assign (v := .int .i64 x3) rfl) ?_
          refine XR.LW.nil hL rfl ?_
          refine XR.NW.then ?_
          refine XR.CW.region fun L hL => ?_
          refine XR.LW.rd hL rfl (Wants.free rfl) rfl (Rd.assign (v := .int .u32 x4) rfl) ?_
          refine XR.LW.nil hL rfl ?_
          refine XR.NW.begin (Chg.refl [] w27) (fun w28 hcb_w28 hlp_ hib_ => ?_)
          have hc_w28 : Chg [l2] w27 w28 := sil_more (Chg.refl [] w27) hcb_w28
          replace hB := hB.notloop hlp_ hcb_w28
          replace hK := hK.notloop hlp_ hcb_w28
          replace h := h  w28  hc_w28
          refine XR.CW.block ?_
          refine XR.CW.region fun L hL => ?_
          refine XR.LW.rd hL rfl (Wants.free rfl) rfl (Rd.ld (v := .pointer r8) rfl (by kernel_rfl) (eqs (box_cell (hB.at (i := 1) rfl) rfl))) ?_
          refine XR.LW.rd hL rfl (Wants.free rfl) rfl (Rd.move (v := .int .i64 x3) rfl) ?_
          refine XR.LW.rd hL rfl (Wants.free rfl) rfl (Rd.move (v := .int .u32 x4) rfl) ?_
          refine XR.LW.call hL rfl (Wants.free rfl) rfl (Cl.fn (f := 52) rfl Try.func52 (by kernel_rfl) rfl) h (fun e w29 h_ => ?_)
          clear h
          obtain ⟨r11, rfl, h⟩ := h_
          obtain ⟨hsm7, h⟩ := h
          replace hB := Boxes.sameS hB hsm7 (by simp)
          replace hK := XR.Marks.same hK hsm7 (by simp)
          refine ⟨_, rfl, ?_⟩
          refine XR.LW.nil hL rfl ?_
          refine NW.block ?_
          exact fun a_ ha_ => ⟨h.1, ⟨h.2.1, hK, hB⟩, h.2.2⟩
        · intro d2 O4 xs2 w30 hO_ hd_ hdh_ hS_ hi_
          have hK0_ := hK
          obtain ⟨hi_, hK, hB⟩ := hi_
          have h := hdn_ d2 O4 xs2 w30 hO_ hd_ hS_ hi_
          have hK := XR.Marks.cons2 hK hK0_ (hO_ _ hd_).1 hdh_
          refine NW.block ?_
          refine NW.then ?_
          refine CW.seq ?_
          refine CW.region fun L hL => ?_
          refine LW.rd hL rfl (Wants.free rfl) rfl (Rd.move (v := .bool r5) rfl) ?_
          refine LW.rd hL rfl (Wants.free rfl) rfl (Rd.move (v := .bool r5) rfl) ?_
          obtain ⟨J3, hJ3, h1_J3, h0_J3⟩ := h
          suffices K6 : ∀ (b9 : Bool) (w31 : World), XR.Marks w31 [d2, d1] → Boxes w31 [(b2, [u1], 4), (b8, [.pointer r8], 90)] → J3 b9 w31 → L 6 [(6, .pointer (some (⟨b2, 0, none⟩ : Addr))), (7, .pointer r3), (14, .pointer (some (⟨b8, 0, none⟩ : Addr))), (89, .bool b9)] w31 by
            rcases Bool.eq_false_or_eq_true r5 with hb13 | hb13
            · have h := h1_J3 hb13
              refine LW.rd hL rfl (Wants.on rfl rfl rfl rfl rfl hb13) rfl (Rd.move (v := .int .i64 r9) rfl) ?_
              refine LW.call hL rfl (Wants.on rfl rfl rfl rfl rfl hb13) rfl (Cl.fn (f := 44) rfl Try.func44 (by kernel_rfl) rfl) h (fun e w32 h_ => ?_)
              clear h
              obtain ⟨r12, rfl, h⟩ := h_
              obtain ⟨hsm8, h⟩ := h
              replace hB := Boxes.sameS hB hsm8 (by simp)
              replace hK := XR.Marks.same hK hsm8 (by simp)
              refine ⟨_, rfl, ?_⟩
              refine LW.rd hL rfl (Wants.on rfl rfl rfl rfl rfl hb13) rfl (Rd.bin (v := .bool (r12 == 0)) rfl rfl (fun w => by kernel_rfl)) ?_
              refine LW.rd hL rfl (Wants.free rfl) rfl (Rd.pickT rfl hb13 rfl) ?_
              exact LW.sub hL (by exact ⟨rfl, rfl, rfl, rfl, trivial⟩) (K6 (r12 == 0) w32 hK (by exact hB) h)
            · have h := h0_J3 hb13
              refine LW.skip hL rfl (Skips.on rfl rfl rfl rfl rfl hb13) rfl ?_
              refine LW.skip hL rfl (Skips.on rfl rfl rfl rfl rfl hb13) rfl ?_
              refine LW.skip hL rfl (Skips.on rfl rfl rfl rfl rfl hb13) rfl ?_
              refine LW.rd hL rfl (Wants.free rfl) rfl (Rd.pickF rfl hb13 rfl) ?_
              exact LW.sub hL (by exact ⟨rfl, rfl, rfl, rfl, trivial⟩) (K6 false w30 hK (by exact hB) h)
          intro b9 w31 hK hB h_
          have h := hJ3 b9 w31 h_; clear h_
          refine LW.rd hL rfl (Wants.free rfl) rfl (Rd.move (v := .bool b9) rfl) ?_
          obtain ⟨J4, hJ4, h1_J4, h0_J4⟩ := h
          suffices K7 : ∀ (b10 : Bool) (w33 : World), XR.Marks w33 [d2, d1] → Boxes w33 [(b2, [u1], 4)] → J4 b10 w33 → L 11 [(6, .pointer (some (⟨b2, 0, none⟩ : Addr))), (94, .bool b10)] w33 by
            rcases Bool.eq_false_or_eq_true b9 with hb14 | hb14
            · have h := h1_J4 hb14
              refine LW.rd hL rfl (Wants.on rfl rfl rfl rfl rfl hb14) rfl (Rd.ld (v := .pointer r8) rfl (by kernel_rfl) (eqs (box_cell (hB.at (i := 1) rfl) rfl))) ?_
              refine LW.rd hL rfl (Wants.on rfl rfl rfl rfl rfl hb14) rfl (Rd.move (v := .pointer r3) rfl) ?_
              refine LW.call hL rfl (Wants.on rfl rfl rfl rfl rfl hb14) rfl (Cl.fn (f := 53) rfl Try.func53 (by kernel_rfl) rfl) h (fun e w34 h_ => ?_)
              clear h
              obtain ⟨r13, rfl, h⟩ := h_
              obtain ⟨hsm9, h⟩ := h
              replace hB := Boxes.sameS (hB.sel [0] (by decide) rfl) hsm9 (by simp)
              replace hK := XR.Marks.same hK hsm9 (by simp)
              refine ⟨_, rfl, ?_⟩
              refine LW.rd hL rfl (Wants.free rfl) rfl (Rd.pickT rfl hb14 rfl) ?_
              exact LW.sub hL (by exact ⟨rfl, rfl, trivial⟩) (K7 r13 w34 hK (by exact hB) h)
            · have h := h0_J4 hb14
              refine LW.skip hL rfl (Skips.on rfl rfl rfl rfl rfl hb14) rfl ?_
              refine LW.skip hL rfl (Skips.on rfl rfl rfl rfl rfl hb14) rfl ?_
              refine LW.skip hL rfl (Skips.on rfl rfl rfl rfl rfl hb14) rfl ?_
              refine LW.rd hL rfl (Wants.free rfl) rfl (Rd.pickF rfl hb14 rfl) ?_
              exact LW.sub hL (by exact ⟨rfl, rfl, trivial⟩) (K7 false w31 hK (by exact (hB.sel [0] (by decide) rfl)) h)
          intro b10 w33 hK hB h_
          have h := hJ4 b10 w33 h_; clear h_
          refine LW.rd hL rfl (Wants.free rfl) rfl (Rd.move (v := .bool b10) rfl) ?_
          obtain ⟨J5, hJ5, h1_J5, h0_J5⟩ := h
          suffices K8 : ∀ (b11 : Bool) (w35 : World), XR.Marks w35 [d2, d1] → Boxes w35 [(b2, [u1], 4)] → J5 b11 w35 → L 14 [(6, .pointer (some (⟨b2, 0, none⟩ : Addr))), (97, .bool b11)] w35 by
            rcases Bool.eq_false_or_eq_true b10 with hb15 | hb15
            · have h := h1_J5 hb15
              refine LW.call hL rfl (Wants.on rfl rfl rfl rfl rfl hb15) rfl (Cl.fn (f := 40) rfl Try.func40 (by kernel_rfl) rfl) h (fun e w36 h_ => ?_)
              clear h
              obtain ⟨r14, rfl, h⟩ := h_
              obtain ⟨hsm10, h⟩ := h
              replace hB := Boxes.sameS hB hsm10 (by simp)
              replace hK := XR.Marks.same hK hsm10 (by simp)
              refine ⟨_, rfl, ?_⟩
              refine LW.rd hL rfl (Wants.free rfl) rfl (Rd.pickT rfl hb15 rfl) ?_
              exact LW.sub hL (by exact ⟨rfl, rfl, trivial⟩) (K8 r14 w36 hK (by exact hB) h)
            · have h := h0_J5 hb15
              refine LW.skip hL rfl (Skips.on rfl rfl rfl rfl rfl hb15) rfl ?_
              refine LW.rd hL rfl (Wants.free rfl) rfl (Rd.pickF rfl hb15 rfl) ?_
              exact LW.sub hL (by exact ⟨rfl, rfl, trivial⟩) (K8 false w33 hK (by exact hB) h)
          intro b11 w35 hK hB h_
          have h := hJ5 b11 w35 h_; clear h_
          obtain ⟨w37, hw_w37⟩ : ∃ x, x = World.setCell w35 (⟨b2, 0, none⟩ : Addr) (.bool b11) := ⟨_, rfl⟩
          refine LW.eff hL rfl (Wants.free rfl) rfl (stE hw_w37 (Ef.st rfl rfl rfl (by kernel_rfl) (box_cell (v := u1) (hB.at (i := 0) rfl) rfl) (free_of (hB.at (i := 0) rfl) 0))) ?_
          replace hK := XR.Marks.set hK (hB.at (i := 0) rfl) (sil_c1 hw_w37)
          replace hB : Boxes w37 [(b2, [.bool b11], 4)] := Boxes.store1  (i := 0) (o := 0) hB rfl rfl rfl rfl hw_w37
          have hc_w37 : Chg [b2] w35 w37 := sil_more (Chg.refl [] w35) (sil_c1 hw_w37)
          refine LW.nil hL rfl ?_
          refine NW.then ?_
          replace h := h  w37  hc_w37
          refine CW.ret ?_
          exact XR.resM (ms := [d2, d1]) (vs := [.bool b11]) hK rfl (fun w_ hc_ => ⟨(ResOK.c rfl (lv1 (by kernel_rfl) (box_cell (Boxes.at (i := 0) (hB.marks hK hc_) rfl) rfl)) ResOK.nil), b11, rfl, h w_ hc_⟩)
        · intro d3 c_ O5 xs3 w39 hO_ hd_ hdh_ hS_ hi_
          exact hi_.elim
      · intro d4 c_ O6 xs4 w40 hO_ hd_ hdh_ hS_ hi_
        rcases hi_ with ⟨rfl, c3, c4, c5, hi_, hB⟩ | ⟨rfl, c1, c2, hi_, u1, hB⟩
        · have h := hso_X1 d4 O6 xs4 c3 c4 c5 w40 hO_ hd_ hS_ hi_
          have hK := XR.Marks.cons (XR.Marks.nil _) hdh_ (by simp)
          refine CW.ret ?_
          refine RW.block ?_
          refine RW.then ?_
          exact XR.resM (ms := [d4]) (vs := [.bool c3]) hK rfl (fun w_ hc_ => ⟨(ResOK.c rfl (lv1 (by kernel_rfl) (box_cell (Boxes.at (i := 1) (hB.marks hK hc_) rfl) rfl)) ResOK.nil), c3, rfl, h w_ hc_⟩)
        · have h := hso_X2 d4 O6 xs4 c1 c2 w40 hO_ hd_ hS_ hi_
          have hK := XR.Marks.cons (XR.Marks.nil _) hdh_ (by simp)
          refine CW.exit ?_
          refine XW.hit ?_
          refine NW.then ?_
          refine CW.seq ?_
          refine CW.region fun L hL => ?_
          refine LW.rd hL rfl (Wants.free rfl) rfl (Rd.move (v := .int .i64 pages1) rfl) ?_
          refine LW.call hL rfl (Wants.free rfl) rfl (Cl.fn (f := 51) rfl Try.func51 (by kernel_rfl) rfl) h (fun e w42 h_ => ?_)
          clear h
          obtain ⟨r15, r16, rfl, h⟩ := h_
          obtain ⟨hsm11, h⟩ := h
          replace hB := Boxes.sameS (hB.sel [1] (by decide) rfl) hsm11 (by simp)
          replace hK := XR.Marks.same hK hsm11 (by simp)
          refine ⟨_, rfl, ?_⟩
          refine LW.rd hL rfl (Wants.free rfl) rfl (Rd.move (v := .tuple #[.pointer r15, .int .i64 r16]) rfl) ?_
          refine LW.rd hL rfl (Wants.free rfl) rfl (Rd.extract (v := .pointer r15) rfl rfl) ?_
          refine LW.rd hL rfl (Wants.free rfl) rfl (Rd.extract (v := .int .i64 r16) rfl rfl) ?_
          obtain ⟨b12, hb_b12⟩ : ∃ b12, b12 = World.size w42 := ⟨_, rfl⟩
          obtain ⟨w43, hw_w43⟩ : ∃ w43, w43 = World.alloc w42 (.cells #[.pointer none] 90) := ⟨_, rfl⟩
          refine LW.val hL rfl (Wants.free rfl) rfl (boxE hb_b12 hw_w43 (Vl.alloc (z := .pointer none) (by kernel_rfl))) ?_
          replace hB := Boxes.alloc (cs := [.pointer none]) (T := 90) hB hb_b12 hw_w43
          replace hK := XR.Marks.grow hK hw_w43
          have hlo_b12 := sil_lo (Chg.refl [] w42) hb_b12
          have hc_w43 := sil_alloc (Chg.refl [] w42) hw_w43
          obtain ⟨w44, hw_w44⟩ : ∃ x, x = World.setCell w43 (⟨b12, 0, none⟩ : Addr) (.pointer r15) := ⟨_, rfl⟩
          refine LW.eff hL rfl (Wants.free rfl) rfl (stE hw_w44 (Ef.st rfl rfl rfl (by kernel_rfl) (box_cell (v := .pointer none) (hB.at (i := 0) rfl) rfl) (free_of (hB.at (i := 0) rfl) 0))) ?_
          replace hK := XR.Marks.set hK (hB.at (i := 0) rfl) (sil_c1 hw_w44)
          replace hB : Boxes w44 [(b12, [.pointer r15], 90), (b2, [u1], 4)] := Boxes.store1  (i := 0) (o := 0) hB rfl rfl rfl rfl hw_w44
          have hc_w44 := sil_new hc_w43 (sil_c1 hw_w44) hlo_b12
          refine LW.rd hL rfl (Wants.free rfl) rfl (Rd.assign (v := .int .i64 r16) rfl) ?_
          refine LW.nil hL rfl ?_
          refine NW.then ?_
          refine CW.seq ?_
          refine CW.seq ?_
          refine CW.region fun L hL => ?_
          refine LW.rd hL rfl (Wants.free rfl) rfl (Rd.move (v := .pointer r3) rfl) ?_
          replace h := h b12 w44 ⟨hlo_b12, lt_of_heap (hB.at (i := 0) rfl)⟩ hc_w44
          refine LW.call hL rfl (Wants.free rfl) rfl (Cl.fn (f := 50) rfl Try.func50 (by kernel_rfl) rfl) h (fun e w45 h_ => ?_)
          clear h
          obtain ⟨r17, rfl, h⟩ := h_
          obtain ⟨hsm12, h⟩ := h
          replace hB := Boxes.sameS hB hsm12 (by simp)
          replace hK := XR.Marks.same hK hsm12 (by simp)
          refine ⟨_, rfl, ?_⟩
          refine LW.nil hL rfl ?_
          refine NW.then ?_
          refine CW.block ?_
          obtain ⟨S3, Sp3, keep3, hfn_, hit_, hkp_, I3, hst_I3, h0_, hrd_, hdn_⟩ := h
          refine XR.CW.rangeV (α := Int × Int) (enc := (fun x : Int × Int => #[.int .i64 x.1, .int .u32 x.2])) (S := S3) (Sp := Sp3) (keep := keep3) rfl hfn_ (fun _ => rfl) (by decide) hit_ (fun (O_ : List Nat) (pre_ : List (Int × Int)) (w_ : World) => I3 O_ pre_ w_ ∧ XR.Marks w_ [d4] ∧ Boxes w_ [(b2, [u1], 4), (b12, [.pointer r15], 90)]) (fun (c_ : Code) (O_ : List Nat) (pre_ : List (Int × Int)) (w_ : World) => False) ?_ ?_ ?_ hkp_ ?_ ?_ ?_
          · intro pre_ O_ O2_ A_ B_ hi_ hO_ hc_ hO2_ hg_
            have hB0_ := (hB.sel [1, 0] (by decide) rfl)
            have hK0_ := hK
            obtain ⟨hi_, hK, hB⟩ := hi_
            exact ⟨hst_I3  pre_ O_ O2_ A_ B_ hi_ hO_ hc_ hO2_ hg_, hK.stab hK0_ hO_ hc_, hB.stab hB0_ rfl hO_ hc_⟩
          · intro c_ pre_ O_ O2_ A_ B_ hi_ hO_ hc_ hO2_ hg_
            exact hi_.elim
          · intro O_ A_ hc_ hO_
            exact ⟨h0_ O_ A_ hc_ hO_, hK.chg hc_ (by simp), Boxes.chg (hB.sel [1, 0] (by decide) rfl) hc_ (by simp)⟩
          · intro l3 O7 pre3 x_ w46 hO_ hl_ hSp_ hi_
            obtain ⟨x5, x6⟩ := x_
            obtain ⟨hi_, hK, hB⟩ := hi_
            have h := hrd_ l3 O7 pre3 x5 x6 w46 hO_ hl_ hSp_ hi_
            refine XR.CW.seq ?_
            refine XR.CW.region fun L hL => ?_
            refine XR.LW.rd hL rfl (Wants.free rfl) rfl (Rd.assign (v := .int .i64 x5) rfl) ?_
            refine XR.LW.nil hL rfl ?_
            refine XR.NW.then ?_
            refine XR.CW.region fun L hL => ?_
            refine XR.LW.rd hL rfl (Wants.free rfl) rfl (Rd.assign (v := .int .u32 x6) rfl) ?_
            refine XR.LW.nil hL rfl ?_
            refine XR.NW.begin (Chg.refl [] w46) (fun w47 hcb_w47 hlp_ hib_ => ?_)
            have hc_w47 : Chg [l3] w46 w47 := sil_more (Chg.refl [] w46) hcb_w47
            replace hB := hB.notloop hlp_ hcb_w47
            replace hK := hK.notloop hlp_ hcb_w47
            replace h := h  w47  hc_w47
            refine XR.CW.block ?_
            refine XR.CW.region fun L hL => ?_
            refine XR.LW.rd hL rfl (Wants.free rfl) rfl (Rd.ld (v := .pointer r15) rfl (by kernel_rfl) (eqs (box_cell (hB.at (i := 1) rfl) rfl))) ?_
            refine XR.LW.rd hL rfl (Wants.free rfl) rfl (Rd.move (v := .int .i64 x5) rfl) ?_
            refine XR.LW.rd hL rfl (Wants.free rfl) rfl (Rd.move (v := .int .u32 x6) rfl) ?_
            refine XR.LW.call hL rfl (Wants.free rfl) rfl (Cl.fn (f := 52) rfl Try.func52 (by kernel_rfl) rfl) h (fun e w48 h_ => ?_)
            clear h
            obtain ⟨r18, rfl, h⟩ := h_
            obtain ⟨hsm13, h⟩ := h
            replace hB := Boxes.sameS hB hsm13 (by simp)
            replace hK := XR.Marks.same hK hsm13 (by simp)
            refine ⟨_, rfl, ?_⟩
            refine XR.LW.nil hL rfl ?_
            refine NW.block ?_
            exact fun a_ ha_ => ⟨h.1, ⟨h.2.1, hK, hB⟩, h.2.2⟩
          · intro d5 O8 xs5 w49 hO_ hd_ hdh_ hS_ hi_
            have hK0_ := hK
            obtain ⟨hi_, hK, hB⟩ := hi_
            have h := hdn_ d5 O8 xs5 w49 hO_ hd_ hS_ hi_
            have hK := XR.Marks.cons2 hK hK0_ (hO_ _ hd_).1 hdh_
            refine NW.block ?_
            refine NW.then ?_
            refine CW.seq ?_
            refine CW.region fun L hL => ?_
            refine LW.rd hL rfl (Wants.free rfl) rfl (Rd.move (v := .bool r5) rfl) ?_
            refine LW.rd hL rfl (Wants.free rfl) rfl (Rd.move (v := .bool r5) rfl) ?_
            obtain ⟨J6, hJ6, h1_J6, h0_J6⟩ := h
            suffices K9 : ∀ (b13 : Bool) (w50 : World), XR.Marks w50 [d5, d4] → Boxes w50 [(b2, [u1], 4), (b12, [.pointer r15], 90)] → J6 b13 w50 → L 6 [(6, .pointer (some (⟨b2, 0, none⟩ : Addr))), (7, .pointer r3), (14, .pointer (some (⟨b12, 0, none⟩ : Addr))), (89, .bool b13)] w50 by
              rcases Bool.eq_false_or_eq_true r5 with hb16 | hb16
              · have h := h1_J6 hb16
                refine LW.rd hL rfl (Wants.on rfl rfl rfl rfl rfl hb16) rfl (Rd.move (v := .int .i64 r16) rfl) ?_
                refine LW.call hL rfl (Wants.on rfl rfl rfl rfl rfl hb16) rfl (Cl.fn (f := 44) rfl Try.func44 (by kernel_rfl) rfl) h (fun e w51 h_ => ?_)
                clear h
                obtain ⟨r19, rfl, h⟩ := h_
                obtain ⟨hsm14, h⟩ := h
                replace hB := Boxes.sameS hB hsm14 (by simp)
                replace hK := XR.Marks.same hK hsm14 (by simp)
                refine ⟨_, rfl, ?_⟩
                refine LW.rd hL rfl (Wants.on rfl rfl rfl rfl rfl hb16) rfl (Rd.bin (v := .bool (r19 == 0)) rfl rfl (fun w => by kernel_rfl)) ?_
                refine LW.rd hL rfl (Wants.free rfl) rfl (Rd.pickT rfl hb16 rfl) ?_
                exact LW.sub hL (by exact ⟨rfl, rfl, rfl, rfl, trivial⟩) (K9 (r19 == 0) w51 hK (by exact hB) h)
              · have h := h0_J6 hb16
                refine LW.skip hL rfl (Skips.on rfl rfl rfl rfl rfl hb16) rfl ?_
                refine LW.skip hL rfl (Skips.on rfl rfl rfl rfl rfl hb16) rfl ?_
                refine LW.skip hL rfl (Skips.on rfl rfl rfl rfl rfl hb16) rfl ?_
                refine LW.rd hL rfl (Wants.free rfl) rfl (Rd.pickF rfl hb16 rfl) ?_
                exact LW.sub hL (by exact ⟨rfl, rfl, rfl, rfl, trivial⟩) (K9 false w49 hK (by exact hB) h)
            intro b13 w50 hK hB h_
            have h := hJ6 b13 w50 h_; clear h_
            refine LW.rd hL rfl (Wants.free rfl) rfl (Rd.move (v := .bool b13) rfl) ?_
            obtain ⟨J7, hJ7, h1_J7, h0_J7⟩ := h
            suffices K10 : ∀ (b14 : Bool) (w52 : World), XR.Marks w52 [d5, d4] → Boxes w52 [(b2, [u1], 4)] → J7 b14 w52 → L 11 [(6, .pointer (some (⟨b2, 0, none⟩ : Addr))), (94, .bool b14)] w52 by
              rcases Bool.eq_false_or_eq_true b13 with hb17 | hb17
              · have h := h1_J7 hb17
                refine LW.rd hL rfl (Wants.on rfl rfl rfl rfl rfl hb17) rfl (Rd.ld (v := .pointer r15) rfl (by kernel_rfl) (eqs (box_cell (hB.at (i := 1) rfl) rfl))) ?_
                refine LW.rd hL rfl (Wants.on rfl rfl rfl rfl rfl hb17) rfl (Rd.move (v := .pointer r3) rfl) ?_
                refine LW.call hL rfl (Wants.on rfl rfl rfl rfl rfl hb17) rfl (Cl.fn (f := 53) rfl Try.func53 (by kernel_rfl) rfl) h (fun e w53 h_ => ?_)
                clear h
                obtain ⟨r20, rfl, h⟩ := h_
                obtain ⟨hsm15, h⟩ := h
                replace hB := Boxes.sameS (hB.sel [0] (by decide) rfl) hsm15 (by simp)
                replace hK := XR.Marks.same hK hsm15 (by simp)
                refine ⟨_, rfl, ?_⟩
                refine LW.rd hL rfl (Wants.free rfl) rfl (Rd.pickT rfl hb17 rfl) ?_
                exact LW.sub hL (by exact ⟨rfl, rfl, trivial⟩) (K10 r20 w53 hK (by exact hB) h)
              · have h := h0_J7 hb17
                refine LW.skip hL rfl (Skips.on rfl rfl rfl rfl rfl hb17) rfl ?_
                refine LW.skip hL rfl (Skips.on rfl rfl rfl rfl rfl hb17) rfl ?_
                refine LW.skip hL rfl (Skips.on rfl rfl rfl rfl rfl hb17) rfl ?_
                refine LW.rd hL rfl (Wants.free rfl) rfl (Rd.pickF rfl hb17 rfl) ?_
                exact LW.sub hL (by exact ⟨rfl, rfl, trivial⟩) (K10 false w50 hK (by exact (hB.sel [0] (by decide) rfl)) h)
            intro b14 w52 hK hB h_
            have h := hJ7 b14 w52 h_; clear h_
            refine LW.rd hL rfl (Wants.free rfl) rfl (Rd.move (v := .bool b14) rfl) ?_
            obtain ⟨J8, hJ8, h1_J8, h0_J8⟩ := h
            suffices K11 : ∀ (b15 : Bool) (w54 : World), XR.Marks w54 [d5, d4] → Boxes w54 [(b2, [u1], 4)] → J8 b15 w54 → L 14 [(6, .pointer (some (⟨b2, 0, none⟩ : Addr))), (97, .bool b15)] w54 by
              rcases Bool.eq_false_or_eq_true b14 with hb18 | hb18
              · have h := h1_J8 hb18
                refine LW.call hL rfl (Wants.on rfl rfl rfl rfl rfl hb18) rfl (Cl.fn (f := 40) rfl Try.func40 (by kernel_rfl) rfl) h (fun e w55 h_ => ?_)
                clear h
                obtain ⟨r21, rfl, h⟩ := h_
                obtain ⟨hsm16, h⟩ := h
                replace hB := Boxes.sameS hB hsm16 (by simp)
                replace hK := XR.Marks.same hK hsm16 (by simp)
                refine ⟨_, rfl, ?_⟩
                refine LW.rd hL rfl (Wants.free rfl) rfl (Rd.pickT rfl hb18 rfl) ?_
                exact LW.sub hL (by exact ⟨rfl, rfl, trivial⟩) (K11 r21 w55 hK (by exact hB) h)
              · have h := h0_J8 hb18
                refine LW.skip hL rfl (Skips.on rfl rfl rfl rfl rfl hb18) rfl ?_
                refine LW.rd hL rfl (Wants.free rfl) rfl (Rd.pickF rfl hb18 rfl) ?_
                exact LW.sub hL (by exact ⟨rfl, rfl, trivial⟩) (K11 false w52 hK (by exact hB) h)
            intro b15 w54 hK hB h_
            have h := hJ8 b15 w54 h_; clear h_
            obtain ⟨w56, hw_w56⟩ : ∃ x, x = World.setCell w54 (⟨b2, 0, none⟩ : Addr) (.bool b15) := ⟨_, rfl⟩
            refine LW.eff hL rfl (Wants.free rfl) rfl (stE hw_w56 (Ef.st rfl rfl rfl (by kernel_rfl) (box_cell (v := u1) (hB.at (i := 0) rfl) rfl) (free_of (hB.at (i := 0) rfl) 0))) ?_
            replace hK := XR.Marks.set hK (hB.at (i := 0) rfl) (sil_c1 hw_w56)
            replace hB : Boxes w56 [(b2, [.bool b15], 4)] := Boxes.store1  (i := 0) (o := 0) hB rfl rfl rfl rfl hw_w56
            have hc_w56 : Chg [b2] w54 w56 := sil_more (Chg.refl [] w54) (sil_c1 hw_w56)
            refine LW.nil hL rfl ?_
            refine NW.then ?_
            replace h := h  w56  hc_w56
            refine CW.ret ?_
            exact XR.resM (ms := [d5, d4]) (vs := [.bool b15]) hK rfl (fun w_ hc_ => ⟨(ResOK.c rfl (lv1 (by kernel_rfl) (box_cell (Boxes.at (i := 0) (hB.marks hK hc_) rfl) rfl)) ResOK.nil), b15, rfl, h w_ hc_⟩)
          · intro d6 c_ O9 xs6 w58 hO_ hd_ hdh_ hS_ hi_
            exact hi_.elim

end Go.Proofs.Ytkfncibmfcdokaa
