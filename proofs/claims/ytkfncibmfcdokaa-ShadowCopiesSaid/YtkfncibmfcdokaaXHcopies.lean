import Derived.Test.YtkfncibmfcdokaaProg
import Derived.Test.YtkfncibmfcdokaaXEq
import Derived.Test.YtkfncibmfcdokaaXLoc
import Derived.Test.YtkfncibmfcdokaaXRange
set_option linter.unusedVariables false
set_option linter.unusedSimpArgs false
namespace Go.Proofs.Ytkfncibmfcdokaa
open Go Go.X

/- pomander/pomanderlaw03.ShadowCopies -/
def W_pomanderlaw03_ShadowCopies (pages1 : Int) (script1 : Option Addr) (script1n : Nat) (script1c : Nat) (x1 : Int) (x2 : Int) (x3 : Int) (x4 : Int) (w : World) (R : Bool → World → Prop) : Prop :=
  ∀ (b2 b1 : Nat) (w2 : World), (w.heap.size ≤ b2 ∧ b2 < w2.heap.size) → (w.heap.size ≤ b1 ∧ b1 < w2.heap.size) → Chg [] w w2 → ((((decide (pages1 < 1) || decide (pages1 > 32)) || decide ((script1n : Int) > 40)) = true → Calls Try.prog 40 #[] w2 fun e w3 => ∃ (r2 : Bool), e = .returned (.bool r2) ∧ (Same w2 w3 [b2, b1] ∧ (∀ (w4 : World), Chg [b2] w3 w4 → (R r2 w4)))) ∧ (((decide (pages1 < 1) || decide (pages1 > 32)) || decide ((script1n : Int) > 40)) = false → Calls Try.prog 41 #[.int .i64 pages1, .slice script1 script1n script1c] w2 fun e w5 => ∃ (r3 : Option Addr) (r4 : Option Addr) (r4n : Nat) (r4c : Nat) (r5 : Bool), e = .returned (.tuple #[.pointer r3, .slice r4 r4n r4c, .bool r5]) ∧ (Same w2 w5 [b2, b1] ∧ (Calls Try.prog 57 #[.pointer r3] w5 fun e w6 => ∃ (r6 : Option Addr), e = .returned (.pointer r6) ∧ (Same w5 w6 [b2, b1] ∧ (Calls Try.prog 50 #[.pointer r3] w6 fun e w7 => ∃ (r7 : Value), e = .returned (r7) ∧ (Same w6 w7 [b2, b1] ∧ (∃ J1 : Bool → World → Prop, (∀ (b3 : Bool) (w8 : World), J1 b3 w8 → (b3 = true → ∀ (w10 : World), Chg [b2] w8 w10 → (R false w10)) ∧ (b3 = false → ∃ J2 : (Option Addr) → Nat → Nat → World → Prop, (∀ (next1 : Option Addr) (next1n : Nat) (next1c : Nat) (w11 : World), J2 next1 next1n next1c w11 → ∃ (l1 : Option Addr) (l1n : Nat) (l1c : Nat) (w12 : World), (Instr.makeSlice 31 (.int .i64 (r4n : Int)) (.int .i64 (r4n : Int))).run Try.prog w11 = .ok (.slice l1 l1n l1c) w12 ∧ (Same w11 w12 [b2] ∧ (∀ (b4 : Nat) (w14 : World), (w12.heap.size ≤ b4 ∧ b4 < w14.heap.size) → Chg [] w12 w14 → (∃ (S1 Sp1 : List (Int × Int) → Prop) (keep1 : List Nat), XR.IsFn Try.prog r7 ∧ XR.Iterates Try.prog r7 (fun x : Int × Int => #[.int .i64 x.1, .int .u32 x.2]) S1 Sp1 keep1 w14 ∧ (∀ i_ ∈ keep1, i_ < w14.heap.size) ∧ ∃ (I1 : List Nat → List (Int × Int) → World → Prop) (X1 : Bool → List Nat → List (Int × Int) → World → Prop), (∀ (pre_ : List (Int × Int)), XR.Stab w14 (fun O_ w_ => I1 O_ pre_ w_)) ∧ (∀ (c1 : Bool) (pre_ : List (Int × Int)), XR.Stab w14 (fun O_ w_ => X1 c1 O_ pre_ w_)) ∧ (∀ (O1 : List Nat) (w15 : World), Chg [] w14 w15 → XR.InO w14 O1 w15 → I1 O1 ([]) w15) ∧ (∀ (l2 : Nat) (O1 : List Nat) (pre1 : List (Int × Int)) (x5 : Int) (x6 : Int) (w15 : World), XR.InO w14 O1 w15 → l2 ∈ O1 → Sp1 (pre1 ++ [(x5, x6)]) → I1 O1 pre1 w15 → (∀ (w16 : World), Chg [l2] w15 w16 → (∃ J3 : Bool → World → Prop, (∀ (b5 : Bool) (w17 : World), J3 b5 w17 → (b5 = true → ∀ (w18 : World), Chg [b2] w17 w18 → ((w16.heap.size ≤ w18.heap.size ∧ X1 false O1 (pre1 ++ [(x5, x6)]) w18 ∧ Same w16 w18 (keep1 ++ O1)))) ∧ (b5 = false → ∃ a1 : Addr, l1 = some a1 ∧ (0 : Int) ≤ x5 ∧ x5 < (l1n : Int) ∧ ((∃ o : Value, w17.cell? (a1.add (Int.toNat x5 * 1)) = some o) ∧ w17.frozen? (a1.add (Int.toNat x5 * 1)) = false ∧ ∀ w19 : World, w19 = World.setCell w17 (a1.add (Int.toNat x5 * 1)) (.int .u32 x6) → (Same w17 w19 [b2, b4] ∧ ((w16.heap.size ≤ w19.heap.size ∧ I1 O1 (pre1 ++ [(x5, x6)]) w19 ∧ Same w16 w19 (keep1 ++ O1))))))) ∧ (((decide (x5 < 0)) = false → J3 (decide (x5 ≥ (l1n : Int))) w16) ∧ ((decide (x5 < 0)) = true → J3 true w16))))) ∧ (∀ (d1 : Nat) (O2 : List Nat) (xs1 : List (Int × Int)) (w20 : World), XR.InO w14 O2 w20 → d1 ∈ O2 → S1 xs1 → I1 O2 xs1 w20 → (∀ (b6 : Nat) (w22 : World), (w20.heap.size ≤ b6 ∧ b6 < w22.heap.size) → Chg [] w20 w22 → (∃ (S2 Sp2 : List (Int × Int) → Prop) (keep2 : List Nat), XR.IsFn Try.prog r7 ∧ XR.Iterates Try.prog r7 (fun x : Int × Int => #[.int .i64 x.1, .int .u32 x.2]) S2 Sp2 keep2 w22 ∧ (∀ i_ ∈ keep2, i_ < w22.heap.size) ∧ ∃ (I2 : Int → List Nat → List (Int × Int) → World → Prop) (X2 : Int → List Nat → List (Int × Int) → World → Prop), (∀ (c2 : Int) (pre_ : List (Int × Int)), XR.Stab w22 (fun O_ w_ => I2 c2 O_ pre_ w_)) ∧ (∀ (c2 : Int) (pre_ : List (Int × Int)), XR.Stab w22 (fun O_ w_ => X2 c2 O_ pre_ w_)) ∧ (∀ (O3 : List Nat) (w23 : World), Chg [] w22 w23 → XR.InO w22 O3 w23 → I2 0 O3 ([]) w23) ∧ (∀ (l3 : Nat) (O3 : List Nat) (pre2 : List (Int × Int)) (x7 : Int) (x8 : Int) (c2 : Int) (w23 : World), XR.InO w22 O3 w23 → l3 ∈ O3 → Sp2 (pre2 ++ [(x7, x8)]) → I2 c2 O3 pre2 w23 → (∀ (w24 : World), Chg [l3] w23 w24 → (∀ (w25 : World), Chg [b6] w24 w25 → ((w24.heap.size ≤ w25.heap.size ∧ X2 (IntKind.wrap .i64 (c2 + 1)) O3 (pre2 ++ [(x7, x8)]) w25 ∧ Same w24 w25 (keep2 ++ O3)))))) ∧ (∀ (d2 : Nat) (O4 : List Nat) (xs2 : List (Int × Int)) (c2 : Int) (w26 : World), XR.InO w22 O4 w26 → d2 ∈ O4 → S2 xs2 → I2 c2 O4 xs2 w26 → (Calls Try.prog 60 #[.slice r4 r4n r4c, .slice next1 next1n next1c] w26 fun e w27 => ∃ (r9 : Bool), e = .returned (.bool r9) ∧ (Same w26 w27 [b2, b4, b6, d2, d1] ∧ (Calls Try.prog 51 #[.int .i64 (IntKind.wrap .i64 ((Int.tmod pages1 32) + 1))] w27 fun e w28 => ∃ (r10 : Option Addr) (r11 : Int), e = .returned (.tuple #[.pointer r10, .int .i64 r11]) ∧ (Same w27 w28 [b2, b4, b6, d2, d1] ∧ (Calls Try.prog 51 #[.int .i64 pages1] w28 fun e w29 => ∃ (r12 : Option Addr) (r13 : Int), e = .returned (.tuple #[.pointer r12, .int .i64 r13]) ∧ (Same w28 w29 [b2, b4, b6, d2, d1] ∧ (∀ (w30 : World), Chg [] w29 w30 → (Calls Try.prog 60 #[.slice l1 l1n l1c, .slice r4 r4n r4c] w30 fun e w31 => ∃ (r14 : Bool), e = .returned (.bool r14) ∧ (Same w30 w31 [b2, b4, b6, d2, d1] ∧ (∃ J4 : Bool → World → Prop, (∀ (b7 : Bool) (w32 : World), J4 b7 w32 → ∃ J5 : Bool → World → Prop, (∀ (b8 : Bool) (w34 : World), J5 b8 w34 → ∃ J6 : Bool → World → Prop, (∀ (b9 : Bool) (w36 : World), J6 b9 w36 → ∃ J7 : Bool → World → Prop, (∀ (b10 : Bool) (w38 : World), J7 b10 w38 → ∃ J8 : Bool → World → Prop, (∀ (b11 : Bool) (w40 : World), J8 b11 w40 → ∃ J9 : Bool → World → Prop, (∀ (b12 : Bool) (w42 : World), J9 b12 w42 → ∃ J10 : Bool → World → Prop, (∀ (b13 : Bool) (w44 : World), J10 b13 w44 → ∀ (w46 : World), Chg [b2] w44 w46 → (∀ w47 : World, Chg [d2, d1] w46 w47 → (R b13 w47))) ∧ ((b12 = true → Calls Try.prog 40 #[] w42 fun e w45 => ∃ (r21 : Bool), e = .returned (.bool r21) ∧ (Same w42 w45 [b2, b4, b6, d2, d1] ∧ (J10 r21 w45))) ∧ (b12 = false → J10 false w42))) ∧ ((b11 = true → Calls Try.prog 53 #[.pointer r10, .pointer r12] w40 fun e w43 => ∃ (r20 : Bool), e = .returned (.bool r20) ∧ (Same w40 w43 [b2, b4, b6, d2, d1] ∧ (J9 (!r20) w43))) ∧ (b11 = false → J9 false w40))) ∧ ((b10 = true → Calls Try.prog 53 #[.pointer r6, .pointer r3] w38 fun e w41 => ∃ (r19 : Bool), e = .returned (.bool r19) ∧ (Same w38 w41 [b2, b4, b6, d2, d1] ∧ (J8 (r19 == r9) w41))) ∧ (b10 = false → J8 false w38))) ∧ ((b9 = true → Calls Try.prog 53 #[.pointer r3, .pointer r6] w36 fun e w39 => ∃ (r18 : Bool), e = .returned (.bool r18) ∧ (Same w36 w39 [b2, b4, b6, d2, d1] ∧ (J7 (r18 == r9) w39))) ∧ (b9 = false → J7 false w36))) ∧ ((b8 = true → Calls Try.prog 45 #[.pointer r3, .slice next1 next1n next1c] w34 fun e w37 => ∃ (r17 : Bool), e = .returned (.bool r17) ∧ (Same w34 w37 [b2, b4, b6, d2, d1] ∧ (J6 r17 w37))) ∧ (b8 = false → J6 false w34))) ∧ ((b7 = true → Calls Try.prog 45 #[.pointer r6, .slice r4 r4n r4c] w32 fun e w35 => ∃ (r16 : Bool), e = .returned (.bool r16) ∧ (Same w32 w35 [b2, b4, b6, d2, d1] ∧ (J5 r16 w35))) ∧ (b7 = false → J5 false w32))) ∧ ((r14 = true → Calls Try.prog 61 #[.slice r4 r4n r4c] w31 fun e w33 => ∃ (r15 : Int), e = .returned (.int .i64 r15) ∧ (Same w31 w33 [b2, b4, b6, d2, d1] ∧ (J4 (c2 == (if r15 < 1 then r15 else 1)) w33))) ∧ (r14 = false → J4 false w31))))))))))))) ∧ (∀ (d3 : Nat) (O5 : List Nat) (xs3 : List (Int × Int)) (c2 : Int) (w48 : World), XR.InO w22 O5 w48 → d3 ∈ O5 → Sp2 xs3 → X2 c2 O5 xs3 w48 → (Calls Try.prog 60 #[.slice r4 r4n r4c, .slice next1 next1n next1c] w48 fun e w49 => ∃ (r22 : Bool), e = .returned (.bool r22) ∧ (Same w48 w49 [b2, b4, b6, d3, d1] ∧ (Calls Try.prog 51 #[.int .i64 (IntKind.wrap .i64 ((Int.tmod pages1 32) + 1))] w49 fun e w50 => ∃ (r23 : Option Addr) (r24 : Int), e = .returned (.tuple #[.pointer r23, .int .i64 r24]) ∧ (Same w49 w50 [b2, b4, b6, d3, d1] ∧ (Calls Try.prog 51 #[.int .i64 pages1] w50 fun e w51 => ∃ (r25 : Option Addr) (r26 : Int), e = .returned (.tuple #[.pointer r25, .int .i64 r26]) ∧ (Same w50 w51 [b2, b4, b6, d3, d1] ∧ (∀ (w52 : World), Chg [] w51 w52 → (Calls Try.prog 60 #[.slice l1 l1n l1c, .slice r4 r4n r4c] w52 fun e w53 => ∃ (r27 : Bool), e = .returned (.bool r27) ∧ (Same w52 w53 [b2, b4, b6, d3, d1] ∧ (∃ J11 : Bool → World → Prop, (∀ (b14 : Bool) (w54 : World), J11 b14 w54 → ∃ J12 : Bool → World → Prop, (∀ (b15 : Bool) (w56 : World), J12 b15 w56 → ∃ J13 : Bool → World → Prop, (∀ (b16 : Bool) (w58 : World), J13 b16 w58 → ∃ J14 : Bool → World → Prop, (∀ (b17 : Bool) (w60 : World), J14 b17 w60 → ∃ J15 : Bool → World → Prop, (∀ (b18 : Bool) (w62 : World), J15 b18 w62 → ∃ J16 : Bool → World → Prop, (∀ (b19 : Bool) (w64 : World), J16 b19 w64 → ∃ J17 : Bool → World → Prop, (∀ (b20 : Bool) (w66 : World), J17 b20 w66 → ∀ (w68 : World), Chg [b2] w66 w68 → (∀ w69 : World, Chg [d3, d1] w68 w69 → (R b20 w69))) ∧ ((b19 = true → Calls Try.prog 40 #[] w64 fun e w67 => ∃ (r34 : Bool), e = .returned (.bool r34) ∧ (Same w64 w67 [b2, b4, b6, d3, d1] ∧ (J17 r34 w67))) ∧ (b19 = false → J17 false w64))) ∧ ((b18 = true → Calls Try.prog 53 #[.pointer r23, .pointer r25] w62 fun e w65 => ∃ (r33 : Bool), e = .returned (.bool r33) ∧ (Same w62 w65 [b2, b4, b6, d3, d1] ∧ (J16 (!r33) w65))) ∧ (b18 = false → J16 false w62))) ∧ ((b17 = true → Calls Try.prog 53 #[.pointer r6, .pointer r3] w60 fun e w63 => ∃ (r32 : Bool), e = .returned (.bool r32) ∧ (Same w60 w63 [b2, b4, b6, d3, d1] ∧ (J15 (r32 == r22) w63))) ∧ (b17 = false → J15 false w60))) ∧ ((b16 = true → Calls Try.prog 53 #[.pointer r3, .pointer r6] w58 fun e w61 => ∃ (r31 : Bool), e = .returned (.bool r31) ∧ (Same w58 w61 [b2, b4, b6, d3, d1] ∧ (J14 (r31 == r22) w61))) ∧ (b16 = false → J14 false w58))) ∧ ((b15 = true → Calls Try.prog 45 #[.pointer r3, .slice next1 next1n next1c] w56 fun e w59 => ∃ (r30 : Bool), e = .returned (.bool r30) ∧ (Same w56 w59 [b2, b4, b6, d3, d1] ∧ (J13 r30 w59))) ∧ (b15 = false → J13 false w56))) ∧ ((b14 = true → Calls Try.prog 45 #[.pointer r6, .slice r4 r4n r4c] w54 fun e w57 => ∃ (r29 : Bool), e = .returned (.bool r29) ∧ (Same w54 w57 [b2, b4, b6, d3, d1] ∧ (J12 r29 w57))) ∧ (b14 = false → J12 false w54))) ∧ ((r27 = true → Calls Try.prog 61 #[.slice r4 r4n r4c] w53 fun e w55 => ∃ (r28 : Int), e = .returned (.int .i64 r28) ∧ (Same w53 w55 [b2, b4, b6, d3, d1] ∧ (J11 (c2 == (if r28 < 1 then r28 else 1)) w55))) ∧ (r27 = false → J11 false w53)))))))))))))))) ∧ (∀ (d4 : Nat) (O6 : List Nat) (xs4 : List (Int × Int)) (c1 : Bool) (w70 : World), XR.InO w14 O6 w70 → d4 ∈ O6 → Sp1 xs4 → X1 c1 O6 xs4 w70 → (∀ w71 : World, Chg [d4] w70 w71 → (R c1 w71))))))) ∧ (((x1 == 0) = true → Calls Try.prog 59 #[.slice r4 r4n r4c, .int .i64 x2, .int .u32 x4] w8 fun e w72 => ∃ (r35 : Option Addr) (r35n : Nat) (r35c : Nat) (r36 : Int), e = .returned (.tuple #[.slice r35 r35n r35c, .int .i64 r36]) ∧ (Same w8 w72 [b2, b1] ∧ (Calls Try.prog 52 #[.pointer r3, .int .i64 x2, .int .u32 x4] w72 fun e w73 => ∃ (r37 : Int), e = .returned (.int .i64 r37) ∧ (Same w72 w73 [b2] ∧ (J2 r35 r35n r35c w73))))) ∧ ((x1 == 0) = false → Calls Try.prog 48 #[.slice r4 r4n r4c, .int .i64 x2, .int .i64 x3, .int .u32 x4] w8 fun e w74 => ∃ (r38 : Option Addr) (r38n : Nat) (r38c : Nat) (r39 : Int), e = .returned (.tuple #[.slice r38 r38n r38c, .int .i64 r39]) ∧ (Same w8 w74 [b2, b1] ∧ (Calls Try.prog 49 #[.pointer r3, .int .i64 x2, .int .i64 x3, .int .u32 x4] w74 fun e w75 => ∃ (r40 : Int), e = .returned (.int .i64 r40) ∧ (Same w74 w75 [b2] ∧ (J2 r38 r38n r38c w75)))))))) ∧ (((!r5) = false → Calls Try.prog 53 #[.pointer r3, .pointer r6] w7 fun e w9 => ∃ (r8 : Bool), e = .returned (.bool r8) ∧ (Same w7 w9 [b2, b1] ∧ (J1 (!r8) w9))) ∧ ((!r5) = true → J1 true w7))))))))))
set_option maxRecDepth 100000 in
theorem go_pomanderlaw03_ShadowCopies (pages1 : Int) (script1 : Option Addr) (script1n : Nat) (script1c : Nat) (x1 : Int) (x2 : Int) (x3 : Int) (x4 : Int) (w : World) (R : Bool → World → Prop) (h : W_pomanderlaw03_ShadowCopies pages1 script1 script1n script1c x1 x2 x3 x4 w R) : Calls Try.prog 14 #[.int .i64 pages1, .slice script1 script1n script1c, .agg #[.int .i64 x1, .int .i64 x2, .int .i64 x3, .int .u32 x4]] w (fun e w' => ∃ (r1 : Bool), e = .returned (.bool r1) ∧ R r1 w') := by
  unfold W_pomanderlaw03_ShadowCopies at h
  refine XR.enterM (N := 172) Try.func14 rfl rfl ?_
  refine CW.seq ?_
  refine CW.region fun L hL => ?_
  obtain ⟨b1, hb_b1⟩ : ∃ b1, b1 = World.size w := ⟨_, rfl⟩
  obtain ⟨w1, hw_w1⟩ : ∃ w1, w1 = World.alloc w (.cells #[.int .i64 x1, .int .i64 x2, .int .i64 x3, .int .u32 x4] 94) := ⟨_, rfl⟩
  refine LW.val hL rfl (Wants.free rfl) rfl (boxE hb_b1 hw_w1 (Vl.box (v := .agg #[.int .i64 x1, .int .i64 x2, .int .i64 x3, .int .u32 x4]) rfl)) ?_
  have hB := Boxes.alloc (cs := [.int .i64 x1, .int .i64 x2, .int .i64 x3, .int .u32 x4]) (T := 94) (Boxes.nil w) hb_b1 hw_w1
  have hlo_b1 := sil_lo (Chg.refl [] w) hb_b1
  have hc_w1 := sil_alloc (Chg.refl [] w) hw_w1
  obtain ⟨b2, hb_b2⟩ : ∃ b2, b2 = World.size w1 := ⟨_, rfl⟩
  obtain ⟨w2, hw_w2⟩ : ∃ w2, w2 = World.alloc w1 (.cells #[.bool false] 4) := ⟨_, rfl⟩
  refine LW.val hL rfl (Wants.free rfl) rfl (boxE hb_b2 hw_w2 (Vl.alloc (z := .bool false) (by kernel_rfl))) ?_
  replace hB := Boxes.alloc (cs := [.bool false]) (T := 4) hB hb_b2 hw_w2
  have hlo_b2 := sil_lo hc_w1 hb_b2
  have hc_w2 := sil_alloc hc_w1 hw_w2
  refine LW.nil hL rfl ?_
  refine NW.then ?_
  refine CW.seq ?_
  refine CW.seq ?_
  refine CW.region fun L hL => ?_
  refine LW.rd hL rfl (Wants.free rfl) rfl (Rd.move (v := .int .i64 pages1) rfl) ?_
  refine LW.rd hL rfl (Wants.free rfl) rfl (Rd.bin (v := .bool (decide (pages1 < 1))) rfl rfl (fun w => by kernel_rfl)) ?_
  refine LW.rd hL rfl (Wants.free rfl) rfl (Rd.move (v := .bool (decide (pages1 < 1))) rfl) ?_
  suffices K1 : L 6 [(0, .int .i64 pages1), (1, .slice script1 script1n script1c), (5, .pointer (some (⟨b1, 0, none⟩ : Addr))), (6, .pointer (some (⟨b2, 0, none⟩ : Addr))), (27, .bool (decide (pages1 < 1) || decide (pages1 > 32)))] w2 by
    rcases Bool.eq_false_or_eq_true (decide (pages1 < 1)) with hb2 | hb2
    · skip
      refine LW.skip hL rfl (Skips.on rfl rfl rfl rfl rfl hb2) rfl ?_
      refine LW.skip hL rfl (Skips.on rfl rfl rfl rfl rfl hb2) rfl ?_
      refine LW.rd hL rfl (Wants.free rfl) rfl (Rd.pickT rfl hb2 rfl) ?_
      exact LW.sub hL (by exact ⟨rfl, rfl, rfl, rfl, (by rw [hb2]; rfl), trivial⟩) K1
    · skip
      refine LW.rd hL rfl (Wants.on rfl rfl rfl rfl rfl hb2) rfl (Rd.move (v := .int .i64 pages1) rfl) ?_
      refine LW.rd hL rfl (Wants.on rfl rfl rfl rfl rfl hb2) rfl (Rd.bin (v := .bool (decide (pages1 > 32))) rfl rfl (fun w => by kernel_rfl)) ?_
      refine LW.rd hL rfl (Wants.free rfl) rfl (Rd.pickF rfl hb2 rfl) ?_
      exact LW.sub hL (by exact ⟨rfl, rfl, rfl, rfl, (by rw [hb2]; rfl), trivial⟩) K1
  refine LW.rd hL rfl (Wants.free rfl) rfl (Rd.move (v := .bool (decide (pages1 < 1) || decide (pages1 > 32))) rfl) ?_
  suffices K2 : L 11 [(0, .int .i64 pages1), (1, .slice script1 script1n script1c), (5, .pointer (some (⟨b1, 0, none⟩ : Addr))), (6, .pointer (some (⟨b2, 0, none⟩ : Addr))), (32, .bool ((decide (pages1 < 1) || decide (pages1 > 32)) || decide ((script1n : Int) > 40)))] w2 by
    rcases Bool.eq_false_or_eq_true (decide (pages1 < 1) || decide (pages1 > 32)) with hb4 | hb4
    · skip
      refine LW.skip hL rfl (Skips.on rfl rfl rfl rfl rfl hb4) rfl ?_
      refine LW.skip hL rfl (Skips.on rfl rfl rfl rfl rfl hb4) rfl ?_
      refine LW.skip hL rfl (Skips.on rfl rfl rfl rfl rfl hb4) rfl ?_
      refine LW.rd hL rfl (Wants.free rfl) rfl (Rd.pickT rfl hb4 rfl) ?_
      exact LW.sub hL (by exact ⟨rfl, rfl, rfl, rfl, (by rw [hb4]; rfl), trivial⟩) K2
    · skip
      refine LW.rd hL rfl (Wants.on rfl rfl rfl rfl rfl hb4) rfl (Rd.move (v := .slice script1 script1n script1c) rfl) ?_
      refine LW.rd hL rfl (Wants.on rfl rfl rfl rfl rfl hb4) rfl (Rd.builtin (v := .int .i64 (script1n : Int)) rfl (fun _ _ => by kernel_rfl)) ?_
      refine LW.rd hL rfl (Wants.on rfl rfl rfl rfl rfl hb4) rfl (Rd.bin (v := .bool (decide ((script1n : Int) > 40))) rfl rfl (fun w => by kernel_rfl)) ?_
      refine LW.rd hL rfl (Wants.free rfl) rfl (Rd.pickF rfl hb4 rfl) ?_
      exact LW.sub hL (by exact ⟨rfl, rfl, rfl, rfl, (by rw [hb4]; rfl), trivial⟩) K2
  refine LW.nil hL rfl ?_
  refine NW.then ?_
  replace h := h b2 b1 w2 ⟨hlo_b2, lt_of_heap (hB.at (i := 0) rfl)⟩ ⟨hlo_b1, lt_of_heap (hB.at (i := 1) rfl)⟩ hc_w2
  refine CW.cond rfl (fun hb5 => ?_) (fun hb5 => ?_)
  · replace h := h.1 hb5
    refine CW.seq ?_
    refine CW.region fun L hL => ?_
    refine LW.call hL rfl (Wants.free rfl) rfl (Cl.fn (f := 40) rfl Try.func40 (by kernel_rfl) rfl) h (fun e w3 h_ => ?_)
    clear h
    obtain ⟨r2, rfl, h⟩ := h_
    obtain ⟨hsm1, h⟩ := h
    replace hB := Boxes.sameS hB hsm1 (by simp)
    refine ⟨_, rfl, ?_⟩
    obtain ⟨w4, hw_w4⟩ : ∃ x, x = World.setCell w3 (⟨b2, 0, none⟩ : Addr) (.bool r2) := ⟨_, rfl⟩
    refine LW.eff hL rfl (Wants.free rfl) rfl (stE hw_w4 (Ef.st rfl rfl rfl (by kernel_rfl) (box_cell (v := .bool false) (hB.at (i := 0) rfl) rfl) (free_of (hB.at (i := 0) rfl) 0))) ?_
    replace hB : Boxes w4 [(b2, [.bool r2], 4), (b1, [.int .i64 x1, .int .i64 x2, .int .i64 x3, .int .u32 x4], 94)] := Boxes.store1  (i := 0) (o := 0) hB rfl rfl rfl rfl hw_w4
    have hc_w4 : Chg [b2] w3 w4 := sil_more (Chg.refl [] w3) (sil_c1 hw_w4)
    refine LW.nil hL rfl ?_
    refine NW.then ?_
    replace h := h  w4  hc_w4
    refine CW.ret ?_
    refine RW.then ?_
    exact XR.res0M (vs := [.bool r2]) (by exact (ResOK.c rfl (lv1 (by kernel_rfl) (box_cell (Boxes.at (i := 0) hB rfl) rfl)) ResOK.nil)) rfl ⟨r2, rfl, h⟩
  · replace h := h.2 hb5
    refine CW.skip ?_
    refine NW.then ?_
    refine CW.seq ?_
    refine CW.region fun L hL => ?_
    refine LW.rd hL rfl (Wants.free rfl) rfl (Rd.move (v := .int .i64 pages1) rfl) ?_
    refine LW.rd hL rfl (Wants.free rfl) rfl (Rd.move (v := .slice script1 script1n script1c) rfl) ?_
    refine LW.call hL rfl (Wants.free rfl) rfl (Cl.fn (f := 41) rfl Try.func41 (by kernel_rfl) rfl) h (fun e w5 h_ => ?_)
    clear h
    obtain ⟨r3, r4, r4n, r4c, r5, rfl, h⟩ := h_
    obtain ⟨hsm2, h⟩ := h
    replace hB := Boxes.sameS hB hsm2 (by simp)
    refine ⟨_, rfl, ?_⟩
    refine LW.rd hL rfl (Wants.free rfl) rfl (Rd.move (v := .tuple #[.pointer r3, .slice r4 r4n r4c, .bool r5]) rfl) ?_
    refine LW.rd hL rfl (Wants.free rfl) rfl (Rd.extract (v := .pointer r3) rfl rfl) ?_
    refine LW.rd hL rfl (Wants.free rfl) rfl (Rd.extract (v := .slice r4 r4n r4c) rfl rfl) ?_
    refine LW.rd hL rfl (Wants.free rfl) rfl (Rd.extract (v := .bool r5) rfl rfl) ?_
    refine LW.rd hL rfl (Wants.free rfl) rfl (Rd.assign (v := .pointer r3) rfl) ?_
    refine LW.rd hL rfl (Wants.free rfl) rfl (Rd.assign (v := .slice r4 r4n r4c) rfl) ?_
    refine LW.rd hL rfl (Wants.free rfl) rfl (Rd.assign (v := .bool r5) rfl) ?_
    refine LW.nil hL rfl ?_
    refine NW.then ?_
    refine CW.seq ?_
    refine CW.region fun L hL => ?_
    refine LW.rd hL rfl (Wants.free rfl) rfl (Rd.move (v := .pointer r3) rfl) ?_
    refine LW.call hL rfl (Wants.free rfl) rfl (Cl.fn (f := 57) rfl Try.func57 (by kernel_rfl) rfl) h (fun e w6 h_ => ?_)
    clear h
    obtain ⟨r6, rfl, h⟩ := h_
    obtain ⟨hsm3, h⟩ := h
    replace hB := Boxes.sameS hB hsm3 (by simp)
    refine ⟨_, rfl, ?_⟩
    refine LW.rd hL rfl (Wants.free rfl) rfl (Rd.assign (v := .pointer r6) rfl) ?_
    refine LW.nil hL rfl ?_
    refine NW.then ?_
    refine CW.seq ?_
    refine CW.region fun L hL => ?_
    refine LW.rd hL rfl (Wants.free rfl) rfl (Rd.move (v := .pointer r3) rfl) ?_
    refine LW.call hL rfl (Wants.free rfl) rfl (Cl.fn (f := 50) rfl Try.func50 (by kernel_rfl) rfl) h (fun e w7 h_ => ?_)
    clear h
    obtain ⟨r7, rfl, h⟩ := h_
    obtain ⟨hsm4, h⟩ := h
    replace hB := Boxes.sameS hB hsm4 (by simp)
    refine ⟨_, rfl, ?_⟩
    refine LW.rd hL rfl (Wants.free rfl) rfl (Rd.assign (v := r7) rfl) ?_
    refine LW.nil hL rfl ?_
    refine NW.then ?_
    refine CW.seq ?_
    refine CW.seq ?_
    refine CW.region fun L hL => ?_
    refine LW.rd hL rfl (Wants.free rfl) rfl (Rd.move (v := .bool r5) rfl) ?_
    refine LW.rd hL rfl (Wants.free rfl) rfl (Rd.un (v := .bool (!r5)) rfl (fun _ => by kernel_rfl)) ?_
    refine LW.rd hL rfl (Wants.free rfl) rfl (Rd.move (v := .bool (!r5)) rfl) ?_
    obtain ⟨J1, hJ1, h1_J1, h0_J1⟩ := h
    suffices K3 : ∀ (b3 : Bool) (w8 : World), Boxes w8 [(b2, [.bool false], 4), (b1, [.int .i64 x1, .int .i64 x2, .int .i64 x3, .int .u32 x4], 94)] → J1 b3 w8 → L 8 [(0, .int .i64 pages1), (5, .pointer (some (⟨b1, 0, none⟩ : Addr))), (6, .pointer (some (⟨b2, 0, none⟩ : Addr))), (7, .pointer r3), (8, .slice r4 r4n r4c), (10, .pointer r6), (11, r7), (52, .bool b3)] w8 by
      rcases Bool.eq_false_or_eq_true (!r5) with hb6 | hb6
      · have h := h0_J1 hb6
        refine LW.skip hL rfl (Skips.on rfl rfl rfl rfl rfl hb6) rfl ?_
        refine LW.skip hL rfl (Skips.on rfl rfl rfl rfl rfl hb6) rfl ?_
        refine LW.skip hL rfl (Skips.on rfl rfl rfl rfl rfl hb6) rfl ?_
        refine LW.skip hL rfl (Skips.on rfl rfl rfl rfl rfl hb6) rfl ?_
        refine LW.rd hL rfl (Wants.free rfl) rfl (Rd.pickT rfl hb6 rfl) ?_
        exact LW.sub hL (by exact ⟨rfl, rfl, rfl, rfl, rfl, rfl, rfl, rfl, trivial⟩) (K3 true w7 (by exact hB) h)
      · have h := h1_J1 hb6
        refine LW.rd hL rfl (Wants.on rfl rfl rfl rfl rfl hb6) rfl (Rd.move (v := .pointer r3) rfl) ?_
        refine LW.rd hL rfl (Wants.on rfl rfl rfl rfl rfl hb6) rfl (Rd.move (v := .pointer r6) rfl) ?_
        refine LW.call hL rfl (Wants.on rfl rfl rfl rfl rfl hb6) rfl (Cl.fn (f := 53) rfl Try.func53 (by kernel_rfl) rfl) h (fun e w9 h_ => ?_)
        clear h
        obtain ⟨r8, rfl, h⟩ := h_
        obtain ⟨hsm5, h⟩ := h
        replace hB := Boxes.sameS hB hsm5 (by simp)
        refine ⟨_, rfl, ?_⟩
        refine LW.rd hL rfl (Wants.on rfl rfl rfl rfl rfl hb6) rfl (Rd.un (v := .bool (!r8)) rfl (fun _ => by kernel_rfl)) ?_
        refine LW.rd hL rfl (Wants.free rfl) rfl (Rd.pickF rfl hb6 rfl) ?_
        exact LW.sub hL (by exact ⟨rfl, rfl, rfl, rfl, rfl, rfl, rfl, rfl, trivial⟩) (K3 (!r8) w9 (by exact hB) h)
    intro b3 w8 hB h_
    have h := hJ1 b3 w8 h_; clear h_
    refine LW.nil hL rfl ?_
    refine NW.then ?_
    refine CW.cond rfl (fun hb7 => ?_) (fun hb7 => ?_)
    · replace h := h.1 hb7
      refine CW.seq ?_
      refine CW.region fun L hL => ?_
      obtain ⟨w10, hw_w10⟩ : ∃ x, x = World.setCell w8 (⟨b2, 0, none⟩ : Addr) (.bool false) := ⟨_, rfl⟩
      refine LW.eff hL rfl (Wants.free rfl) rfl (stE hw_w10 (Ef.st rfl rfl rfl (by kernel_rfl) (box_cell (v := .bool false) (hB.at (i := 0) rfl) rfl) (free_of (hB.at (i := 0) rfl) 0))) ?_
      replace hB : Boxes w10 [(b2, [.bool false], 4), (b1, [.int .i64 x1, .int .i64 x2, .int .i64 x3, .int .u32 x4], 94)] := Boxes.store1  (i := 0) (o := 0) hB rfl rfl rfl rfl hw_w10
      have hc_w10 : Chg [b2] w8 w10 := sil_more (Chg.refl [] w8) (sil_c1 hw_w10)
      refine LW.nil hL rfl ?_
      refine NW.then ?_
      replace h := h  w10  hc_w10
      refine CW.ret ?_
      refine RW.then ?_
      exact XR.res0M (vs := [.bool false]) (by exact (ResOK.c rfl (lv1 (by kernel_rfl) (box_cell (Boxes.at (i := 0) hB rfl) rfl)) ResOK.nil)) rfl ⟨false, rfl, h⟩
    · replace h := h.2 hb7
      refine CW.skip ?_
      refine NW.then ?_
      refine CW.seq ?_
      refine CW.region fun L hL => ?_
      refine LW.rd hL rfl (Wants.free rfl) rfl (Rd.move (v := .slice r4 r4n r4c) rfl) ?_
      refine LW.rd hL rfl (Wants.free rfl) rfl (Rd.assign (v := .slice r4 r4n r4c) rfl) ?_
      refine LW.nil hL rfl ?_
      refine NW.then ?_
      obtain ⟨J2, hJ2, h⟩ := h
      refine CW.cut (S := (Option Addr) × Nat × Nat) (fun s1 => [(0, .int .i64 pages1), (6, .pointer (some (⟨b2, 0, none⟩ : Addr))), (7, .pointer r3), (8, .slice r4 r4n r4c), (10, .pointer r6), (11, r7), (12, .slice s1.1 s1.2.1 s1.2.2)]) (fun s1 w11 => J2 s1.1 s1.2.1 s1.2.2 w11 ∧ Boxes w11 [(b2, [.bool false], 4)]) (fun s1 w11 h_ => ?_) ?_
      · obtain ⟨h_, hB⟩ := h_; obtain ⟨next1, next1n, next1c⟩ := s1; replace h := hJ2 next1 next1n next1c w11 h_; clear h_
        refine CW.seq ?_
        refine CW.region fun L hL => ?_
        refine LW.rd hL rfl (Wants.free rfl) rfl (Rd.move (v := .slice r4 r4n r4c) rfl) ?_
        refine LW.rd hL rfl (Wants.free rfl) rfl (Rd.builtin (v := .int .i64 (r4n : Int)) rfl (fun _ _ => by kernel_rfl)) ?_
        obtain ⟨l1, l1n, l1c, w12, hm1, h⟩ := h
        refine LW.val hL rfl (Wants.free rfl) rfl (Vl.makeSlice (v := .slice l1 l1n l1c) rfl rfl hm1) ?_
        obtain ⟨hsm6, h⟩ := h
        replace hB := Boxes.sameS hB hsm6 (by simp)
        obtain ⟨b4, hb_b4⟩ : ∃ b4, b4 = World.size w12 := ⟨_, rfl⟩
        obtain ⟨w13, hw_w13⟩ : ∃ w13, w13 = World.alloc w12 (.cells #[.slice none 0 0] 31) := ⟨_, rfl⟩
        refine LW.val hL rfl (Wants.free rfl) rfl (boxE hb_b4 hw_w13 (Vl.alloc (z := .slice none 0 0) (by kernel_rfl))) ?_
        replace hB := Boxes.alloc (cs := [.slice none 0 0]) (T := 31) hB hb_b4 hw_w13
        have hlo_b4 := sil_lo (Chg.refl [] w12) hb_b4
        have hc_w13 := sil_alloc (Chg.refl [] w12) hw_w13
        obtain ⟨w14, hw_w14⟩ : ∃ x, x = World.setCell w13 (⟨b4, 0, none⟩ : Addr) (.slice l1 l1n l1c) := ⟨_, rfl⟩
        refine LW.eff hL rfl (Wants.free rfl) rfl (stE hw_w14 (Ef.st rfl rfl rfl (by kernel_rfl) (box_cell (v := .slice none 0 0) (hB.at (i := 0) rfl) rfl) (free_of (hB.at (i := 0) rfl) 0))) ?_
        replace hB : Boxes w14 [(b4, [.slice l1 l1n l1c], 31), (b2, [.bool false], 4)] := Boxes.store1  (i := 0) (o := 0) hB rfl rfl rfl rfl hw_w14
        have hc_w14 := sil_new hc_w13 (sil_c1 hw_w14) hlo_b4
        refine LW.nil hL rfl ?_
        refine NW.then ?_
        refine CW.seq ?_
        refine CW.seq ?_
        refine CW.region fun L hL => ?_
        refine LW.rd hL rfl (Wants.free rfl) rfl (Rd.move (v := r7) rfl) ?_
        refine LW.nil hL rfl ?_
        refine NW.then ?_
        refine CW.block ?_
        replace h := h b4 w14 ⟨hlo_b4, lt_of_heap (hB.at (i := 0) rfl)⟩ hc_w14
        obtain ⟨S1, Sp1, keep1, hfn_, hit_, hkp_, I1, X1, hst_I1, hst_X1, h0_, hrd_, hdn_, hso_X1⟩ := h
        refine XR.CW.rangeV (α := Int × Int) (enc := (fun x : Int × Int => #[.int .i64 x.1, .int .u32 x.2])) (S := S1) (Sp := Sp1) (keep := keep1) rfl hfn_ (fun _ => rfl) (by decide) hit_ (fun (O_ : List Nat) (pre_ : List (Int × Int)) (w_ : World) => I1 O_ pre_ w_ ∧ ∃ (u1 : Value), Boxes w_ [(b2, [u1], 4), (b4, [.slice l1 l1n l1c], 31)]) (fun (c_ : Code) (O_ : List Nat) (pre_ : List (Int × Int)) (w_ : World) => (c_ = Code.ret ∧ ∃ (c1 : Bool), X1 c1 O_ pre_ w_ ∧ Boxes w_ [(b2, [.bool c1], 4), (b4, [.slice l1 l1n l1c], 31)])) ?_ ?_ ?_ hkp_ ?_ ?_ ?_
        · intro pre_ O_ O2_ A_ B_ hi_ hO_ hc_ hO2_ hg_
          have hB0_ := (hB.sel [1, 0] (by decide) rfl)
          obtain ⟨hi_, u1, hB⟩ := hi_
          exact ⟨hst_I1  pre_ O_ O2_ A_ B_ hi_ hO_ hc_ hO2_ hg_, u1, hB.stab hB0_ rfl hO_ hc_⟩
        · intro c_ pre_ O_ O2_ A_ B_ hi_ hO_ hc_ hO2_ hg_
          have hB0_ := (hB.sel [1, 0] (by decide) rfl)
          rcases hi_ with ⟨hcc_, c1, hi_, hB⟩
          · exact ⟨hcc_, c1, hst_X1 c1 pre_ O_ O2_ A_ B_ hi_ hO_ hc_ hO2_ hg_, hB.stab hB0_ rfl hO_ hc_⟩
        · intro O_ A_ hc_ hO_
          exact ⟨h0_ O_ A_ hc_ hO_, .bool false, Boxes.chg (hB.sel [1, 0] (by decide) rfl) hc_ (by simp)⟩
        · intro l2 O1 pre1 x_ w15 hO_ hl_ hSp_ hi_
          obtain ⟨x5, x6⟩ := x_
          obtain ⟨hi_, u1, hB⟩ := hi_
          have h := hrd_ l2 O1 pre1 x5 x6 w15 hO_ hl_ hSp_ hi_
          refine XR.CW.seq ?_
          refine XR.CW.region fun L hL => ?_
          refine XR.LW.rd hL rfl (Wants.free rfl) rfl (Rd.assign (v := .int .i64 x5) rfl) ?_
          refine XR.LW.nil hL rfl ?_
          refine XR.NW.then ?_
          refine XR.CW.region fun L hL => ?_
          refine XR.LW.rd hL rfl (Wants.free rfl) rfl (Rd.assign (v := .int .u32 x6) rfl) ?_
          refine XR.LW.nil hL rfl ?_
          refine XR.NW.begin (Chg.refl [] w15) (fun w16 hcb_w16 hlp_ hib_ => ?_)
          have hc_w16 : Chg [l2] w15 w16 := sil_more (Chg.refl [] w15) hcb_w16
          replace hB := hB.notloop hlp_ hcb_w16
          replace h := h  w16  hc_w16
          refine XR.CW.block ?_
          refine XR.CW.seq ?_
          refine XR.CW.seq ?_
          refine XR.CW.region fun L hL => ?_
          refine XR.LW.rd hL rfl (Wants.free rfl) rfl (Rd.move (v := .int .i64 x5) rfl) ?_
          refine XR.LW.rd hL rfl (Wants.free rfl) rfl (Rd.bin (v := .bool (decide (x5 < 0))) rfl rfl (fun w => by kernel_rfl)) ?_
          refine XR.LW.rd hL rfl (Wants.free rfl) rfl (Rd.move (v := .bool (decide (x5 < 0))) rfl) ?_
          obtain ⟨J3, hJ3, h1_J3, h0_J3⟩ := h
          suffices K4 : ∀ (b5 : Bool) (w17 : World), Boxes w17 [(b2, [u1], 4), (b4, [.slice l1 l1n l1c], 31)] → J3 b5 w17 → L 8 [(0, .int .i64 pages1), (6, .pointer (some (⟨b2, 0, none⟩ : Addr))), (7, .pointer r3), (8, .slice r4 r4n r4c), (10, .pointer r6), (11, r7), (12, .slice next1 next1n next1c), (13, .pointer (some (⟨b4, 0, none⟩ : Addr))), (14, .int .i64 x5), (15, .int .u32 x6), (95, .int .i64 x5), (96, .int .u32 x6), (104, .bool b5)] w17 by
            rcases Bool.eq_false_or_eq_true (decide (x5 < 0)) with hb8 | hb8
            · have h := h0_J3 hb8
              refine XR.LW.skip hL rfl (Skips.on rfl rfl rfl rfl rfl hb8) rfl ?_
              refine XR.LW.skip hL rfl (Skips.on rfl rfl rfl rfl rfl hb8) rfl ?_
              refine XR.LW.skip hL rfl (Skips.on rfl rfl rfl rfl rfl hb8) rfl ?_
              refine XR.LW.skip hL rfl (Skips.on rfl rfl rfl rfl rfl hb8) rfl ?_
              refine XR.LW.rd hL rfl (Wants.free rfl) rfl (Rd.pickT rfl hb8 rfl) ?_
              exact XR.LW.sub hL (by exact ⟨rfl, rfl, rfl, rfl, rfl, rfl, rfl, rfl, rfl, rfl, rfl, rfl, rfl, trivial⟩) (K4 true w16 (by exact hB) h)
            · have h := h1_J3 hb8
              refine XR.LW.rd hL rfl (Wants.on rfl rfl rfl rfl rfl hb8) rfl (Rd.move (v := .int .i64 x5) rfl) ?_
              refine XR.LW.rd hL rfl (Wants.on rfl rfl rfl rfl rfl hb8) rfl (Rd.ld (v := .slice l1 l1n l1c) rfl (by kernel_rfl) (eqs (box_cell (hB.at (i := 1) rfl) rfl))) ?_
              refine XR.LW.rd hL rfl (Wants.on rfl rfl rfl rfl rfl hb8) rfl (Rd.builtin (v := .int .i64 (l1n : Int)) rfl (fun _ _ => by kernel_rfl)) ?_
              refine XR.LW.rd hL rfl (Wants.on rfl rfl rfl rfl rfl hb8) rfl (Rd.bin (v := .bool (decide (x5 ≥ (l1n : Int)))) rfl rfl (fun w => by kernel_rfl)) ?_
              refine XR.LW.rd hL rfl (Wants.free rfl) rfl (Rd.pickF rfl hb8 rfl) ?_
              exact XR.LW.sub hL (by exact ⟨rfl, rfl, rfl, rfl, rfl, rfl, rfl, rfl, rfl, rfl, rfl, rfl, rfl, trivial⟩) (K4 (decide (x5 ≥ (l1n : Int))) w16 (by exact hB) h)
          intro b5 w17 hB h_
          have h := hJ3 b5 w17 h_; clear h_
          refine XR.LW.nil hL rfl ?_
          refine XR.NW.then ?_
          refine XR.CW.cond rfl (fun hb9 => ?_) (fun hb9 => ?_)
          · replace h := h.1 hb9
            refine XR.CW.seq ?_
            refine XR.CW.region fun L hL => ?_
            obtain ⟨w18, hw_w18⟩ : ∃ x, x = World.setCell w17 (⟨b2, 0, none⟩ : Addr) (.bool false) := ⟨_, rfl⟩
            refine XR.LW.eff hL rfl (Wants.free rfl) rfl (stE hw_w18 (Ef.st rfl rfl rfl (by kernel_rfl) (box_cell (v := u1) (hB.at (i := 0) rfl) rfl) (free_of (hB.at (i := 0) rfl) 0))) ?_
            replace hB : Boxes w18 [(b2, [.bool false], 4), (b4, [.slice l1 l1n l1c], 31)] := Boxes.store1  (i := 0) (o := 0) hB rfl rfl rfl rfl hw_w18
            have hc_w18 : Chg [b2] w17 w18 := sil_more (Chg.refl [] w17) (sil_c1 hw_w18)
            refine XR.LW.nil hL rfl ?_
            refine XR.NW.then ?_
            refine XR.CW.ret ?_
            refine RW.then ?_
            refine RW.block ?_
            replace h := h  w18  hc_w18
            exact fun a_ ha_ => ⟨h.1, (⟨rfl, false, h.2.1, hB⟩), h.2.2⟩
          · replace h := h.2 hb9
            refine XR.CW.skip ?_
            refine XR.NW.then ?_
            refine XR.CW.region fun L hL => ?_
            refine XR.LW.rd hL rfl (Wants.free rfl) rfl (Rd.ld (v := .slice l1 l1n l1c) rfl (by kernel_rfl) (eqs (box_cell (hB.at (i := 1) rfl) rfl))) ?_
            refine XR.LW.rd hL rfl (Wants.free rfl) rfl (Rd.move (v := .int .i64 x5) rfl) ?_
            refine XR.LW.rd hL rfl (Wants.free rfl) rfl (Rd.move (v := .int .u32 x6) rfl) ?_
            obtain ⟨a1, he1, hi1, hi2, h⟩ := h
            refine XR.LW.rd hL rfl (Wants.free rfl) rfl (Rd.iaS (q := a1) (sz := 1) (by rw [← he1]; rfl) rfl Try.underlying31 (by kernel_rfl) hi1 hi2) ?_
            obtain ⟨⟨o_w19, ho1⟩, hf1, h⟩ := h
            obtain ⟨w19, hw_w19⟩ : ∃ w19, w19 = World.setCell w17 (a1.add (Int.toNat x5 * 1)) (.int .u32 x6) := ⟨_, rfl⟩
            replace h := h w19 hw_w19
            refine XR.LW.eff hL rfl (Wants.free rfl) rfl (stE hw_w19 (Ef.st rfl rfl rfl (by kernel_rfl) ho1 hf1)) ?_
            obtain ⟨hsm7, h⟩ := h
            replace hB := Boxes.sameS hB hsm7 (by simp)
            refine XR.LW.nil hL rfl ?_
            refine NW.block ?_
            exact fun a_ ha_ => ⟨h.1, ⟨h.2.1, u1, hB⟩, h.2.2⟩
        · intro d1 O2 xs1 w20 hO_ hd_ hdh_ hS_ hi_
          obtain ⟨hi_, u1, hB⟩ := hi_
          have h := hdn_ d1 O2 xs1 w20 hO_ hd_ hS_ hi_
          have hK := XR.Marks.cons (XR.Marks.nil _) hdh_ (by simp)
          refine NW.block ?_
          refine NW.then ?_
          refine CW.seq ?_
          refine CW.region fun L hL => ?_
          obtain ⟨b6, hb_b6⟩ : ∃ b6, b6 = World.size w20 := ⟨_, rfl⟩
          obtain ⟨w21, hw_w21⟩ : ∃ w21, w21 = World.alloc w20 (.cells #[.int .i64 0] 3) := ⟨_, rfl⟩
          refine LW.val hL rfl (Wants.free rfl) rfl (boxE hb_b6 hw_w21 (Vl.alloc (z := .int .i64 0) (by kernel_rfl))) ?_
          replace hB := Boxes.alloc (cs := [.int .i64 0]) (T := 3) hB hb_b6 hw_w21
          replace hK := XR.Marks.grow hK hw_w21
          have hlo_b6 := sil_lo (Chg.refl [] w20) hb_b6
          have hc_w21 := sil_alloc (Chg.refl [] w20) hw_w21
          obtain ⟨w22, hw_w22⟩ : ∃ x, x = World.setCell w21 (⟨b6, 0, none⟩ : Addr) (.int .i64 0) := ⟨_, rfl⟩
          refine LW.eff hL rfl (Wants.free rfl) rfl (stE hw_w22 (Ef.st rfl rfl rfl (by kernel_rfl) (box_cell (v := .int .i64 0) (hB.at (i := 0) rfl) rfl) (free_of (hB.at (i := 0) rfl) 0))) ?_
          replace hK := XR.Marks.set hK (hB.at (i := 0) rfl) (sil_c1 hw_w22)
          replace hB : Boxes w22 [(b6, [.int .i64 0], 3), (b2, [u1], 4), (b4, [.slice l1 l1n l1c], 31)] := Boxes.store1  (i := 0) (o := 0) hB rfl rfl rfl rfl hw_w22
          have hc_w22 := sil_new hc_w21 (sil_c1 hw_w22) hlo_b6
          refine LW.nil hL rfl ?_
          refine NW.then ?_
          refine CW.seq ?_
          refine CW.seq ?_
          refine CW.region fun L hL => ?_
          refine LW.rd hL rfl (Wants.free rfl) rfl (Rd.move (v := r7) rfl) ?_
          refine LW.nil hL rfl ?_
          refine NW.then ?_
          refine CW.block ?_
          replace h := h b6 w22 ⟨hlo_b6, lt_of_heap (hB.at (i := 0) rfl)⟩ hc_w22
          obtain ⟨S2, Sp2, keep2, hfn_, hit_, hkp_, I2, X2, hst_I2, hst_X2, h0_, hrd_, hdn_, hso_X2⟩ := h
          refine XR.CW.rangeV (α := Int × Int) (enc := (fun x : Int × Int => #[.int .i64 x.1, .int .u32 x.2])) (S := S2) (Sp := Sp2) (keep := keep2) rfl hfn_ (fun _ => rfl) (by decide) hit_ (fun (O_ : List Nat) (pre_ : List (Int × Int)) (w_ : World) => ∃ (c2 : Int), I2 c2 O_ pre_ w_ ∧ XR.Marks w_ [d1] ∧ Boxes w_ [(b2, [u1], 4), (b4, [.slice l1 l1n l1c], 31), (b6, [.int .i64 c2], 3)]) (fun (c_ : Code) (O_ : List Nat) (pre_ : List (Int × Int)) (w_ : World) => (c_ = Code.exit 2 ∧ ∃ (c2 : Int), X2 c2 O_ pre_ w_ ∧ XR.Marks w_ [d1] ∧ Boxes w_ [(b2, [u1], 4), (b4, [.slice l1 l1n l1c], 31), (b6, [.int .i64 c2], 3)])) ?_ ?_ ?_ hkp_ ?_ ?_ ?_
          · intro pre_ O_ O2_ A_ B_ hi_ hO_ hc_ hO2_ hg_
            have hB0_ := (hB.sel [1, 2, 0] (by decide) rfl)
            have hK0_ := hK
            obtain ⟨c2, hi_, hK, hB⟩ := hi_
            exact ⟨c2, hst_I2 c2 pre_ O_ O2_ A_ B_ hi_ hO_ hc_ hO2_ hg_, hK.stab hK0_ hO_ hc_, hB.stab hB0_ rfl hO_ hc_⟩
          · intro c_ pre_ O_ O2_ A_ B_ hi_ hO_ hc_ hO2_ hg_
            have hB0_ := (hB.sel [1, 2, 0] (by decide) rfl)
            have hK0_ := hK
            rcases hi_ with ⟨hcc_, c2, hi_, hK, hB⟩
            · exact ⟨hcc_, c2, hst_X2 c2 pre_ O_ O2_ A_ B_ hi_ hO_ hc_ hO2_ hg_, hK.stab hK0_ hO_ hc_, hB.stab hB0_ rfl hO_ hc_⟩
          · intro O_ A_ hc_ hO_
            exact ⟨0, h0_ O_ A_ hc_ hO_, hK.chg hc_ (by simp), Boxes.chg (hB.sel [1, 2, 0] (by decide) rfl) hc_ (by simp)⟩
          · intro l3 O3 pre2 x_ w23 hO_ hl_ hSp_ hi_
            obtain ⟨x7, x8⟩ := x_
            obtain ⟨c2, hi_, hK, hB⟩ := hi_
            have h := hrd_ l3 O3 pre2 x7 x8 c2 w23 hO_ hl_ hSp_ hi_
            refine XR.CW.skip ?_
            refine XR.NW.begin (Chg.refl [] w23) (fun w24 hcb_w24 hlp_ hib_ => ?_)
            have hc_w24 : Chg [l3] w23 w24 := sil_more (Chg.refl [] w23) hcb_w24
            replace hB := hB.notloop hlp_ hcb_w24
            replace hK := hK.notloop hlp_ hcb_w24
            replace h := h  w24  hc_w24
            refine XR.CW.block ?_
            refine XR.CW.seq ?_
            refine XR.CW.region fun L hL => ?_
            refine XR.LW.rd hL rfl (Wants.free rfl) rfl (Rd.ld (v := .int .i64 c2) rfl (by kernel_rfl) (eqs (box_cell (hB.at (i := 2) rfl) rfl))) ?_
            refine XR.LW.rd hL rfl (Wants.free rfl) rfl (Rd.bin (v := .int .i64 (IntKind.wrap .i64 (c2 + 1))) rfl rfl (fun w => by kernel_rfl)) ?_
            obtain ⟨w25, hw_w25⟩ : ∃ x, x = World.setCell w24 (⟨b6, 0, none⟩ : Addr) (.int .i64 (IntKind.wrap .i64 (c2 + 1))) := ⟨_, rfl⟩
            refine XR.LW.eff hL rfl (Wants.free rfl) rfl (stE hw_w25 (Ef.st rfl rfl rfl (by kernel_rfl) (box_cell (v := .int .i64 c2) (hB.at (i := 2) rfl) rfl) (free_of (hB.at (i := 2) rfl) 0))) ?_
            replace hK := XR.Marks.set hK (hB.at (i := 2) rfl) (sil_c1 hw_w25)
            replace hB : Boxes w25 [(b2, [u1], 4), (b4, [.slice l1 l1n l1c], 31), (b6, [.int .i64 (IntKind.wrap .i64 (c2 + 1))], 3)] := Boxes.store1  (i := 2) (o := 0) hB rfl rfl rfl rfl hw_w25
            have hc_w25 : Chg [b6] w24 w25 := sil_more (Chg.refl [] w24) (sil_c1 hw_w25)
            refine XR.LW.nil hL rfl ?_
            refine XR.NW.then ?_
            refine XR.CW.exit ?_
            refine XW.miss rfl ?_
            replace h := h  w25  hc_w25
            exact fun a_ ha_ => ⟨h.1, (⟨rfl, IntKind.wrap .i64 (c2 + 1), h.2.1, hK, hB⟩), h.2.2⟩
          · intro d2 O4 xs2 w26 hO_ hd_ hdh_ hS_ hi_
            have hK0_ := hK
            obtain ⟨c2, hi_, hK, hB⟩ := hi_
            have h := hdn_ d2 O4 xs2 c2 w26 hO_ hd_ hS_ hi_
            have hK := XR.Marks.cons2 hK hK0_ (hO_ _ hd_).1 hdh_
            refine NW.block ?_
            refine NW.then ?_
            refine CW.seq ?_
            refine CW.region fun L hL => ?_
            refine LW.rd hL rfl (Wants.free rfl) rfl (Rd.move (v := .slice r4 r4n r4c) rfl) ?_
            refine LW.rd hL rfl (Wants.free rfl) rfl (Rd.move (v := .slice next1 next1n next1c) rfl) ?_
            refine LW.call hL rfl (Wants.free rfl) rfl (Cl.fn (f := 60) rfl Try.func60 (by kernel_rfl) rfl) h (fun e w27 h_ => ?_)
            clear h
            obtain ⟨r9, rfl, h⟩ := h_
            obtain ⟨hsm8, h⟩ := h
            replace hB := Boxes.sameS hB hsm8 (by simp)
            replace hK := XR.Marks.same hK hsm8 (by simp)
            refine ⟨_, rfl, ?_⟩
            refine LW.rd hL rfl (Wants.free rfl) rfl (Rd.assign (v := .bool r9) rfl) ?_
            refine LW.nil hL rfl ?_
            refine NW.then ?_
            refine CW.seq ?_
            refine CW.region fun L hL => ?_
            refine LW.rd hL rfl (Wants.free rfl) rfl (Rd.move (v := .int .i64 pages1) rfl) ?_
            refine LW.rd hL rfl (Wants.free rfl) rfl (Rd.bin (v := .int .i64 (Int.tmod pages1 32)) rfl rfl (fun w => by kernel_rfl)) ?_
            refine LW.rd hL rfl (Wants.free rfl) rfl (Rd.bin (v := .int .i64 (IntKind.wrap .i64 ((Int.tmod pages1 32) + 1))) rfl rfl (fun w => by kernel_rfl)) ?_
            refine LW.call hL rfl (Wants.free rfl) rfl (Cl.fn (f := 51) rfl Try.func51 (by kernel_rfl) rfl) h (fun e w28 h_ => ?_)
            clear h
            obtain ⟨r10, r11, rfl, h⟩ := h_
            obtain ⟨hsm9, h⟩ := h
            replace hB := Boxes.sameS hB hsm9 (by simp)
            replace hK := XR.Marks.same hK hsm9 (by simp)
            refine ⟨_, rfl, ?_⟩
            refine LW.rd hL rfl (Wants.free rfl) rfl (Rd.move (v := .tuple #[.pointer r10, .int .i64 r11]) rfl) ?_
            refine LW.rd hL rfl (Wants.free rfl) rfl (Rd.extract (v := .pointer r10) rfl rfl) ?_
            refine LW.rd hL rfl (Wants.free rfl) rfl (Rd.extract (v := .int .i64 r11) rfl rfl) ?_
            refine LW.rd hL rfl (Wants.free rfl) rfl (Rd.assign (v := .pointer r10) rfl) ?_
            refine LW.rd hL rfl (Wants.free rfl) rfl (Rd.assign (v := .int .i64 r11) rfl) ?_
            refine LW.nil hL rfl ?_
            refine NW.then ?_
            refine CW.seq ?_
            refine CW.region fun L hL => ?_
            refine LW.rd hL rfl (Wants.free rfl) rfl (Rd.move (v := .int .i64 pages1) rfl) ?_
            refine LW.call hL rfl (Wants.free rfl) rfl (Cl.fn (f := 51) rfl Try.func51 (by kernel_rfl) rfl) h (fun e w29 h_ => ?_)
            clear h
            obtain ⟨r12, r13, rfl, h⟩ := h_
            obtain ⟨hsm10, h⟩ := h
            replace hB := Boxes.sameS hB hsm10 (by simp)
            replace hK := XR.Marks.same hK hsm10 (by simp)
            refine ⟨_, rfl, ?_⟩
            refine LW.rd hL rfl (Wants.free rfl) rfl (Rd.move (v := .tuple #[.pointer r12, .int .i64 r13]) rfl) ?_
            refine LW.rd hL rfl (Wants.free rfl) rfl (Rd.extract (v := .pointer r12) rfl rfl) ?_
            refine LW.rd hL rfl (Wants.free rfl) rfl (Rd.extract (v := .int .i64 r13) rfl rfl) ?_
            refine LW.rd hL rfl (Wants.free rfl) rfl (Rd.assign (v := .pointer r12) rfl) ?_
            refine LW.rd hL rfl (Wants.free rfl) rfl (Rd.assign (v := .int .i64 r13) rfl) ?_
            refine LW.nil hL rfl ?_
            refine NW.then ?_
            refine CW.seq ?_
            obtain ⟨w30, hw_w30⟩ : ∃ x, x = World.drew w29 := ⟨_, rfl⟩
            have hc_w30 := sil_drew (Chg.refl [] w29) hw_w30
            replace hB := hB.drew hw_w30
            replace hK := XR.Marks.drew hK hw_w30
            refine CW.drawn (fun w => Boxes w [(b4, [.slice l1 l1n l1c], 31), (b6, [.int .i64 c2], 3)]) 43 (by kernel_rfl) fun H hH => ?_
            rw [← hw_w30]
            have hS1 : Boxes w30 [(b4, [.slice l1 l1n l1c], 31), (b6, [.int .i64 c2], 3)] := (hB.sel [1, 2] (by decide) rfl)
            refine HW.take (i := 0) hH rfl (by kernel_rfl) (by kernel_rfl) (Wants.free rfl) rfl (fun _ => hS1) (Rd.ld (v := .slice l1 l1n l1c) rfl (by kernel_rfl) (fun w h => box_cell (Boxes.at (i := 0) h rfl) rfl)) ?_
            refine HW.pure (i := 1) hH rfl (by kernel_rfl) (Wants.free rfl) rfl (fun _ => hS1) (Rd.move (v := .slice r4 r4n r4c) rfl) ?_
            replace h := h  w30  hc_w30
            refine HW.call (i := 2) hH (by kernel_rfl) rfl (Wants.free rfl) rfl (Cl.fn (f := 60) rfl Try.func60 (by kernel_rfl) rfl) h (fun e w31 h_ => ?_)
            clear h
            obtain ⟨r14, rfl, h⟩ := h_
            obtain ⟨hsm11, h⟩ := h
            replace hB := Boxes.sameS hB hsm11 (by simp)
            replace hK := XR.Marks.same hK hsm11 (by simp)
            have hS2 : Boxes w31 [(b4, [.slice l1 l1n l1c], 31), (b6, [.int .i64 c2], 3)] := (hB.sel [1, 2] (by decide) rfl)
            refine ⟨_, rfl, (fun _ => hS2), ?_⟩
            refine HW.pure (i := 3) hH rfl (by kernel_rfl) (Wants.free rfl) rfl (fun _ => hS2) (Rd.move (v := .bool r14) rfl) ?_
            obtain ⟨J4, hJ4, h1_J4, h0_J4⟩ := h
            suffices K5 : ∀ (b7 : Bool) (w32 : World), (Boxes w32 [(b4, [.slice l1 l1n l1c], 31), (b6, [.int .i64 c2], 3)]) → XR.Marks w32 [d2, d1] → Boxes w32 [(b2, [u1], 4), (b4, [.slice l1 l1n l1c], 31), (b6, [.int .i64 c2], 3)] → J4 b7 w32 → H 34 #[true, true, true, true, true, true, true, true, true, true, false, false, false, false, false, false, false, false, false, false, false, false, false, false, false, false, false, false, false, false, false, false, false, false, false, false, false, false, false, false, false, false, false, false] [(6, .pointer (some (⟨b2, 0, none⟩ : Addr))), (7, .pointer r3), (8, .slice r4 r4n r4c), (10, .pointer r6), (12, .slice next1 next1n next1c), (17, .bool r9), (18, .pointer r10), (20, .pointer r12), (138, .bool b7)] w32 by
              rcases Bool.eq_false_or_eq_true r14 with hb10 | hb10
              · have h := h1_J4 hb10
                refine HW.take (i := 4) hH rfl (by kernel_rfl) (by kernel_rfl) (Wants.on rfl rfl rfl rfl rfl hb10) rfl (fun _ => hS2) (Rd.ld (v := .int .i64 c2) rfl (by kernel_rfl) (fun w h => box_cell (Boxes.at (i := 1) h rfl) rfl)) ?_
                refine HW.pure (i := 5) hH rfl (by kernel_rfl) (Wants.on rfl rfl rfl rfl rfl hb10) rfl (fun _ => hS2) (Rd.move (v := .slice r4 r4n r4c) rfl) ?_
                refine HW.call (i := 6) hH (by kernel_rfl) rfl (Wants.on rfl rfl rfl rfl rfl hb10) rfl (Cl.fn (f := 61) rfl Try.func61 (by kernel_rfl) rfl) h (fun e w33 h_ => ?_)
                clear h
                obtain ⟨r15, rfl, h⟩ := h_
                obtain ⟨hsm12, h⟩ := h
                replace hB := Boxes.sameS hB hsm12 (by simp)
                replace hK := XR.Marks.same hK hsm12 (by simp)
                have hS3 : Boxes w33 [(b4, [.slice l1 l1n l1c], 31), (b6, [.int .i64 c2], 3)] := (hB.sel [1, 2] (by decide) rfl)
                refine ⟨_, rfl, (fun _ => hS3), ?_⟩
                refine HW.pure (i := 7) hH rfl (by kernel_rfl) (Wants.on rfl rfl rfl rfl rfl hb10) rfl (fun _ => hS3) (Rd.builtin (v := .int .i64 (if r15 < 1 then r15 else 1)) rfl (fun _ _ => valB (minI _ _ _ _ _ _))) ?_
                refine HW.pure (i := 8) hH rfl (by kernel_rfl) (Wants.on rfl rfl rfl rfl rfl hb10) rfl (fun _ => hS3) (Rd.bin (v := .bool (c2 == (if r15 < 1 then r15 else 1))) rfl rfl (fun w => by kernel_rfl)) ?_
                refine HW.pure (i := 9) hH rfl (by kernel_rfl) (Wants.free rfl) rfl (fun _ => hS3) (Rd.pickT rfl hb10 rfl) ?_
                exact HW.sub hH (by exact ⟨rfl, rfl, rfl, rfl, rfl, rfl, rfl, rfl, rfl, trivial⟩) (K5 (c2 == (if r15 < 1 then r15 else 1)) w33 hS3 hK (by exact hB) h)
              · have h := h0_J4 hb10
                refine HW.skip (i := 4) hH rfl (by kernel_rfl) (Skips.on rfl rfl rfl rfl rfl hb10) rfl (fun _ => hS2) ?_
                refine HW.skip (i := 5) hH rfl (by kernel_rfl) (Skips.on rfl rfl rfl rfl rfl hb10) rfl (fun _ => hS2) ?_
                refine HW.skip (i := 6) hH rfl (by kernel_rfl) (Skips.on rfl rfl rfl rfl rfl hb10) rfl (fun _ => hS2) ?_
                refine HW.skip (i := 7) hH rfl (by kernel_rfl) (Skips.on rfl rfl rfl rfl rfl hb10) rfl (fun _ => hS2) ?_
                refine HW.skip (i := 8) hH rfl (by kernel_rfl) (Skips.on rfl rfl rfl rfl rfl hb10) rfl (fun _ => hS2) ?_
                refine HW.pure (i := 9) hH rfl (by kernel_rfl) (Wants.free rfl) rfl (fun _ => hS2) (Rd.pickF rfl hb10 rfl) ?_
                exact HW.sub hH (by exact ⟨rfl, rfl, rfl, rfl, rfl, rfl, rfl, rfl, rfl, trivial⟩) (K5 false w31 hS2 hK (by exact hB) h)
            intro b7 w32 hS4 hK hB h_
            have h := hJ4 b7 w32 h_; clear h_
            refine HW.pure (i := 10) hH rfl (by kernel_rfl) (Wants.free rfl) rfl (fun _ => hS4) (Rd.move (v := .bool b7) rfl) ?_
            obtain ⟨J5, hJ5, h1_J5, h0_J5⟩ := h
            suffices K6 : ∀ (b8 : Bool) (w34 : World), (Boxes w34 [(b4, [.slice l1 l1n l1c], 31), (b6, [.int .i64 c2], 3)]) → XR.Marks w34 [d2, d1] → Boxes w34 [(b2, [u1], 4), (b4, [.slice l1 l1n l1c], 31), (b6, [.int .i64 c2], 3)] → J5 b8 w34 → H 29 #[true, true, true, true, true, true, true, true, true, true, true, true, true, true, true, false, false, false, false, false, false, false, false, false, false, false, false, false, false, false, false, false, false, false, false, false, false, false, false, false, false, false, false, false] [(6, .pointer (some (⟨b2, 0, none⟩ : Addr))), (7, .pointer r3), (10, .pointer r6), (12, .slice next1 next1n next1c), (17, .bool r9), (18, .pointer r10), (20, .pointer r12), (143, .bool b8)] w34 by
              rcases Bool.eq_false_or_eq_true b7 with hb11 | hb11
              · have h := h1_J5 hb11
                refine HW.pure (i := 11) hH rfl (by kernel_rfl) (Wants.on rfl rfl rfl rfl rfl hb11) rfl (fun _ => hS4) (Rd.move (v := .pointer r6) rfl) ?_
                refine HW.pure (i := 12) hH rfl (by kernel_rfl) (Wants.on rfl rfl rfl rfl rfl hb11) rfl (fun _ => hS4) (Rd.move (v := .slice r4 r4n r4c) rfl) ?_
                refine HW.call (i := 13) hH (by kernel_rfl) rfl (Wants.on rfl rfl rfl rfl rfl hb11) rfl (Cl.fn (f := 45) rfl Try.func45 (by kernel_rfl) rfl) h (fun e w35 h_ => ?_)
                clear h
                obtain ⟨r16, rfl, h⟩ := h_
                obtain ⟨hsm13, h⟩ := h
                replace hB := Boxes.sameS hB hsm13 (by simp)
                replace hK := XR.Marks.same hK hsm13 (by simp)
                have hS5 : Boxes w35 [(b4, [.slice l1 l1n l1c], 31), (b6, [.int .i64 c2], 3)] := (hB.sel [1, 2] (by decide) rfl)
                refine ⟨_, rfl, (fun _ => hS5), ?_⟩
                refine HW.pure (i := 14) hH rfl (by kernel_rfl) (Wants.free rfl) rfl (fun _ => hS5) (Rd.pickT rfl hb11 rfl) ?_
                exact HW.sub hH (by exact ⟨rfl, rfl, rfl, rfl, rfl, rfl, rfl, rfl, trivial⟩) (K6 r16 w35 hS5 hK (by exact hB) h)
              · have h := h0_J5 hb11
                refine HW.skip (i := 11) hH rfl (by kernel_rfl) (Skips.on rfl rfl rfl rfl rfl hb11) rfl (fun _ => hS4) ?_
                refine HW.skip (i := 12) hH rfl (by kernel_rfl) (Skips.on rfl rfl rfl rfl rfl hb11) rfl (fun _ => hS4) ?_
                refine HW.skip (i := 13) hH rfl (by kernel_rfl) (Skips.on rfl rfl rfl rfl rfl hb11) rfl (fun _ => hS4) ?_
                refine HW.pure (i := 14) hH rfl (by kernel_rfl) (Wants.free rfl) rfl (fun _ => hS4) (Rd.pickF rfl hb11 rfl) ?_
                exact HW.sub hH (by exact ⟨rfl, rfl, rfl, rfl, rfl, rfl, rfl, rfl, trivial⟩) (K6 false w32 hS4 hK (by exact hB) h)
            intro b8 w34 hS6 hK hB h_
            have h := hJ5 b8 w34 h_; clear h_
            refine HW.pure (i := 15) hH rfl (by kernel_rfl) (Wants.free rfl) rfl (fun _ => hS6) (Rd.move (v := .bool b8) rfl) ?_
            obtain ⟨J6, hJ6, h1_J6, h0_J6⟩ := h
            suffices K7 : ∀ (b9 : Bool) (w36 : World), (Boxes w36 [(b4, [.slice l1 l1n l1c], 31), (b6, [.int .i64 c2], 3)]) → XR.Marks w36 [d2, d1] → Boxes w36 [(b2, [u1], 4), (b4, [.slice l1 l1n l1c], 31), (b6, [.int .i64 c2], 3)] → J6 b9 w36 → H 24 #[true, true, true, true, true, true, true, true, true, true, true, true, true, true, true, true, true, true, true, true, false, false, false, false, false, false, false, false, false, false, false, false, false, false, false, false, false, false, false, false, false, false, false, false] [(6, .pointer (some (⟨b2, 0, none⟩ : Addr))), (7, .pointer r3), (10, .pointer r6), (17, .bool r9), (18, .pointer r10), (20, .pointer r12), (148, .bool b9)] w36 by
              rcases Bool.eq_false_or_eq_true b8 with hb12 | hb12
              · have h := h1_J6 hb12
                refine HW.pure (i := 16) hH rfl (by kernel_rfl) (Wants.on rfl rfl rfl rfl rfl hb12) rfl (fun _ => hS6) (Rd.move (v := .pointer r3) rfl) ?_
                refine HW.pure (i := 17) hH rfl (by kernel_rfl) (Wants.on rfl rfl rfl rfl rfl hb12) rfl (fun _ => hS6) (Rd.move (v := .slice next1 next1n next1c) rfl) ?_
                refine HW.call (i := 18) hH (by kernel_rfl) rfl (Wants.on rfl rfl rfl rfl rfl hb12) rfl (Cl.fn (f := 45) rfl Try.func45 (by kernel_rfl) rfl) h (fun e w37 h_ => ?_)
                clear h
                obtain ⟨r17, rfl, h⟩ := h_
                obtain ⟨hsm14, h⟩ := h
                replace hB := Boxes.sameS hB hsm14 (by simp)
                replace hK := XR.Marks.same hK hsm14 (by simp)
                have hS7 : Boxes w37 [(b4, [.slice l1 l1n l1c], 31), (b6, [.int .i64 c2], 3)] := (hB.sel [1, 2] (by decide) rfl)
                refine ⟨_, rfl, (fun _ => hS7), ?_⟩
                refine HW.pure (i := 19) hH rfl (by kernel_rfl) (Wants.free rfl) rfl (fun _ => hS7) (Rd.pickT rfl hb12 rfl) ?_
                exact HW.sub hH (by exact ⟨rfl, rfl, rfl, rfl, rfl, rfl, rfl, trivial⟩) (K7 r17 w37 hS7 hK (by exact hB) h)
              · have h := h0_J6 hb12
                refine HW.skip (i := 16) hH rfl (by kernel_rfl) (Skips.on rfl rfl rfl rfl rfl hb12) rfl (fun _ => hS6) ?_
                refine HW.skip (i := 17) hH rfl (by kernel_rfl) (Skips.on rfl rfl rfl rfl rfl hb12) rfl (fun _ => hS6) ?_
                refine HW.skip (i := 18) hH rfl (by kernel_rfl) (Skips.on rfl rfl rfl rfl rfl hb12) rfl (fun _ => hS6) ?_
                refine HW.pure (i := 19) hH rfl (by kernel_rfl) (Wants.free rfl) rfl (fun _ => hS6) (Rd.pickF rfl hb12 rfl) ?_
                exact HW.sub hH (by exact ⟨rfl, rfl, rfl, rfl, rfl, rfl, rfl, trivial⟩) (K7 false w34 hS6 hK (by exact hB) h)
            intro b9 w36 hS8 hK hB h_
            have h := hJ6 b9 w36 h_; clear h_
            refine HW.pure (i := 20) hH rfl (by kernel_rfl) (Wants.free rfl) rfl (fun _ => hS8) (Rd.move (v := .bool b9) rfl) ?_
            obtain ⟨J7, hJ7, h1_J7, h0_J7⟩ := h
            suffices K8 : ∀ (b10 : Bool) (w38 : World), (Boxes w38 [(b4, [.slice l1 l1n l1c], 31), (b6, [.int .i64 c2], 3)]) → XR.Marks w38 [d2, d1] → Boxes w38 [(b2, [u1], 4), (b4, [.slice l1 l1n l1c], 31), (b6, [.int .i64 c2], 3)] → J7 b10 w38 → H 17 #[true, true, true, true, true, true, true, true, true, true, true, true, true, true, true, true, true, true, true, true, true, true, true, true, true, true, true, false, false, false, false, false, false, false, false, false, false, false, false, false, false, false, false, false] [(6, .pointer (some (⟨b2, 0, none⟩ : Addr))), (7, .pointer r3), (10, .pointer r6), (17, .bool r9), (18, .pointer r10), (20, .pointer r12), (155, .bool b10)] w38 by
              rcases Bool.eq_false_or_eq_true b9 with hb13 | hb13
              · have h := h1_J7 hb13
                refine HW.pure (i := 21) hH rfl (by kernel_rfl) (Wants.on rfl rfl rfl rfl rfl hb13) rfl (fun _ => hS8) (Rd.move (v := .pointer r3) rfl) ?_
                refine HW.pure (i := 22) hH rfl (by kernel_rfl) (Wants.on rfl rfl rfl rfl rfl hb13) rfl (fun _ => hS8) (Rd.move (v := .pointer r6) rfl) ?_
                refine HW.pure (i := 24) hH rfl (by kernel_rfl) (Wants.on rfl rfl rfl rfl rfl hb13) rfl (fun _ => hS8) (Rd.move (v := .bool r9) rfl) ?_
                refine HW.call (i := 23) hH (by kernel_rfl) rfl (Wants.on rfl rfl rfl rfl rfl hb13) rfl (Cl.fn (f := 53) rfl Try.func53 (by kernel_rfl) rfl) h (fun e w39 h_ => ?_)
                clear h
                obtain ⟨r18, rfl, h⟩ := h_
                obtain ⟨hsm15, h⟩ := h
                replace hB := Boxes.sameS hB hsm15 (by simp)
                replace hK := XR.Marks.same hK hsm15 (by simp)
                have hS9 : Boxes w39 [(b4, [.slice l1 l1n l1c], 31), (b6, [.int .i64 c2], 3)] := (hB.sel [1, 2] (by decide) rfl)
                refine ⟨_, rfl, (fun _ => hS9), ?_⟩
                refine HW.pure (i := 25) hH rfl (by kernel_rfl) (Wants.on rfl rfl rfl rfl rfl hb13) rfl (fun _ => hS9) (Rd.bin (v := .bool (r18 == r9)) rfl rfl (fun w => by kernel_rfl)) ?_
                refine HW.pure (i := 26) hH rfl (by kernel_rfl) (Wants.free rfl) rfl (fun _ => hS9) (Rd.pickT rfl hb13 rfl) ?_
                exact HW.sub hH (by exact ⟨rfl, rfl, rfl, rfl, rfl, rfl, rfl, trivial⟩) (K8 (r18 == r9) w39 hS9 hK (by exact hB) h)
              · have h := h0_J7 hb13
                refine HW.skip (i := 21) hH rfl (by kernel_rfl) (Skips.on rfl rfl rfl rfl rfl hb13) rfl (fun _ => hS8) ?_
                refine HW.skip (i := 22) hH rfl (by kernel_rfl) (Skips.on rfl rfl rfl rfl rfl hb13) rfl (fun _ => hS8) ?_
                refine HW.skip (i := 23) hH rfl (by kernel_rfl) (Skips.on rfl rfl rfl rfl rfl hb13) rfl (fun _ => hS8) ?_
                refine HW.skip (i := 24) hH rfl (by kernel_rfl) (Skips.on rfl rfl rfl rfl rfl hb13) rfl (fun _ => hS8) ?_
                refine HW.skip (i := 25) hH rfl (by kernel_rfl) (Skips.on rfl rfl rfl rfl rfl hb13) rfl (fun _ => hS8) ?_
                refine HW.pure (i := 26) hH rfl (by kernel_rfl) (Wants.free rfl) rfl (fun _ => hS8) (Rd.pickF rfl hb13 rfl) ?_
                exact HW.sub hH (by exact ⟨rfl, rfl, rfl, rfl, rfl, rfl, rfl, trivial⟩) (K8 false w36 hS8 hK (by exact hB) h)
            intro b10 w38 hS10 hK hB h_
            have h := hJ7 b10 w38 h_; clear h_
            refine HW.pure (i := 27) hH rfl (by kernel_rfl) (Wants.free rfl) rfl (fun _ => hS10) (Rd.move (v := .bool b10) rfl) ?_
            obtain ⟨J8, hJ8, h1_J8, h0_J8⟩ := h
            suffices K9 : ∀ (b11 : Bool) (w40 : World), (Boxes w40 [(b4, [.slice l1 l1n l1c], 31), (b6, [.int .i64 c2], 3)]) → XR.Marks w40 [d2, d1] → Boxes w40 [(b2, [u1], 4), (b4, [.slice l1 l1n l1c], 31), (b6, [.int .i64 c2], 3)] → J8 b11 w40 → H 10 #[true, true, true, true, true, true, true, true, true, true, true, true, true, true, true, true, true, true, true, true, true, true, true, true, true, true, true, true, true, true, true, true, true, true, false, false, false, false, false, false, false, false, false, false] [(6, .pointer (some (⟨b2, 0, none⟩ : Addr))), (18, .pointer r10), (20, .pointer r12), (162, .bool b11)] w40 by
              rcases Bool.eq_false_or_eq_true b10 with hb14 | hb14
              · have h := h1_J8 hb14
                refine HW.pure (i := 28) hH rfl (by kernel_rfl) (Wants.on rfl rfl rfl rfl rfl hb14) rfl (fun _ => hS10) (Rd.move (v := .pointer r6) rfl) ?_
                refine HW.pure (i := 29) hH rfl (by kernel_rfl) (Wants.on rfl rfl rfl rfl rfl hb14) rfl (fun _ => hS10) (Rd.move (v := .pointer r3) rfl) ?_
                refine HW.pure (i := 31) hH rfl (by kernel_rfl) (Wants.on rfl rfl rfl rfl rfl hb14) rfl (fun _ => hS10) (Rd.move (v := .bool r9) rfl) ?_
                refine HW.call (i := 30) hH (by kernel_rfl) rfl (Wants.on rfl rfl rfl rfl rfl hb14) rfl (Cl.fn (f := 53) rfl Try.func53 (by kernel_rfl) rfl) h (fun e w41 h_ => ?_)
                clear h
                obtain ⟨r19, rfl, h⟩ := h_
                obtain ⟨hsm16, h⟩ := h
                replace hB := Boxes.sameS hB hsm16 (by simp)
                replace hK := XR.Marks.same hK hsm16 (by simp)
                have hS11 : Boxes w41 [(b4, [.slice l1 l1n l1c], 31), (b6, [.int .i64 c2], 3)] := (hB.sel [1, 2] (by decide) rfl)
                refine ⟨_, rfl, (fun _ => hS11), ?_⟩
                refine HW.pure (i := 32) hH rfl (by kernel_rfl) (Wants.on rfl rfl rfl rfl rfl hb14) rfl (fun _ => hS11) (Rd.bin (v := .bool (r19 == r9)) rfl rfl (fun w => by kernel_rfl)) ?_
                refine HW.pure (i := 33) hH rfl (by kernel_rfl) (Wants.free rfl) rfl (fun _ => hS11) (Rd.pickT rfl hb14 rfl) ?_
                exact HW.sub hH (by exact ⟨rfl, rfl, rfl, rfl, trivial⟩) (K9 (r19 == r9) w41 hS11 hK (by exact hB) h)
              · have h := h0_J8 hb14
                refine HW.skip (i := 28) hH rfl (by kernel_rfl) (Skips.on rfl rfl rfl rfl rfl hb14) rfl (fun _ => hS10) ?_
                refine HW.skip (i := 29) hH rfl (by kernel_rfl) (Skips.on rfl rfl rfl rfl rfl hb14) rfl (fun _ => hS10) ?_
                refine HW.skip (i := 30) hH rfl (by kernel_rfl) (Skips.on rfl rfl rfl rfl rfl hb14) rfl (fun _ => hS10) ?_
                refine HW.skip (i := 31) hH rfl (by kernel_rfl) (Skips.on rfl rfl rfl rfl rfl hb14) rfl (fun _ => hS10) ?_
                refine HW.skip (i := 32) hH rfl (by kernel_rfl) (Skips.on rfl rfl rfl rfl rfl hb14) rfl (fun _ => hS10) ?_
                refine HW.pure (i := 33) hH rfl (by kernel_rfl) (Wants.free rfl) rfl (fun _ => hS10) (Rd.pickF rfl hb14 rfl) ?_
                exact HW.sub hH (by exact ⟨rfl, rfl, rfl, rfl, trivial⟩) (K9 false w38 hS10 hK (by exact hB) h)
            intro b11 w40 hS12 hK hB h_
            have h := hJ8 b11 w40 h_; clear h_
            refine HW.pure (i := 34) hH rfl (by kernel_rfl) (Wants.free rfl) rfl (fun _ => hS12) (Rd.move (v := .bool b11) rfl) ?_
            obtain ⟨J9, hJ9, h1_J9, h0_J9⟩ := h
            suffices K10 : ∀ (b12 : Bool) (w42 : World), (Boxes w42 [(b4, [.slice l1 l1n l1c], 31), (b6, [.int .i64 c2], 3)]) → XR.Marks w42 [d2, d1] → Boxes w42 [(b2, [u1], 4), (b4, [.slice l1 l1n l1c], 31), (b6, [.int .i64 c2], 3)] → J9 b12 w42 → H 4 #[true, true, true, true, true, true, true, true, true, true, true, true, true, true, true, true, true, true, true, true, true, true, true, true, true, true, true, true, true, true, true, true, true, true, true, true, true, true, true, true, false, false, false, false] [(6, .pointer (some (⟨b2, 0, none⟩ : Addr))), (168, .bool b12)] w42 by
              rcases Bool.eq_false_or_eq_true b11 with hb15 | hb15
              · have h := h1_J9 hb15
                refine HW.pure (i := 35) hH rfl (by kernel_rfl) (Wants.on rfl rfl rfl rfl rfl hb15) rfl (fun _ => hS12) (Rd.move (v := .pointer r10) rfl) ?_
                refine HW.pure (i := 36) hH rfl (by kernel_rfl) (Wants.on rfl rfl rfl rfl rfl hb15) rfl (fun _ => hS12) (Rd.move (v := .pointer r12) rfl) ?_
                refine HW.call (i := 37) hH (by kernel_rfl) rfl (Wants.on rfl rfl rfl rfl rfl hb15) rfl (Cl.fn (f := 53) rfl Try.func53 (by kernel_rfl) rfl) h (fun e w43 h_ => ?_)
                clear h
                obtain ⟨r20, rfl, h⟩ := h_
                obtain ⟨hsm17, h⟩ := h
                replace hB := Boxes.sameS hB hsm17 (by simp)
                replace hK := XR.Marks.same hK hsm17 (by simp)
                have hS13 : Boxes w43 [(b4, [.slice l1 l1n l1c], 31), (b6, [.int .i64 c2], 3)] := (hB.sel [1, 2] (by decide) rfl)
                refine ⟨_, rfl, (fun _ => hS13), ?_⟩
                refine HW.pure (i := 38) hH rfl (by kernel_rfl) (Wants.on rfl rfl rfl rfl rfl hb15) rfl (fun _ => hS13) (Rd.un (v := .bool (!r20)) rfl (fun _ => by kernel_rfl)) ?_
                refine HW.pure (i := 39) hH rfl (by kernel_rfl) (Wants.free rfl) rfl (fun _ => hS13) (Rd.pickT rfl hb15 rfl) ?_
                exact HW.sub hH (by exact ⟨rfl, rfl, trivial⟩) (K10 (!r20) w43 hS13 hK (by exact hB) h)
              · have h := h0_J9 hb15
                refine HW.skip (i := 35) hH rfl (by kernel_rfl) (Skips.on rfl rfl rfl rfl rfl hb15) rfl (fun _ => hS12) ?_
                refine HW.skip (i := 36) hH rfl (by kernel_rfl) (Skips.on rfl rfl rfl rfl rfl hb15) rfl (fun _ => hS12) ?_
                refine HW.skip (i := 37) hH rfl (by kernel_rfl) (Skips.on rfl rfl rfl rfl rfl hb15) rfl (fun _ => hS12) ?_
                refine HW.skip (i := 38) hH rfl (by kernel_rfl) (Skips.on rfl rfl rfl rfl rfl hb15) rfl (fun _ => hS12) ?_
                refine HW.pure (i := 39) hH rfl (by kernel_rfl) (Wants.free rfl) rfl (fun _ => hS12) (Rd.pickF rfl hb15 rfl) ?_
                exact HW.sub hH (by exact ⟨rfl, rfl, trivial⟩) (K10 false w40 hS12 hK (by exact hB) h)
            intro b12 w42 hS14 hK hB h_
            have h := hJ9 b12 w42 h_; clear h_
            refine HW.pure (i := 40) hH rfl (by kernel_rfl) (Wants.free rfl) rfl (fun _ => hS14) (Rd.move (v := .bool b12) rfl) ?_
            obtain ⟨J10, hJ10, h1_J10, h0_J10⟩ := h
            suffices K11 : ∀ (b13 : Bool) (w44 : World), (Boxes w44 [(b4, [.slice l1 l1n l1c], 31), (b6, [.int .i64 c2], 3)]) → XR.Marks w44 [d2, d1] → Boxes w44 [(b2, [u1], 4), (b4, [.slice l1 l1n l1c], 31), (b6, [.int .i64 c2], 3)] → J10 b13 w44 → H 1 #[true, true, true, true, true, true, true, true, true, true, true, true, true, true, true, true, true, true, true, true, true, true, true, true, true, true, true, true, true, true, true, true, true, true, true, true, true, true, true, true, true, true, true, false] [(6, .pointer (some (⟨b2, 0, none⟩ : Addr))), (171, .bool b13)] w44 by
              rcases Bool.eq_false_or_eq_true b12 with hb16 | hb16
              · have h := h1_J10 hb16
                refine HW.call (i := 41) hH (by kernel_rfl) rfl (Wants.on rfl rfl rfl rfl rfl hb16) rfl (Cl.fn (f := 40) rfl Try.func40 (by kernel_rfl) rfl) h (fun e w45 h_ => ?_)
                clear h
                obtain ⟨r21, rfl, h⟩ := h_
                obtain ⟨hsm18, h⟩ := h
                replace hB := Boxes.sameS hB hsm18 (by simp)
                replace hK := XR.Marks.same hK hsm18 (by simp)
                have hS15 : Boxes w45 [(b4, [.slice l1 l1n l1c], 31), (b6, [.int .i64 c2], 3)] := (hB.sel [1, 2] (by decide) rfl)
                refine ⟨_, rfl, (fun _ => hS15), ?_⟩
                refine HW.pure (i := 42) hH rfl (by kernel_rfl) (Wants.free rfl) rfl (fun _ => hS15) (Rd.pickT rfl hb16 rfl) ?_
                exact HW.sub hH (by exact ⟨rfl, rfl, trivial⟩) (K11 r21 w45 hS15 hK (by exact hB) h)
              · have h := h0_J10 hb16
                refine HW.skip (i := 41) hH rfl (by kernel_rfl) (Skips.on rfl rfl rfl rfl rfl hb16) rfl (fun _ => hS14) ?_
                refine HW.pure (i := 42) hH rfl (by kernel_rfl) (Wants.free rfl) rfl (fun _ => hS14) (Rd.pickF rfl hb16 rfl) ?_
                exact HW.sub hH (by exact ⟨rfl, rfl, trivial⟩) (K11 false w42 hS14 hK (by exact hB) h)
            intro b13 w44 hS16 hK hB h_
            have h := hJ10 b13 w44 h_; clear h_
            obtain ⟨w46, hw_w46⟩ : ∃ x, x = World.setCell w44 (⟨b2, 0, none⟩ : Addr) (.bool b13) := ⟨_, rfl⟩
            refine HW.eff (i := 43) hH (by kernel_rfl) rfl (Wants.free rfl) rfl (stE hw_w46 (Ef.st rfl rfl rfl (by kernel_rfl) (box_cell (v := u1) (hB.at (i := 0) rfl) rfl) (free_of (hB.at (i := 0) rfl) 0))) (fun hc => by cases hc) ?_
            replace hK := XR.Marks.set hK (hB.at (i := 0) rfl) (sil_c1 hw_w46)
            replace hB : Boxes w46 [(b2, [.bool b13], 4), (b4, [.slice l1 l1n l1c], 31), (b6, [.int .i64 c2], 3)] := Boxes.store1  (i := 0) (o := 0) hB rfl rfl rfl rfl hw_w46
            have hc_w46 : Chg [b2] w44 w46 := sil_more (Chg.refl [] w44) (sil_c1 hw_w46)
            refine HW.done hH (by kernel_rfl) ?_
            refine NW.then ?_
            replace h := h  w46  hc_w46
            refine CW.ret ?_
            exact XR.resM (ms := [d2, d1]) (vs := [.bool b13]) hK rfl (fun w_ hc_ => ⟨(ResOK.c rfl (lv1 (by kernel_rfl) (box_cell (Boxes.at (i := 0) (hB.marks hK hc_) rfl) rfl)) ResOK.nil), b13, rfl, h w_ hc_⟩)
          · intro d3 c_ O5 xs3 w48 hO_ hd_ hdh_ hS_ hi_
            have hK0_ := hK
            rcases hi_ with ⟨rfl, c2, hi_, hK, hB⟩
            · have h := hso_X2 d3 O5 xs3 c2 w48 hO_ hd_ hS_ hi_
              have hK := XR.Marks.cons2 hK hK0_ (hO_ _ hd_).1 hdh_
              refine CW.exit ?_
              refine XW.hit ?_
              refine NW.then ?_
              refine CW.seq ?_
              refine CW.region fun L hL => ?_
              refine LW.rd hL rfl (Wants.free rfl) rfl (Rd.move (v := .slice r4 r4n r4c) rfl) ?_
              refine LW.rd hL rfl (Wants.free rfl) rfl (Rd.move (v := .slice next1 next1n next1c) rfl) ?_
              refine LW.call hL rfl (Wants.free rfl) rfl (Cl.fn (f := 60) rfl Try.func60 (by kernel_rfl) rfl) h (fun e w49 h_ => ?_)
              clear h
              obtain ⟨r22, rfl, h⟩ := h_
              obtain ⟨hsm19, h⟩ := h
              replace hB := Boxes.sameS hB hsm19 (by simp)
              replace hK := XR.Marks.same hK hsm19 (by simp)
              refine ⟨_, rfl, ?_⟩
              refine LW.rd hL rfl (Wants.free rfl) rfl (Rd.assign (v := .bool r22) rfl) ?_
              refine LW.nil hL rfl ?_
              refine NW.then ?_
              refine CW.seq ?_
              refine CW.region fun L hL => ?_
              refine LW.rd hL rfl (Wants.free rfl) rfl (Rd.move (v := .int .i64 pages1) rfl) ?_
              refine LW.rd hL rfl (Wants.free rfl) rfl (Rd.bin (v := .int .i64 (Int.tmod pages1 32)) rfl rfl (fun w => by kernel_rfl)) ?_
              refine LW.rd hL rfl (Wants.free rfl) rfl (Rd.bin (v := .int .i64 (IntKind.wrap .i64 ((Int.tmod pages1 32) + 1))) rfl rfl (fun w => by kernel_rfl)) ?_
              refine LW.call hL rfl (Wants.free rfl) rfl (Cl.fn (f := 51) rfl Try.func51 (by kernel_rfl) rfl) h (fun e w50 h_ => ?_)
              clear h
              obtain ⟨r23, r24, rfl, h⟩ := h_
              obtain ⟨hsm20, h⟩ := h
              replace hB := Boxes.sameS hB hsm20 (by simp)
              replace hK := XR.Marks.same hK hsm20 (by simp)
              refine ⟨_, rfl, ?_⟩
              refine LW.rd hL rfl (Wants.free rfl) rfl (Rd.move (v := .tuple #[.pointer r23, .int .i64 r24]) rfl) ?_
              refine LW.rd hL rfl (Wants.free rfl) rfl (Rd.extract (v := .pointer r23) rfl rfl) ?_
              refine LW.rd hL rfl (Wants.free rfl) rfl (Rd.extract (v := .int .i64 r24) rfl rfl) ?_
              refine LW.rd hL rfl (Wants.free rfl) rfl (Rd.assign (v := .pointer r23) rfl) ?_
              refine LW.rd hL rfl (Wants.free rfl) rfl (Rd.assign (v := .int .i64 r24) rfl) ?_
              refine LW.nil hL rfl ?_
              refine NW.then ?_
              refine CW.seq ?_
              refine CW.region fun L hL => ?_
              refine LW.rd hL rfl (Wants.free rfl) rfl (Rd.move (v := .int .i64 pages1) rfl) ?_
              refine LW.call hL rfl (Wants.free rfl) rfl (Cl.fn (f := 51) rfl Try.func51 (by kernel_rfl) rfl) h (fun e w51 h_ => ?_)
              clear h
              obtain ⟨r25, r26, rfl, h⟩ := h_
              obtain ⟨hsm21, h⟩ := h
              replace hB := Boxes.sameS hB hsm21 (by simp)
              replace hK := XR.Marks.same hK hsm21 (by simp)
              refine ⟨_, rfl, ?_⟩
              refine LW.rd hL rfl (Wants.free rfl) rfl (Rd.move (v := .tuple #[.pointer r25, .int .i64 r26]) rfl) ?_
              refine LW.rd hL rfl (Wants.free rfl) rfl (Rd.extract (v := .pointer r25) rfl rfl) ?_
              refine LW.rd hL rfl (Wants.free rfl) rfl (Rd.extract (v := .int .i64 r26) rfl rfl) ?_
              refine LW.rd hL rfl (Wants.free rfl) rfl (Rd.assign (v := .pointer r25) rfl) ?_
              refine LW.rd hL rfl (Wants.free rfl) rfl (Rd.assign (v := .int .i64 r26) rfl) ?_
              refine LW.nil hL rfl ?_
              refine NW.then ?_
              refine CW.seq ?_
              obtain ⟨w52, hw_w52⟩ : ∃ x, x = World.drew w51 := ⟨_, rfl⟩
              have hc_w52 := sil_drew (Chg.refl [] w51) hw_w52
              replace hB := hB.drew hw_w52
              replace hK := XR.Marks.drew hK hw_w52
              refine CW.drawn (fun w => Boxes w [(b4, [.slice l1 l1n l1c], 31), (b6, [.int .i64 c2], 3)]) 43 (by kernel_rfl) fun H hH => ?_
              rw [← hw_w52]
              have hS17 : Boxes w52 [(b4, [.slice l1 l1n l1c], 31), (b6, [.int .i64 c2], 3)] := (hB.sel [1, 2] (by decide) rfl)
              refine HW.take (i := 0) hH rfl (by kernel_rfl) (by kernel_rfl) (Wants.free rfl) rfl (fun _ => hS17) (Rd.ld (v := .slice l1 l1n l1c) rfl (by kernel_rfl) (fun w h => box_cell (Boxes.at (i := 0) h rfl) rfl)) ?_
              refine HW.pure (i := 1) hH rfl (by kernel_rfl) (Wants.free rfl) rfl (fun _ => hS17) (Rd.move (v := .slice r4 r4n r4c) rfl) ?_
              replace h := h  w52  hc_w52
              refine HW.call (i := 2) hH (by kernel_rfl) rfl (Wants.free rfl) rfl (Cl.fn (f := 60) rfl Try.func60 (by kernel_rfl) rfl) h (fun e w53 h_ => ?_)
              clear h
              obtain ⟨r27, rfl, h⟩ := h_
              obtain ⟨hsm22, h⟩ := h
              replace hB := Boxes.sameS hB hsm22 (by simp)
              replace hK := XR.Marks.same hK hsm22 (by simp)
              have hS18 : Boxes w53 [(b4, [.slice l1 l1n l1c], 31), (b6, [.int .i64 c2], 3)] := (hB.sel [1, 2] (by decide) rfl)
              refine ⟨_, rfl, (fun _ => hS18), ?_⟩
              refine HW.pure (i := 3) hH rfl (by kernel_rfl) (Wants.free rfl) rfl (fun _ => hS18) (Rd.move (v := .bool r27) rfl) ?_
              obtain ⟨J11, hJ11, h1_J11, h0_J11⟩ := h
              suffices K12 : ∀ (b14 : Bool) (w54 : World), (Boxes w54 [(b4, [.slice l1 l1n l1c], 31), (b6, [.int .i64 c2], 3)]) → XR.Marks w54 [d3, d1] → Boxes w54 [(b2, [u1], 4), (b4, [.slice l1 l1n l1c], 31), (b6, [.int .i64 c2], 3)] → J11 b14 w54 → H 34 #[true, true, true, true, true, true, true, true, true, true, false, false, false, false, false, false, false, false, false, false, false, false, false, false, false, false, false, false, false, false, false, false, false, false, false, false, false, false, false, false, false, false, false, false] [(6, .pointer (some (⟨b2, 0, none⟩ : Addr))), (7, .pointer r3), (8, .slice r4 r4n r4c), (10, .pointer r6), (12, .slice next1 next1n next1c), (17, .bool r22), (18, .pointer r23), (20, .pointer r25), (138, .bool b14)] w54 by
                rcases Bool.eq_false_or_eq_true r27 with hb17 | hb17
                · have h := h1_J11 hb17
                  refine HW.take (i := 4) hH rfl (by kernel_rfl) (by kernel_rfl) (Wants.on rfl rfl rfl rfl rfl hb17) rfl (fun _ => hS18) (Rd.ld (v := .int .i64 c2) rfl (by kernel_rfl) (fun w h => box_cell (Boxes.at (i := 1) h rfl) rfl)) ?_
                  refine HW.pure (i := 5) hH rfl (by kernel_rfl) (Wants.on rfl rfl rfl rfl rfl hb17) rfl (fun _ => hS18) (Rd.move (v := .slice r4 r4n r4c) rfl) ?_
                  refine HW.call (i := 6) hH (by kernel_rfl) rfl (Wants.on rfl rfl rfl rfl rfl hb17) rfl (Cl.fn (f := 61) rfl Try.func61 (by kernel_rfl) rfl) h (fun e w55 h_ => ?_)
                  clear h
                  obtain ⟨r28, rfl, h⟩ := h_
                  obtain ⟨hsm23, h⟩ := h
                  replace hB := Boxes.sameS hB hsm23 (by simp)
                  replace hK := XR.Marks.same hK hsm23 (by simp)
                  have hS19 : Boxes w55 [(b4, [.slice l1 l1n l1c], 31), (b6, [.int .i64 c2], 3)] := (hB.sel [1, 2] (by decide) rfl)
                  refine ⟨_, rfl, (fun _ => hS19), ?_⟩
                  refine HW.pure (i := 7) hH rfl (by kernel_rfl) (Wants.on rfl rfl rfl rfl rfl hb17) rfl (fun _ => hS19) (Rd.builtin (v := .int .i64 (if r28 < 1 then r28 else 1)) rfl (fun _ _ => valB (minI _ _ _ _ _ _))) ?_
                  refine HW.pure (i := 8) hH rfl (by kernel_rfl) (Wants.on rfl rfl rfl rfl rfl hb17) rfl (fun _ => hS19) (Rd.bin (v := .bool (c2 == (if r28 < 1 then r28 else 1))) rfl rfl (fun w => by kernel_rfl)) ?_
                  refine HW.pure (i := 9) hH rfl (by kernel_rfl) (Wants.free rfl) rfl (fun _ => hS19) (Rd.pickT rfl hb17 rfl) ?_
                  exact HW.sub hH (by exact ⟨rfl, rfl, rfl, rfl, rfl, rfl, rfl, rfl, rfl, trivial⟩) (K12 (c2 == (if r28 < 1 then r28 else 1)) w55 hS19 hK (by exact hB) h)
                · have h := h0_J11 hb17
                  refine HW.skip (i := 4) hH rfl (by kernel_rfl) (Skips.on rfl rfl rfl rfl rfl hb17) rfl (fun _ => hS18) ?_
                  refine HW.skip (i := 5) hH rfl (by kernel_rfl) (Skips.on rfl rfl rfl rfl rfl hb17) rfl (fun _ => hS18) ?_
                  refine HW.skip (i := 6) hH rfl (by kernel_rfl) (Skips.on rfl rfl rfl rfl rfl hb17) rfl (fun _ => hS18) ?_
                  refine HW.skip (i := 7) hH rfl (by kernel_rfl) (Skips.on rfl rfl rfl rfl rfl hb17) rfl (fun _ => hS18) ?_
                  refine HW.skip (i := 8) hH rfl (by kernel_rfl) (Skips.on rfl rfl rfl rfl rfl hb17) rfl (fun _ => hS18) ?_
                  refine HW.pure (i := 9) hH rfl (by kernel_rfl) (Wants.free rfl) rfl (fun _ => hS18) (Rd.pickF rfl hb17 rfl) ?_
                  exact HW.sub hH (by exact ⟨rfl, rfl, rfl, rfl, rfl, rfl, rfl, rfl, rfl, trivial⟩) (K12 false w53 hS18 hK (by exact hB) h)
              intro b14 w54 hS20 hK hB h_
              have h := hJ11 b14 w54 h_; clear h_
              refine HW.pure (i := 10) hH rfl (by kernel_rfl) (Wants.free rfl) rfl (fun _ => hS20) (Rd.move (v := .bool b14) rfl) ?_
              obtain ⟨J12, hJ12, h1_J12, h0_J12⟩ := h
              suffices K13 : ∀ (b15 : Bool) (w56 : World), (Boxes w56 [(b4, [.slice l1 l1n l1c], 31), (b6, [.int .i64 c2], 3)]) → XR.Marks w56 [d3, d1] → Boxes w56 [(b2, [u1], 4), (b4, [.slice l1 l1n l1c], 31), (b6, [.int .i64 c2], 3)] → J12 b15 w56 → H 29 #[true, true, true, true, true, true, true, true, true, true, true, true, true, true, true, false, false, false, false, false, false, false, false, false, false, false, false, false, false, false, false, false, false, false, false, false, false, false, false, false, false, false, false, false] [(6, .pointer (some (⟨b2, 0, none⟩ : Addr))), (7, .pointer r3), (10, .pointer r6), (12, .slice next1 next1n next1c), (17, .bool r22), (18, .pointer r23), (20, .pointer r25), (143, .bool b15)] w56 by
                rcases Bool.eq_false_or_eq_true b14 with hb18 | hb18
                · have h := h1_J12 hb18
                  refine HW.pure (i := 11) hH rfl (by kernel_rfl) (Wants.on rfl rfl rfl rfl rfl hb18) rfl (fun _ => hS20) (Rd.move (v := .pointer r6) rfl) ?_
                  refine HW.pure (i := 12) hH rfl (by kernel_rfl) (Wants.on rfl rfl rfl rfl rfl hb18) rfl (fun _ => hS20) (Rd.move (v := .slice r4 r4n r4c) rfl) ?_
                  refine HW.call (i := 13) hH (by kernel_rfl) rfl (Wants.on rfl rfl rfl rfl rfl hb18) rfl (Cl.fn (f := 45) rfl Try.func45 (by kernel_rfl) rfl) h (fun e w57 h_ => ?_)
                  clear h
                  obtain ⟨r29, rfl, h⟩ := h_
                  obtain ⟨hsm24, h⟩ := h
                  replace hB := Boxes.sameS hB hsm24 (by simp)
                  replace hK := XR.Marks.same hK hsm24 (by simp)
                  have hS21 : Boxes w57 [(b4, [.slice l1 l1n l1c], 31), (b6, [.int .i64 c2], 3)] := (hB.sel [1, 2] (by decide) rfl)
                  refine ⟨_, rfl, (fun _ => hS21), ?_⟩
                  refine HW.pure (i := 14) hH rfl (by kernel_rfl) (Wants.free rfl) rfl (fun _ => hS21) (Rd.pickT rfl hb18 rfl) ?_
                  exact HW.sub hH (by exact ⟨rfl, rfl, rfl, rfl, rfl, rfl, rfl, rfl, trivial⟩) (K13 r29 w57 hS21 hK (by exact hB) h)
                · have h := h0_J12 hb18
                  refine HW.skip (i := 11) hH rfl (by kernel_rfl) (Skips.on rfl rfl rfl rfl rfl hb18) rfl (fun _ => hS20) ?_
                  refine HW.skip (i := 12) hH rfl (by kernel_rfl) (Skips.on rfl rfl rfl rfl rfl hb18) rfl (fun _ => hS20) ?_
                  refine HW.skip (i := 13) hH rfl (by kernel_rfl) (Skips.on rfl rfl rfl rfl rfl hb18) rfl (fun _ => hS20) ?_
                  refine HW.pure (i := 14) hH rfl (by kernel_rfl) (Wants.free rfl) rfl (fun _ => hS20) (Rd.pickF rfl hb18 rfl) ?_
                  exact HW.sub hH (by exact ⟨rfl, rfl, rfl, rfl, rfl, rfl, rfl, rfl, trivial⟩) (K13 false w54 hS20 hK (by exact hB) h)
              intro b15 w56 hS22 hK hB h_
              have h := hJ12 b15 w56 h_; clear h_
              refine HW.pure (i := 15) hH rfl (by kernel_rfl) (Wants.free rfl) rfl (fun _ => hS22) (Rd.move (v := .bool b15) rfl) ?_
              obtain ⟨J13, hJ13, h1_J13, h0_J13⟩ := h
              suffices K14 : ∀ (b16 : Bool) (w58 : World), (Boxes w58 [(b4, [.slice l1 l1n l1c], 31), (b6, [.int .i64 c2], 3)]) → XR.Marks w58 [d3, d1] → Boxes w58 [(b2, [u1], 4), (b4, [.slice l1 l1n l1c], 31), (b6, [.int .i64 c2], 3)] → J13 b16 w58 → H 24 #[true, true, true, true, true, true, true, true, true, true, true, true, true, true, true, true, true, true, true, true, false, false, false, false, false, false, false, false, false, false, false, false, false, false, false, false, false, false, false, false, false, false, false, false] [(6, .pointer (some (⟨b2, 0, none⟩ : Addr))), (7, .pointer r3), (10, .pointer r6), (17, .bool r22), (18, .pointer r23), (20, .pointer r25), (148, .bool b16)] w58 by
                rcases Bool.eq_false_or_eq_true b15 with hb19 | hb19
                · have h := h1_J13 hb19
                  refine HW.pure (i := 16) hH rfl (by kernel_rfl) (Wants.on rfl rfl rfl rfl rfl hb19) rfl (fun _ => hS22) (Rd.move (v := .pointer r3) rfl) ?_
                  refine HW.pure (i := 17) hH rfl (by kernel_rfl) (Wants.on rfl rfl rfl rfl rfl hb19) rfl (fun _ => hS22) (Rd.move (v := .slice next1 next1n next1c) rfl) ?_
                  refine HW.call (i := 18) hH (by kernel_rfl) rfl (Wants.on rfl rfl rfl rfl rfl hb19) rfl (Cl.fn (f := 45) rfl Try.func45 (by kernel_rfl) rfl) h (fun e w59 h_ => ?_)
                  clear h
                  obtain ⟨r30, rfl, h⟩ := h_
                  obtain ⟨hsm25, h⟩ := h
                  replace hB := Boxes.sameS hB hsm25 (by simp)
                  replace hK := XR.Marks.same hK hsm25 (by simp)
                  have hS23 : Boxes w59 [(b4, [.slice l1 l1n l1c], 31), (b6, [.int .i64 c2], 3)] := (hB.sel [1, 2] (by decide) rfl)
                  refine ⟨_, rfl, (fun _ => hS23), ?_⟩
                  refine HW.pure (i := 19) hH rfl (by kernel_rfl) (Wants.free rfl) rfl (fun _ => hS23) (Rd.pickT rfl hb19 rfl) ?_
                  exact HW.sub hH (by exact ⟨rfl, rfl, rfl, rfl, rfl, rfl, rfl, trivial⟩) (K14 r30 w59 hS23 hK (by exact hB) h)
                · have h := h0_J13 hb19
                  refine HW.skip (i := 16) hH rfl (by kernel_rfl) (Skips.on rfl rfl rfl rfl rfl hb19) rfl (fun _ => hS22) ?_
                  refine HW.skip (i := 17) hH rfl (by kernel_rfl) (Skips.on rfl rfl rfl rfl rfl hb19) rfl (fun _ => hS22) ?_
                  refine HW.skip (i := 18) hH rfl (by kernel_rfl) (Skips.on rfl rfl rfl rfl rfl hb19) rfl (fun _ => hS22) ?_
                  refine HW.pure (i := 19) hH rfl (by kernel_rfl) (Wants.free rfl) rfl (fun _ => hS22) (Rd.pickF rfl hb19 rfl) ?_
                  exact HW.sub hH (by exact ⟨rfl, rfl, rfl, rfl, rfl, rfl, rfl, trivial⟩) (K14 false w56 hS22 hK (by exact hB) h)
              intro b16 w58 hS24 hK hB h_
              have h := hJ13 b16 w58 h_; clear h_
              refine HW.pure (i := 20) hH rfl (by kernel_rfl) (Wants.free rfl) rfl (fun _ => hS24) (Rd.move (v := .bool b16) rfl) ?_
              obtain ⟨J14, hJ14, h1_J14, h0_J14⟩ := h
              suffices K15 : ∀ (b17 : Bool) (w60 : World), (Boxes w60 [(b4, [.slice l1 l1n l1c], 31), (b6, [.int .i64 c2], 3)]) → XR.Marks w60 [d3, d1] → Boxes w60 [(b2, [u1], 4), (b4, [.slice l1 l1n l1c], 31), (b6, [.int .i64 c2], 3)] → J14 b17 w60 → H 17 #[true, true, true, true, true, true, true, true, true, true, true, true, true, true, true, true, true, true, true, true, true, true, true, true, true, true, true, false, false, false, false, false, false, false, false, false, false, false, false, false, false, false, false, false] [(6, .pointer (some (⟨b2, 0, none⟩ : Addr))), (7, .pointer r3), (10, .pointer r6), (17, .bool r22), (18, .pointer r23), (20, .pointer r25), (155, .bool b17)] w60 by
                rcases Bool.eq_false_or_eq_true b16 with hb20 | hb20
                · have h := h1_J14 hb20
                  refine HW.pure (i := 21) hH rfl (by kernel_rfl) (Wants.on rfl rfl rfl rfl rfl hb20) rfl (fun _ => hS24) (Rd.move (v := .pointer r3) rfl) ?_
                  refine HW.pure (i := 22) hH rfl (by kernel_rfl) (Wants.on rfl rfl rfl rfl rfl hb20) rfl (fun _ => hS24) (Rd.move (v := .pointer r6) rfl) ?_
                  refine HW.pure (i := 24) hH rfl (by kernel_rfl) (Wants.on rfl rfl rfl rfl rfl hb20) rfl (fun _ => hS24) (Rd.move (v := .bool r22) rfl) ?_
                  refine HW.call (i := 23) hH (by kernel_rfl) rfl (Wants.on rfl rfl rfl rfl rfl hb20) rfl (Cl.fn (f := 53) rfl Try.func53 (by kernel_rfl) rfl) h (fun e w61 h_ => ?_)
                  clear h
                  obtain ⟨r31, rfl, h⟩ := h_
                  obtain ⟨hsm26, h⟩ := h
                  replace hB := Boxes.sameS hB hsm26 (by simp)
                  replace hK := XR.Marks.same hK hsm26 (by simp)
                  have hS25 : Boxes w61 [(b4, [.slice l1 l1n l1c], 31), (b6, [.int .i64 c2], 3)] := (hB.sel [1, 2] (by decide) rfl)
                  refine ⟨_, rfl, (fun _ => hS25), ?_⟩
                  refine HW.pure (i := 25) hH rfl (by kernel_rfl) (Wants.on rfl rfl rfl rfl rfl hb20) rfl (fun _ => hS25) (Rd.bin (v := .bool (r31 == r22)) rfl rfl (fun w => by kernel_rfl)) ?_
                  refine HW.pure (i := 26) hH rfl (by kernel_rfl) (Wants.free rfl) rfl (fun _ => hS25) (Rd.pickT rfl hb20 rfl) ?_
                  exact HW.sub hH (by exact ⟨rfl, rfl, rfl, rfl, rfl, rfl, rfl, trivial⟩) (K15 (r31 == r22) w61 hS25 hK (by exact hB) h)
                · have h := h0_J14 hb20
                  refine HW.skip (i := 21) hH rfl (by kernel_rfl) (Skips.on rfl rfl rfl rfl rfl hb20) rfl (fun _ => hS24) ?_
                  refine HW.skip (i := 22) hH rfl (by kernel_rfl) (Skips.on rfl rfl rfl rfl rfl hb20) rfl (fun _ => hS24) ?_
                  refine HW.skip (i := 23) hH rfl (by kernel_rfl) (Skips.on rfl rfl rfl rfl rfl hb20) rfl (fun _ => hS24) ?_
                  refine HW.skip (i := 24) hH rfl (by kernel_rfl) (Skips.on rfl rfl rfl rfl rfl hb20) rfl (fun _ => hS24) ?_
                  refine HW.skip (i := 25) hH rfl (by kernel_rfl) (Skips.on rfl rfl rfl rfl rfl hb20) rfl (fun _ => hS24) ?_
                  refine HW.pure (i := 26) hH rfl (by kernel_rfl) (Wants.free rfl) rfl (fun _ => hS24) (Rd.pickF rfl hb20 rfl) ?_
                  exact HW.sub hH (by exact ⟨rfl, rfl, rfl, rfl, rfl, rfl, rfl, trivial⟩) (K15 false w58 hS24 hK (by exact hB) h)
              intro b17 w60 hS26 hK hB h_
              have h := hJ14 b17 w60 h_; clear h_
              refine HW.pure (i := 27) hH rfl (by kernel_rfl) (Wants.free rfl) rfl (fun _ => hS26) (Rd.move (v := .bool b17) rfl) ?_
              obtain ⟨J15, hJ15, h1_J15, h0_J15⟩ := h
              suffices K16 : ∀ (b18 : Bool) (w62 : World), (Boxes w62 [(b4, [.slice l1 l1n l1c], 31), (b6, [.int .i64 c2], 3)]) → XR.Marks w62 [d3, d1] → Boxes w62 [(b2, [u1], 4), (b4, [.slice l1 l1n l1c], 31), (b6, [.int .i64 c2], 3)] → J15 b18 w62 → H 10 #[true, true, true, true, true, true, true, true, true, true, true, true, true, true, true, true, true, true, true, true, true, true, true, true, true, true, true, true, true, true, true, true, true, true, false, false, false, false, false, false, false, false, false, false] [(6, .pointer (some (⟨b2, 0, none⟩ : Addr))), (18, .pointer r23), (20, .pointer r25), (162, .bool b18)] w62 by
                rcases Bool.eq_false_or_eq_true b17 with hb21 | hb21
                · have h := h1_J15 hb21
                  refine HW.pure (i := 28) hH rfl (by kernel_rfl) (Wants.on rfl rfl rfl rfl rfl hb21) rfl (fun _ => hS26) (Rd.move (v := .pointer r6) rfl) ?_
                  refine HW.pure (i := 29) hH rfl (by kernel_rfl) (Wants.on rfl rfl rfl rfl rfl hb21) rfl (fun _ => hS26) (Rd.move (v := .pointer r3) rfl) ?_
                  refine HW.pure (i := 31) hH rfl (by kernel_rfl) (Wants.on rfl rfl rfl rfl rfl hb21) rfl (fun _ => hS26) (Rd.move (v := .bool r22) rfl) ?_
                  refine HW.call (i := 30) hH (by kernel_rfl) rfl (Wants.on rfl rfl rfl rfl rfl hb21) rfl (Cl.fn (f := 53) rfl Try.func53 (by kernel_rfl) rfl) h (fun e w63 h_ => ?_)
                  clear h
                  obtain ⟨r32, rfl, h⟩ := h_
                  obtain ⟨hsm27, h⟩ := h
                  replace hB := Boxes.sameS hB hsm27 (by simp)
                  replace hK := XR.Marks.same hK hsm27 (by simp)
                  have hS27 : Boxes w63 [(b4, [.slice l1 l1n l1c], 31), (b6, [.int .i64 c2], 3)] := (hB.sel [1, 2] (by decide) rfl)
                  refine ⟨_, rfl, (fun _ => hS27), ?_⟩
                  refine HW.pure (i := 32) hH rfl (by kernel_rfl) (Wants.on rfl rfl rfl rfl rfl hb21) rfl (fun _ => hS27) (Rd.bin (v := .bool (r32 == r22)) rfl rfl (fun w => by kernel_rfl)) ?_
                  refine HW.pure (i := 33) hH rfl (by kernel_rfl) (Wants.free rfl) rfl (fun _ => hS27) (Rd.pickT rfl hb21 rfl) ?_
                  exact HW.sub hH (by exact ⟨rfl, rfl, rfl, rfl, trivial⟩) (K16 (r32 == r22) w63 hS27 hK (by exact hB) h)
                · have h := h0_J15 hb21
                  refine HW.skip (i := 28) hH rfl (by kernel_rfl) (Skips.on rfl rfl rfl rfl rfl hb21) rfl (fun _ => hS26) ?_
                  refine HW.skip (i := 29) hH rfl (by kernel_rfl) (Skips.on rfl rfl rfl rfl rfl hb21) rfl (fun _ => hS26) ?_
                  refine HW.skip (i := 30) hH rfl (by kernel_rfl) (Skips.on rfl rfl rfl rfl rfl hb21) rfl (fun _ => hS26) ?_
                  refine HW.skip (i := 31) hH rfl (by kernel_rfl) (Skips.on rfl rfl rfl rfl rfl hb21) rfl (fun _ => hS26) ?_
                  refine HW.skip (i := 32) hH rfl (by kernel_rfl) (Skips.on rfl rfl rfl rfl rfl hb21) rfl (fun _ => hS26) ?_
                  refine HW.pure (i := 33) hH rfl (by kernel_rfl) (Wants.free rfl) rfl (fun _ => hS26) (Rd.pickF rfl hb21 rfl) ?_
                  exact HW.sub hH (by exact ⟨rfl, rfl, rfl, rfl, trivial⟩) (K16 false w60 hS26 hK (by exact hB) h)
              intro b18 w62 hS28 hK hB h_
              have h := hJ15 b18 w62 h_; clear h_
              refine HW.pure (i := 34) hH rfl (by kernel_rfl) (Wants.free rfl) rfl (fun _ => hS28) (Rd.move (v := .bool b18) rfl) ?_
              obtain ⟨J16, hJ16, h1_J16, h0_J16⟩ := h
              suffices K17 : ∀ (b19 : Bool) (w64 : World), (Boxes w64 [(b4, [.slice l1 l1n l1c], 31), (b6, [.int .i64 c2], 3)]) → XR.Marks w64 [d3, d1] → Boxes w64 [(b2, [u1], 4), (b4, [.slice l1 l1n l1c], 31), (b6, [.int .i64 c2], 3)] → J16 b19 w64 → H 4 #[true, true, true, true, true, true, true, true, true, true, true, true, true, true, true, true, true, true, true, true, true, true, true, true, true, true, true, true, true, true, true, true, true, true, true, true, true, true, true, true, false, false, false, false] [(6, .pointer (some (⟨b2, 0, none⟩ : Addr))), (168, .bool b19)] w64 by
                rcases Bool.eq_false_or_eq_true b18 with hb22 | hb22
                · have h := h1_J16 hb22
                  refine HW.pure (i := 35) hH rfl (by kernel_rfl) (Wants.on rfl rfl rfl rfl rfl hb22) rfl (fun _ => hS28) (Rd.move (v := .pointer r23) rfl) ?_
                  refine HW.pure (i := 36) hH rfl (by kernel_rfl) (Wants.on rfl rfl rfl rfl rfl hb22) rfl (fun _ => hS28) (Rd.move (v := .pointer r25) rfl) ?_
                  refine HW.call (i := 37) hH (by kernel_rfl) rfl (Wants.on rfl rfl rfl rfl rfl hb22) rfl (Cl.fn (f := 53) rfl Try.func53 (by kernel_rfl) rfl) h (fun e w65 h_ => ?_)
                  clear h
                  obtain ⟨r33, rfl, h⟩ := h_
                  obtain ⟨hsm28, h⟩ := h
                  replace hB := Boxes.sameS hB hsm28 (by simp)
                  replace hK := XR.Marks.same hK hsm28 (by simp)
                  have hS29 : Boxes w65 [(b4, [.slice l1 l1n l1c], 31), (b6, [.int .i64 c2], 3)] := (hB.sel [1, 2] (by decide) rfl)
                  refine ⟨_, rfl, (fun _ => hS29), ?_⟩
                  refine HW.pure (i := 38) hH rfl (by kernel_rfl) (Wants.on rfl rfl rfl rfl rfl hb22) rfl (fun _ => hS29) (Rd.un (v := .bool (!r33)) rfl (fun _ => by kernel_rfl)) ?_
                  refine HW.pure (i := 39) hH rfl (by kernel_rfl) (Wants.free rfl) rfl (fun _ => hS29) (Rd.pickT rfl hb22 rfl) ?_
                  exact HW.sub hH (by exact ⟨rfl, rfl, trivial⟩) (K17 (!r33) w65 hS29 hK (by exact hB) h)
                · have h := h0_J16 hb22
                  refine HW.skip (i := 35) hH rfl (by kernel_rfl) (Skips.on rfl rfl rfl rfl rfl hb22) rfl (fun _ => hS28) ?_
                  refine HW.skip (i := 36) hH rfl (by kernel_rfl) (Skips.on rfl rfl rfl rfl rfl hb22) rfl (fun _ => hS28) ?_
                  refine HW.skip (i := 37) hH rfl (by kernel_rfl) (Skips.on rfl rfl rfl rfl rfl hb22) rfl (fun _ => hS28) ?_
                  refine HW.skip (i := 38) hH rfl (by kernel_rfl) (Skips.on rfl rfl rfl rfl rfl hb22) rfl (fun _ => hS28) ?_
                  refine HW.pure (i := 39) hH rfl (by kernel_rfl) (Wants.free rfl) rfl (fun _ => hS28) (Rd.pickF rfl hb22 rfl) ?_
                  exact HW.sub hH (by exact ⟨rfl, rfl, trivial⟩) (K17 false w62 hS28 hK (by exact hB) h)
              intro b19 w64 hS30 hK hB h_
              have h := hJ16 b19 w64 h_; clear h_
              refine HW.pure (i := 40) hH rfl (by kernel_rfl) (Wants.free rfl) rfl (fun _ => hS30) (Rd.move (v := .bool b19) rfl) ?_
              obtain ⟨J17, hJ17, h1_J17, h0_J17⟩ := h
              suffices K18 : ∀ (b20 : Bool) (w66 : World), (Boxes w66 [(b4, [.slice l1 l1n l1c], 31), (b6, [.int .i64 c2], 3)]) → XR.Marks w66 [d3, d1] → Boxes w66 [(b2, [u1], 4), (b4, [.slice l1 l1n l1c], 31), (b6, [.int .i64 c2], 3)] → J17 b20 w66 → H 1 #[true, true, true, true, true, true, true, true, true, true, true, true, true, true, true, true, true, true, true, true, true, true, true, true, true, true, true, true, true, true, true, true, true, true, true, true, true, true, true, true, true, true, true, false] [(6, .pointer (some (⟨b2, 0, none⟩ : Addr))), (171, .bool b20)] w66 by
                rcases Bool.eq_false_or_eq_true b19 with hb23 | hb23
                · have h := h1_J17 hb23
                  refine HW.call (i := 41) hH (by kernel_rfl) rfl (Wants.on rfl rfl rfl rfl rfl hb23) rfl (Cl.fn (f := 40) rfl Try.func40 (by kernel_rfl) rfl) h (fun e w67 h_ => ?_)
                  clear h
                  obtain ⟨r34, rfl, h⟩ := h_
                  obtain ⟨hsm29, h⟩ := h
                  replace hB := Boxes.sameS hB hsm29 (by simp)
                  replace hK := XR.Marks.same hK hsm29 (by simp)
                  have hS31 : Boxes w67 [(b4, [.slice l1 l1n l1c], 31), (b6, [.int .i64 c2], 3)] := (hB.sel [1, 2] (by decide) rfl)
                  refine ⟨_, rfl, (fun _ => hS31), ?_⟩
                  refine HW.pure (i := 42) hH rfl (by kernel_rfl) (Wants.free rfl) rfl (fun _ => hS31) (Rd.pickT rfl hb23 rfl) ?_
                  exact HW.sub hH (by exact ⟨rfl, rfl, trivial⟩) (K18 r34 w67 hS31 hK (by exact hB) h)
                · have h := h0_J17 hb23
                  refine HW.skip (i := 41) hH rfl (by kernel_rfl) (Skips.on rfl rfl rfl rfl rfl hb23) rfl (fun _ => hS30) ?_
                  refine HW.pure (i := 42) hH rfl (by kernel_rfl) (Wants.free rfl) rfl (fun _ => hS30) (Rd.pickF rfl hb23 rfl) ?_
                  exact HW.sub hH (by exact ⟨rfl, rfl, trivial⟩) (K18 false w64 hS30 hK (by exact hB) h)
              intro b20 w66 hS32 hK hB h_
              have h := hJ17 b20 w66 h_; clear h_
              obtain ⟨w68, hw_w68⟩ : ∃ x, x = World.setCell w66 (⟨b2, 0, none⟩ : Addr) (.bool b20) := ⟨_, rfl⟩
              refine HW.eff (i := 43) hH (by kernel_rfl) rfl (Wants.free rfl) rfl (stE hw_w68 (Ef.st rfl rfl rfl (by kernel_rfl) (box_cell (v := u1) (hB.at (i := 0) rfl) rfl) (free_of (hB.at (i := 0) rfl) 0))) (fun hc => by cases hc) ?_
              replace hK := XR.Marks.set hK (hB.at (i := 0) rfl) (sil_c1 hw_w68)
              replace hB : Boxes w68 [(b2, [.bool b20], 4), (b4, [.slice l1 l1n l1c], 31), (b6, [.int .i64 c2], 3)] := Boxes.store1  (i := 0) (o := 0) hB rfl rfl rfl rfl hw_w68
              have hc_w68 : Chg [b2] w66 w68 := sil_more (Chg.refl [] w66) (sil_c1 hw_w68)
              refine HW.done hH (by kernel_rfl) ?_
              refine NW.then ?_
              replace h := h  w68  hc_w68
              refine CW.ret ?_
              exact XR.resM (ms := [d3, d1]) (vs := [.bool b20]) hK rfl (fun w_ hc_ => ⟨(ResOK.c rfl (lv1 (by kernel_rfl) (box_cell (Boxes.at (i := 0) (hB.marks hK hc_) rfl) rfl)) ResOK.nil), b20, rfl, h w_ hc_⟩)
        · intro d4 c_ O6 xs4 w70 hO_ hd_ hdh_ hS_ hi_
          rcases hi_ with ⟨rfl, c1, hi_, hB⟩
          · have h := hso_X1 d4 O6 xs4 c1 w70 hO_ hd_ hS_ hi_
            have hK := XR.Marks.cons (XR.Marks.nil _) hdh_ (by simp)
            refine CW.ret ?_
            refine RW.block ?_
            refine RW.then ?_
            exact XR.resM (ms := [d4]) (vs := [.bool c1]) hK rfl (fun w_ hc_ => ⟨(ResOK.c rfl (lv1 (by kernel_rfl) (box_cell (Boxes.at (i := 0) (hB.marks hK hc_) rfl) rfl)) ResOK.nil), c1, rfl, h w_ hc_⟩)
      · skip
        refine CW.seq ?_
        refine CW.region fun L hL => ?_
        refine LW.rd hL rfl (Wants.free rfl) rfl (Rd.fa (v := .pointer (some (⟨b1, 0, none⟩ : Addr))) rfl (fun _ => by kernel_rfl)) ?_
        refine LW.rd hL rfl (Wants.free rfl) rfl (Rd.ld (v := .int .i64 x1) rfl (by kernel_rfl) (eqs (box_cell (hB.at (i := 1) rfl) rfl))) ?_
        refine LW.rd hL rfl (Wants.free rfl) rfl (Rd.bin (v := .bool (x1 == 0)) rfl rfl (fun w => by kernel_rfl)) ?_
        refine LW.nil hL rfl ?_
        refine NW.then ?_
        refine CW.cond rfl (fun hb24 => ?_) (fun hb24 => ?_)
        · replace h := h.1 hb24
          refine CW.seq ?_
          refine CW.region fun L hL => ?_
          refine LW.rd hL rfl (Wants.free rfl) rfl (Rd.move (v := .slice r4 r4n r4c) rfl) ?_
          refine LW.rd hL rfl (Wants.free rfl) rfl (Rd.fa (v := .pointer (some (⟨b1, 1, none⟩ : Addr))) rfl (fun _ => by kernel_rfl)) ?_
          refine LW.rd hL rfl (Wants.free rfl) rfl (Rd.ld (v := .int .i64 x2) rfl (by kernel_rfl) (eqs (box_cell (hB.at (i := 1) rfl) rfl))) ?_
          refine LW.rd hL rfl (Wants.free rfl) rfl (Rd.fa (v := .pointer (some (⟨b1, 3, none⟩ : Addr))) rfl (fun _ => by kernel_rfl)) ?_
          refine LW.rd hL rfl (Wants.free rfl) rfl (Rd.ld (v := .int .u32 x4) rfl (by kernel_rfl) (eqs (box_cell (hB.at (i := 1) rfl) rfl))) ?_
          refine LW.call hL rfl (Wants.free rfl) rfl (Cl.fn (f := 59) rfl Try.func59 (by kernel_rfl) rfl) h (fun e w72 h_ => ?_)
          clear h
          obtain ⟨r35, r35n, r35c, r36, rfl, h⟩ := h_
          obtain ⟨hsm30, h⟩ := h
          replace hB := Boxes.sameS hB hsm30 (by simp)
          refine ⟨_, rfl, ?_⟩
          refine LW.rd hL rfl (Wants.free rfl) rfl (Rd.move (v := .tuple #[.slice r35 r35n r35c, .int .i64 r36]) rfl) ?_
          refine LW.rd hL rfl (Wants.free rfl) rfl (Rd.extract (v := .slice r35 r35n r35c) rfl rfl) ?_
          refine LW.rd hL rfl (Wants.free rfl) rfl (Rd.extract (v := .int .i64 r36) rfl rfl) ?_
          refine LW.rd hL rfl (Wants.free rfl) rfl (Rd.assign (v := .slice r35 r35n r35c) rfl) ?_
          refine LW.nil hL rfl ?_
          refine NW.then ?_
          refine CW.region fun L hL => ?_
          refine LW.rd hL rfl (Wants.free rfl) rfl (Rd.move (v := .pointer r3) rfl) ?_
          refine LW.rd hL rfl (Wants.free rfl) rfl (Rd.fa (v := .pointer (some (⟨b1, 1, none⟩ : Addr))) rfl (fun _ => by kernel_rfl)) ?_
          refine LW.rd hL rfl (Wants.free rfl) rfl (Rd.ld (v := .int .i64 x2) rfl (by kernel_rfl) (eqs (box_cell (hB.at (i := 1) rfl) rfl))) ?_
          refine LW.rd hL rfl (Wants.free rfl) rfl (Rd.fa (v := .pointer (some (⟨b1, 3, none⟩ : Addr))) rfl (fun _ => by kernel_rfl)) ?_
          refine LW.rd hL rfl (Wants.free rfl) rfl (Rd.ld (v := .int .u32 x4) rfl (by kernel_rfl) (eqs (box_cell (hB.at (i := 1) rfl) rfl))) ?_
          refine LW.call hL rfl (Wants.free rfl) rfl (Cl.fn (f := 52) rfl Try.func52 (by kernel_rfl) rfl) h (fun e w73 h_ => ?_)
          clear h
          obtain ⟨r37, rfl, h⟩ := h_
          obtain ⟨hsm31, h⟩ := h
          replace hB := Boxes.sameS (hB.sel [0] (by decide) rfl) hsm31 (by simp)
          refine ⟨_, rfl, ?_⟩
          refine LW.nil hL rfl ?_
          exact NW.cut (S := (Option Addr) × Nat × Nat) (Ek := fun s1 => [(0, .int .i64 pages1), (6, .pointer (some (⟨b2, 0, none⟩ : Addr))), (7, .pointer r3), (8, .slice r4 r4n r4c), (10, .pointer r6), (11, r7), (12, .slice s1.1 s1.2.1 s1.2.2)]) (r35, r35n, r35c) (by exact ⟨rfl, rfl, rfl, rfl, rfl, rfl, rfl, trivial⟩) ⟨h, hB⟩
        · replace h := h.2 hb24
          refine CW.seq ?_
          refine CW.region fun L hL => ?_
          refine LW.rd hL rfl (Wants.free rfl) rfl (Rd.move (v := .slice r4 r4n r4c) rfl) ?_
          refine LW.rd hL rfl (Wants.free rfl) rfl (Rd.fa (v := .pointer (some (⟨b1, 1, none⟩ : Addr))) rfl (fun _ => by kernel_rfl)) ?_
          refine LW.rd hL rfl (Wants.free rfl) rfl (Rd.ld (v := .int .i64 x2) rfl (by kernel_rfl) (eqs (box_cell (hB.at (i := 1) rfl) rfl))) ?_
          refine LW.rd hL rfl (Wants.free rfl) rfl (Rd.fa (v := .pointer (some (⟨b1, 2, none⟩ : Addr))) rfl (fun _ => by kernel_rfl)) ?_
          refine LW.rd hL rfl (Wants.free rfl) rfl (Rd.ld (v := .int .i64 x3) rfl (by kernel_rfl) (eqs (box_cell (hB.at (i := 1) rfl) rfl))) ?_
          refine LW.rd hL rfl (Wants.free rfl) rfl (Rd.fa (v := .pointer (some (⟨b1, 3, none⟩ : Addr))) rfl (fun _ => by kernel_rfl)) ?_
          refine LW.rd hL rfl (Wants.free rfl) rfl (Rd.ld (v := .int .u32 x4) rfl (by kernel_rfl) (eqs (box_cell (hB.at (i := 1) rfl) rfl))) ?_
          refine LW.call hL rfl (Wants.free rfl) rfl (Cl.fn (f := 48) rfl Try.func48 (by kernel_rfl) rfl) h (fun e w74 h_ => ?_)
          clear h
          obtain ⟨r38, r38n, r38c, r39, rfl, h⟩ := h_
          obtain ⟨hsm32, h⟩ := h
          replace hB := Boxes.sameS hB hsm32 (by simp)
          refine ⟨_, rfl, ?_⟩
          refine LW.rd hL rfl (Wants.free rfl) rfl (Rd.move (v := .tuple #[.slice r38 r38n r38c, .int .i64 r39]) rfl) ?_
          refine LW.rd hL rfl (Wants.free rfl) rfl (Rd.extract (v := .slice r38 r38n r38c) rfl rfl) ?_
          refine LW.rd hL rfl (Wants.free rfl) rfl (Rd.extract (v := .int .i64 r39) rfl rfl) ?_
          refine LW.rd hL rfl (Wants.free rfl) rfl (Rd.assign (v := .slice r38 r38n r38c) rfl) ?_
          refine LW.nil hL rfl ?_
          refine NW.then ?_
          refine CW.region fun L hL => ?_
          refine LW.rd hL rfl (Wants.free rfl) rfl (Rd.move (v := .pointer r3) rfl) ?_
          refine LW.rd hL rfl (Wants.free rfl) rfl (Rd.fa (v := .pointer (some (⟨b1, 1, none⟩ : Addr))) rfl (fun _ => by kernel_rfl)) ?_
          refine LW.rd hL rfl (Wants.free rfl) rfl (Rd.ld (v := .int .i64 x2) rfl (by kernel_rfl) (eqs (box_cell (hB.at (i := 1) rfl) rfl))) ?_
          refine LW.rd hL rfl (Wants.free rfl) rfl (Rd.fa (v := .pointer (some (⟨b1, 2, none⟩ : Addr))) rfl (fun _ => by kernel_rfl)) ?_
          refine LW.rd hL rfl (Wants.free rfl) rfl (Rd.ld (v := .int .i64 x3) rfl (by kernel_rfl) (eqs (box_cell (hB.at (i := 1) rfl) rfl))) ?_
          refine LW.rd hL rfl (Wants.free rfl) rfl (Rd.fa (v := .pointer (some (⟨b1, 3, none⟩ : Addr))) rfl (fun _ => by kernel_rfl)) ?_
          refine LW.rd hL rfl (Wants.free rfl) rfl (Rd.ld (v := .int .u32 x4) rfl (by kernel_rfl) (eqs (box_cell (hB.at (i := 1) rfl) rfl))) ?_
          refine LW.call hL rfl (Wants.free rfl) rfl (Cl.fn (f := 49) rfl Try.func49 (by kernel_rfl) rfl) h (fun e w75 h_ => ?_)
          clear h
          obtain ⟨r40, rfl, h⟩ := h_
          obtain ⟨hsm33, h⟩ := h
          replace hB := Boxes.sameS (hB.sel [0] (by decide) rfl) hsm33 (by simp)
          refine ⟨_, rfl, ?_⟩
          refine LW.nil hL rfl ?_
          exact NW.cut (S := (Option Addr) × Nat × Nat) (Ek := fun s1 => [(0, .int .i64 pages1), (6, .pointer (some (⟨b2, 0, none⟩ : Addr))), (7, .pointer r3), (8, .slice r4 r4n r4c), (10, .pointer r6), (11, r7), (12, .slice s1.1 s1.2.1 s1.2.2)]) (r38, r38n, r38c) (by exact ⟨rfl, rfl, rfl, rfl, rfl, rfl, rfl, trivial⟩) ⟨h, hB⟩

end Go.Proofs.Ytkfncibmfcdokaa
