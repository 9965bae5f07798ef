import Derived.Test.YtkfncibmfcdokaaProg
import Derived.Test.YtkfncibmfcdokaaXEq
import Derived.Test.YtkfncibmfcdokaaXLoc
import Derived.Test.YtkfncibmfcdokaaXRange
set_option linter.unusedVariables false
set_option linter.unusedSimpArgs false
namespace Go.Proofs.Ytkfncibmfcdokaa
open Go Go.X

def z126_XHfew : List Value := List.replicate 33 (Value.bool false)
/- pomander/pomanderlaw03.ShadowFew -/
def W_pomanderlaw03_ShadowFew (pages1 : Int) (script1 : Option Addr) (script1n : Nat) (script1c : Nat) (at1 : Int) (set1 : Int) (w : World) (R : Bool → World → Prop) : Prop :=
  ∀ (b2 b1 : Nat) (w2 : World), (w.heap.size ≤ b2 ∧ b2 < w2.heap.size) → (w.heap.size ≤ b1 ∧ b1 < w2.heap.size) → Chg [] w w2 → (∃ J1 : Bool → World → Prop, (∀ (b3 : Bool) (w3 : World), J1 b3 w3 → ((b3 || decide ((script1n : Int) > 40)) = true → Calls Try.prog 40 #[] w3 fun e w4 => ∃ (r2 : Bool), e = .returned (.bool r2) ∧ (Same w3 w4 [b2, b1] ∧ (∀ (w5 : World), Chg [b2] w4 w5 → (R r2 w5)))) ∧ ((b3 || decide ((script1n : Int) > 40)) = false → Calls Try.prog 51 #[.int .i64 pages1] w3 fun e w6 => ∃ (r3 : Option Addr) (r4 : Int), e = .returned (.tuple #[.pointer r3, .int .i64 r4]) ∧ (Same w3 w6 [b2, b1] ∧ (∃ (I1 : Int → World → Prop) (m1 : Int → World → Nat), I1 0 w6 ∧ ∀ (i1 : Int) (w7 : World), I1 i1 w7 → ((decide (i1 < (script1n : Int))) = true → ∃ J2 : World → Prop, (∀ (w8 : World), J2 w8 → (I1 (IntKind.wrap .i64 (i1 + 1)) w8 ∧ m1 (IntKind.wrap .i64 (i1 + 1)) w8 < m1 i1 w7)) ∧ (∃ a1 : Addr, script1 = some a1 ∧ (0 : Int) ≤ i1 ∧ i1 < (script1n : Int) ∧ (∃ (t1 : Int), w7.cell? (a1.add (Int.toNat i1 * 4)) = some (.int .i64 t1) ∧ (((t1 == 0) = true → ∀ (w9 : World), Chg [] w7 w9 → (∃ (t2 : Int), w9.cell? ((a1.add (Int.toNat i1 * 4)).add 1) = some (.int .i64 t2) ∧ (∃ (t3 : Int), w9.cell? ((a1.add (Int.toNat i1 * 4)).add 3) = some (.int .u32 t3) ∧ (Calls Try.prog 52 #[.pointer r3, .int .i64 t2, .int .u32 t3] w9 fun e w10 => ∃ (r5 : Int), e = .returned (.int .i64 r5) ∧ (Same w9 w10 [b1, b2] ∧ (J2 w10)))))) ∧ ((t1 == 0) = false → ∀ (w11 : World), Chg [] w7 w11 → (∃ (t4 : Int), w11.cell? ((a1.add (Int.toNat i1 * 4)).add 1) = some (.int .i64 t4) ∧ (∃ (t5 : Int), w11.cell? ((a1.add (Int.toNat i1 * 4)).add 2) = some (.int .i64 t5) ∧ (∃ (t6 : Int), w11.cell? ((a1.add (Int.toNat i1 * 4)).add 3) = some (.int .u32 t6) ∧ (Calls Try.prog 49 #[.pointer r3, .int .i64 t4, .int .i64 t5, .int .u32 t6] w11 fun e w12 => ∃ (r6 : Int), e = .returned (.int .i64 r6) ∧ (Same w11 w12 [b1, b2] ∧ (J2 w12))))))))))) ∧ ((decide (i1 < (script1n : Int))) = false → Calls Try.prog 52 #[.pointer r3, .int .i64 at1, .int .u32 set1] w7 fun e w13 => ∃ (r7 : Int), e = .returned (.int .i64 r7) ∧ (Same w7 w13 [b1, b2] ∧ (Calls Try.prog 42 #[.pointer r3, .int .i64 at1] w13 fun e w14 => ∃ (r8 : Int) (r9 : Int), e = .returned (.tuple #[.int .u32 r8, .int .i64 r9]) ∧ (Same w13 w14 [b1, b2] ∧ (Calls Try.prog 44 #[.int .i64 r7] w14 fun e w15 => ∃ (r10 : Int), e = .returned (.int .i64 r10) ∧ (Same w14 w15 [b1, b2] ∧ (∃ J3 : Bool → World → Prop, (∀ (b4 : Bool) (w16 : World), J3 b4 w16 → (b4 = true → ∀ (w19 : World), Chg [b2] w16 w19 → (R false w19)) ∧ (b4 = false → ∀ b6 : Nat, b6 = World.size w16 → ∀ w20 : World, w20 = World.alloc w16 (.cells (z126_XHfew).toArray 126) → (∀ (b7 : Nat) (w22 : World), (w20.heap.size ≤ b7 ∧ b7 < w22.heap.size) → Chg [] w20 w22 → (Calls Try.prog 50 #[.pointer r3] w22 fun e w23 => ∃ (r12 : Value), e = .returned (r12) ∧ (Same w22 w23 [b7, b1, b2] ∧ (∃ (t7 : Bool), (∀ w : World, ((do eqGuard .eql 111 (.tmp 105) (.const (.nilFunc)) (r12) (.nilFunc); binOp .eql 111 (r12) (.nilFunc) : Sem Value)).run Try.prog w = .ok (.bool t7) w) ∧ ((t7 = true → ∀ (w24 : World), Chg [b2] w23 w24 → (R false w24)) ∧ (t7 = false → Calls Try.prog 50 #[.pointer r3] w23 fun e w25 => ∃ (r13 : Value), e = .returned (r13) ∧ (Same w23 w25 [b7, b1, b2] ∧ (∃ (S1 Sp1 : List (Int × Int) → Prop) (keep1 : List Nat), XR.IsFn Try.prog r13 ∧ XR.Iterates Try.prog r13 (fun x : Int × Int => #[.int .i64 x.1, .int .u32 x.2]) S1 Sp1 keep1 w25 ∧ (∀ i_ ∈ keep1, i_ < w25.heap.size) ∧ ∃ (I2 : Int → List Nat → List (Int × Int) → World → Prop) (X1 : Bool → Int → List Nat → List (Int × Int) → World → Prop), (∀ (c1 : Int) (pre_ : List (Int × Int)), XR.Stab w25 (fun O_ w_ => I2 c1 O_ pre_ w_)) ∧ (∀ (c2 : Bool) (c3 : Int) (pre_ : List (Int × Int)), XR.Stab w25 (fun O_ w_ => X1 c2 c3 O_ pre_ w_)) ∧ (∀ (O1 : List Nat) (w26 : World), Chg [] w25 w26 → XR.InO w25 O1 w26 → I2 0 O1 ([]) w26) ∧ (∀ (l1 : Nat) (O1 : List Nat) (pre1 : List (Int × Int)) (x1 : Int) (x2 : Int) (c1 : Int) (w26 : World), XR.InO w25 O1 w26 → l1 ∈ O1 → Sp1 (pre1 ++ [(x1, x2)]) → I2 c1 O1 pre1 w26 → (∀ (w27 : World), Chg [l1] w26 w27 → (∃ J5 : Bool → World → Prop, (∀ (b8 : Bool) (w28 : World), J5 b8 w28 → ((b8 || x2 == 0) = true → ∀ (w29 : World), Chg [b2] w28 w29 → ((w27.heap.size ≤ w29.heap.size ∧ X1 false c1 O1 (pre1 ++ [(x1, x2)]) w29 ∧ Same w27 w29 (keep1 ++ O1)))) ∧ ((b8 || x2 == 0) = false → ∃ J6 : Int → World → Prop, (∀ (c4 : Int) (w30 : World), J6 c4 w30 → (0 : Int) ≤ IntKind.wrap .i64 (Int.tdiv x1 64) ∧ (IntKind.wrap .i64 (Int.tdiv x1 64) : Int) < 33 ∧ ((∃ o : Value, w30.cell? ((⟨b6, 0, none⟩ : Addr).add (Int.toNat (IntKind.wrap .i64 (Int.tdiv x1 64)) * 1)) = some o) ∧ w30.frozen? ((⟨b6, 0, none⟩ : Addr).add (Int.toNat (IntKind.wrap .i64 (Int.tdiv x1 64)) * 1)) = false ∧ ∀ w31 : World, w31 = World.setCell w30 ((⟨b6, 0, none⟩ : Addr).add (Int.toNat (IntKind.wrap .i64 (Int.tdiv x1 64)) * 1)) (.bool true) → (Same w30 w31 [b1, b2, b7] ∧ ((w27.heap.size ≤ w31.heap.size ∧ I2 c4 O1 (pre1 ++ [(x1, x2)]) w31 ∧ Same w27 w31 (keep1 ++ O1)))))) ∧ ((0 : Int) ≤ IntKind.wrap .i64 (Int.tdiv x1 64) ∧ (IntKind.wrap .i64 (Int.tdiv x1 64) : Int) < 33 ∧ (∃ (t8 : Bool), w28.cell? ((⟨b6, 0, none⟩ : Addr).add (Int.toNat (IntKind.wrap .i64 (Int.tdiv x1 64)) * 1)) = some (.bool t8) ∧ (((!t8) = true → ∀ (w32 : World), Chg [b7] w28 w32 → (J6 (IntKind.wrap .i64 (c1 + 1)) w32)) ∧ ((!t8) = false → J6 c1 w28)))))) ∧ (((decide (x1 < 0)) = false → J5 (decide (x1 ≥ (IntKind.wrap .i64 (64 * pages1)))) w27) ∧ ((decide (x1 < 0)) = true → J5 true w27))))) ∧ (∀ (d1 : Nat) (O2 : List Nat) (xs1 : List (Int × Int)) (c1 : Int) (w33 : World), XR.InO w25 O2 w33 → d1 ∈ O2 → S1 xs1 → I2 c1 O2 xs1 w33 → (∃ (I3 : Int → World → Prop) (m2 : Int → World → Nat), I3 0 w33 ∧ ∀ (p1 : Int) (w34 : World), I3 p1 w34 → ((decide (p1 < pages1)) = true → ∀ (w35 : World), Chg [] w34 w35 → ((0 : Int) ≤ p1 ∧ (p1 : Int) < 33 ∧ (∃ (t9 : Bool), w35.cell? ((⟨b6, 0, none⟩ : Addr).add (Int.toNat p1 * 1)) = some (.bool t9) ∧ (Calls Try.prog 56 #[.pointer r3, .int .i64 p1] w35 fun e w36 => ∃ (r14 : Bool), e = .returned (.bool r14) ∧ ((w36.cell? ((⟨b6, 0, none⟩ : Addr).add (Int.toNat p1 * 1)) = some (.bool t9)) ∧ (Same w35 w36 [b1, b2, b7, d1] ∧ (((!(r14 == t9)) = true → ∀ (w37 : World), Chg [b2] w36 w37 → (∀ w38 : World, Chg [d1] w37 w38 → (R false w38))) ∧ ((!(r14 == t9)) = false → (I3 (IntKind.wrap .i64 (p1 + 1)) w36 ∧ m2 (IntKind.wrap .i64 (p1 + 1)) w36 < m2 p1 w34))))))))) ∧ ((decide (p1 < pages1)) = false → ∀ (w39 : World), Chg [] w34 w39 → (Calls Try.prog 55 #[.pointer r3] w39 fun e w40 => ∃ (r15 : Int), e = .returned (.int .i64 r15) ∧ (Same w39 w40 [b1, b2, b7, d1] ∧ (((!(r15 == c1)) = true → ∀ (w41 : World), Chg [b2] w40 w41 → (∀ w42 : World, Chg [d1] w41 w42 → (R false w42))) ∧ ((!(r15 == c1)) = false → Calls Try.prog 54 #[.pointer r3] w40 fun e w43 => ∃ (r16 : Int), e = .returned (.int .i64 r16) ∧ (Same w40 w43 [b1, b2, d1] ∧ (Calls Try.prog 49 #[.pointer r3, .int .i64 0, .int .i64 r16, .int .u32 0] w43 fun e w44 => ∃ (r17 : Int), e = .returned (.int .i64 r17) ∧ (Same w43 w44 [b1, b2, d1] ∧ (Calls Try.prog 51 #[.int .i64 pages1] w44 fun e w45 => ∃ (r18 : Option Addr) (r19 : Int), e = .returned (.tuple #[.pointer r18, .int .i64 r19]) ∧ (Same w44 w45 [b2, d1] ∧ (Calls Try.prog 44 #[.int .i64 r4] w45 fun e w46 => ∃ (r20 : Int), e = .returned (.int .i64 r20) ∧ (Same w45 w46 [b2, d1] ∧ (∃ J7 : Bool → World → Prop, (∀ (b9 : Bool) (w47 : World), J7 b9 w47 → ∃ J8 : Bool → World → Prop, (∀ (b10 : Bool) (w49 : World), J8 b10 w49 → ∃ J9 : Bool → World → Prop, (∀ (b11 : Bool) (w51 : World), J9 b11 w51 → ∃ J10 : Bool → World → Prop, (∀ (b12 : Bool) (w53 : World), J10 b12 w53 → ∀ (w55 : World), Chg [b2] w53 w55 → (∀ w56 : World, Chg [d1] w55 w56 → (R b12 w56))) ∧ ((b11 = true → Calls Try.prog 40 #[] w51 fun e w54 => ∃ (r24 : Bool), e = .returned (.bool r24) ∧ (Same w51 w54 [b2, d1] ∧ (J10 r24 w54))) ∧ (b11 = false → J10 false w51))) ∧ ((b10 = true → Calls Try.prog 53 #[.pointer r3, .pointer r18] w49 fun e w52 => ∃ (r23 : Bool), e = .returned (.bool r23) ∧ (Same w49 w52 [b2, d1] ∧ (J9 r23 w52))) ∧ (b10 = false → J9 false w49))) ∧ ((b9 = true → Calls Try.prog 55 #[.pointer r3] w47 fun e w50 => ∃ (r22 : Int), e = .returned (.int .i64 r22) ∧ (Same w47 w50 [b2, d1] ∧ (J8 (r22 == 0) w50))) ∧ (b9 = false → J8 false w47))) ∧ (((r20 == 0) = true → Calls Try.prog 44 #[.int .i64 r17] w46 fun e w48 => ∃ (r21 : Int), e = .returned (.int .i64 r21) ∧ (Same w46 w48 [b2, d1] ∧ (J7 (r21 == 0) w48))) ∧ ((r20 == 0) = false → J7 false w46))))))))))))))))) ∧ (∀ (d2 : Nat) (O3 : List Nat) (xs2 : List (Int × Int)) (c2 : Bool) (c3 : Int) (w57 : World), XR.InO w25 O3 w57 → d2 ∈ O3 → Sp1 xs2 → X1 c2 c3 O3 xs2 w57 → (∀ w58 : World, Chg [d2] w57 w58 → (R c2 w58))))))))))))) ∧ (((r10 == 0) = true → ∃ J4 : Bool → World → Prop, (∀ (b5 : Bool) (w17 : World), J4 b5 w17 → J3 b5 w17) ∧ (((!(r8 == set1)) = false → Calls Try.prog 44 #[.int .i64 r9] w15 fun e w18 => ∃ (r11 : Int), e = .returned (.int .i64 r11) ∧ (Same w15 w18 [b1, b2] ∧ (J4 (!(r11 == 0)) w18))) ∧ ((!(r8 == set1)) = true → J4 true w15))) ∧ ((r10 == 0) = false → J3 false w15))))))))))))) ∧ (((decide (pages1 < 1)) = false → J1 (decide (pages1 > 32)) w2) ∧ ((decide (pages1 < 1)) = true → J1 true w2)))
set_option maxRecDepth 100000 in
theorem go_pomanderlaw03_ShadowFew (pages1 : Int) (script1 : Option Addr) (script1n : Nat) (script1c : Nat) (at1 : Int) (set1 : Int) (w : World) (R : Bool → World → Prop) (h : W_pomanderlaw03_ShadowFew pages1 script1 script1n script1c at1 set1 w R) : Calls Try.prog 15 #[.int .i64 pages1, .slice script1 script1n script1c, .int .i64 at1, .int .u32 set1] w (fun e w' => ∃ (r1 : Bool), e = .returned (.bool r1) ∧ R r1 w') := by
  unfold W_pomanderlaw03_ShadowFew at h
  refine XR.enterM (N := 179) Try.func15 rfl rfl ?_
  refine CW.seq ?_
  refine CW.region fun L hL => ?_
  obtain ⟨b1, hb_b1⟩ : ∃ b1, b1 = World.size w := ⟨_, rfl⟩
  obtain ⟨w1, hw_w1⟩ : ∃ w1, w1 = World.alloc w (.cells #[.int .i64 pages1] 3) := ⟨_, rfl⟩
  refine LW.val hL rfl (Wants.free rfl) rfl (boxE hb_b1 hw_w1 (Vl.box (v := .int .i64 pages1) rfl)) ?_
  have hB := Boxes.alloc (cs := [.int .i64 pages1]) (T := 3) (Boxes.nil w) hb_b1 hw_w1
  have hlo_b1 := sil_lo (Chg.refl [] w) hb_b1
  have hc_w1 := sil_alloc (Chg.refl [] w) hw_w1
  obtain ⟨b2, hb_b2⟩ : ∃ b2, b2 = World.size w1 := ⟨_, rfl⟩
  obtain ⟨w2, hw_w2⟩ : ∃ w2, w2 = World.alloc w1 (.cells #[.bool false] 4) := ⟨_, rfl⟩
  refine LW.val hL rfl (Wants.free rfl) rfl (boxE hb_b2 hw_w2 (Vl.alloc (z := .bool false) (by kernel_rfl))) ?_
  replace hB := Boxes.alloc (cs := [.bool false]) (T := 4) hB hb_b2 hw_w2
  have hlo_b2 := sil_lo hc_w1 hb_b2
  have hc_w2 := sil_alloc hc_w1 hw_w2
  refine LW.nil hL rfl ?_
  refine NW.then ?_
  refine CW.seq ?_
  refine CW.seq ?_
  refine CW.region fun L hL => ?_
  refine LW.rd hL rfl (Wants.free rfl) rfl (Rd.ld (v := .int .i64 pages1) rfl (by kernel_rfl) (eqs (box_cell (hB.at (i := 1) rfl) rfl))) ?_
  refine LW.rd hL rfl (Wants.free rfl) rfl (Rd.bin (v := .bool (decide (pages1 < 1))) rfl rfl (fun w => by kernel_rfl)) ?_
  refine LW.rd hL rfl (Wants.free rfl) rfl (Rd.move (v := .bool (decide (pages1 < 1))) rfl) ?_
  replace h := h b2 b1 w2 ⟨hlo_b2, lt_of_heap (hB.at (i := 0) rfl)⟩ ⟨hlo_b1, lt_of_heap (hB.at (i := 1) rfl)⟩ hc_w2
  obtain ⟨J1, hJ1, h1_J1, h0_J1⟩ := h
  suffices K1 : ∀ (b3 : Bool) (w3 : World), Boxes w3 [(b2, [.bool false], 4), (b1, [.int .i64 pages1], 3)] → J1 b3 w3 → L 6 [(1, .slice script1 script1n script1c), (2, .int .i64 at1), (3, .int .u32 set1), (4, .pointer (some (⟨b1, 0, none⟩ : Addr))), (8, .pointer (some (⟨b2, 0, none⟩ : Addr))), (28, .bool b3)] w3 by
    rcases Bool.eq_false_or_eq_true (decide (pages1 < 1)) with hb1 | hb1
    · have h := h0_J1 hb1
      refine LW.skip hL rfl (Skips.on rfl rfl rfl rfl rfl hb1) rfl ?_
      refine LW.skip hL rfl (Skips.on rfl rfl rfl rfl rfl hb1) rfl ?_
      refine LW.rd hL rfl (Wants.free rfl) rfl (Rd.pickT rfl hb1 rfl) ?_
      exact LW.sub hL (by exact ⟨rfl, rfl, rfl, rfl, rfl, rfl, trivial⟩) (K1 true w2 (by exact hB) h)
    · have h := h1_J1 hb1
      refine LW.rd hL rfl (Wants.on rfl rfl rfl rfl rfl hb1) rfl (Rd.ld (v := .int .i64 pages1) rfl (by kernel_rfl) (eqs (box_cell (hB.at (i := 1) rfl) rfl))) ?_
      refine LW.rd hL rfl (Wants.on rfl rfl rfl rfl rfl hb1) rfl (Rd.bin (v := .bool (decide (pages1 > 32))) rfl rfl (fun w => by kernel_rfl)) ?_
      refine LW.rd hL rfl (Wants.free rfl) rfl (Rd.pickF rfl hb1 rfl) ?_
      exact LW.sub hL (by exact ⟨rfl, rfl, rfl, rfl, rfl, rfl, trivial⟩) (K1 (decide (pages1 > 32)) w2 (by exact hB) h)
  intro b3 w3 hB h_
  have h := hJ1 b3 w3 h_; clear h_
  refine LW.rd hL rfl (Wants.free rfl) rfl (Rd.move (v := .bool b3) rfl) ?_
  suffices K2 : L 11 [(1, .slice script1 script1n script1c), (2, .int .i64 at1), (3, .int .u32 set1), (4, .pointer (some (⟨b1, 0, none⟩ : Addr))), (8, .pointer (some (⟨b2, 0, none⟩ : Addr))), (33, .bool (b3 || decide ((script1n : Int) > 40)))] w3 by
    rcases Bool.eq_false_or_eq_true b3 with hb3 | hb3
    · skip
      refine LW.skip hL rfl (Skips.on rfl rfl rfl rfl rfl hb3) rfl ?_
      refine LW.skip hL rfl (Skips.on rfl rfl rfl rfl rfl hb3) rfl ?_
      refine LW.skip hL rfl (Skips.on rfl rfl rfl rfl rfl hb3) rfl ?_
      refine LW.rd hL rfl (Wants.free rfl) rfl (Rd.pickT rfl hb3 rfl) ?_
      exact LW.sub hL (by exact ⟨rfl, rfl, rfl, rfl, rfl, (by rw [hb3]; rfl), trivial⟩) K2
    · skip
      refine LW.rd hL rfl (Wants.on rfl rfl rfl rfl rfl hb3) rfl (Rd.move (v := .slice script1 script1n script1c) rfl) ?_
      refine LW.rd hL rfl (Wants.on rfl rfl rfl rfl rfl hb3) rfl (Rd.builtin (v := .int .i64 (script1n : Int)) rfl (fun _ _ => by kernel_rfl)) ?_
      refine LW.rd hL rfl (Wants.on rfl rfl rfl rfl rfl hb3) rfl (Rd.bin (v := .bool (decide ((script1n : Int) > 40))) rfl rfl (fun w => by kernel_rfl)) ?_
      refine LW.rd hL rfl (Wants.free rfl) rfl (Rd.pickF rfl hb3 rfl) ?_
      exact LW.sub hL (by exact ⟨rfl, rfl, rfl, rfl, rfl, (by rw [hb3]; rfl), trivial⟩) K2
  refine LW.nil hL rfl ?_
  refine NW.then ?_
  refine CW.cond rfl (fun hb4 => ?_) (fun hb4 => ?_)
  · replace h := h.1 hb4
    refine CW.seq ?_
    refine CW.region fun L hL => ?_
    refine LW.call hL rfl (Wants.free rfl) rfl (Cl.fn (f := 40) rfl Try.func40 (by kernel_rfl) rfl) h (fun e w4 h_ => ?_)
    clear h
    obtain ⟨r2, rfl, h⟩ := h_
    obtain ⟨hsm1, h⟩ := h
    replace hB := Boxes.sameS hB hsm1 (by simp)
    refine ⟨_, rfl, ?_⟩
    obtain ⟨w5, hw_w5⟩ : ∃ x, x = World.setCell w4 (⟨b2, 0, none⟩ : Addr) (.bool r2) := ⟨_, rfl⟩
    refine LW.eff hL rfl (Wants.free rfl) rfl (stE hw_w5 (Ef.st rfl rfl rfl (by kernel_rfl) (box_cell (v := .bool false) (hB.at (i := 0) rfl) rfl) (free_of (hB.at (i := 0) rfl) 0))) ?_
    replace hB : Boxes w5 [(b2, [.bool r2], 4), (b1, [.int .i64 pages1], 3)] := Boxes.store1  (i := 0) (o := 0) hB rfl rfl rfl rfl hw_w5
    have hc_w5 : Chg [b2] w4 w5 := sil_more (Chg.refl [] w4) (sil_c1 hw_w5)
    refine LW.nil hL rfl ?_
    refine NW.then ?_
    replace h := h  w5  hc_w5
    refine CW.ret ?_
    refine RW.then ?_
    exact XR.res0M (vs := [.bool r2]) (by exact (ResOK.c rfl (lv1 (by kernel_rfl) (box_cell (Boxes.at (i := 0) hB rfl) rfl)) ResOK.nil)) rfl ⟨r2, rfl, h⟩
  · replace h := h.2 hb4
    refine CW.skip ?_
    refine NW.then ?_
    refine CW.seq ?_
    refine CW.region fun L hL => ?_
    refine LW.rd hL rfl (Wants.free rfl) rfl (Rd.ld (v := .int .i64 pages1) rfl (by kernel_rfl) (eqs (box_cell (hB.at (i := 1) rfl) rfl))) ?_
    refine LW.call hL rfl (Wants.free rfl) rfl (Cl.fn (f := 51) rfl Try.func51 (by kernel_rfl) rfl) h (fun e w6 h_ => ?_)
    clear h
    obtain ⟨r3, r4, rfl, h⟩ := h_
    obtain ⟨hsm2, h⟩ := h
    replace hB := Boxes.sameS hB hsm2 (by simp)
    refine ⟨_, rfl, ?_⟩
    refine LW.rd hL rfl (Wants.free rfl) rfl (Rd.move (v := .tuple #[.pointer r3, .int .i64 r4]) rfl) ?_
    refine LW.rd hL rfl (Wants.free rfl) rfl (Rd.extract (v := .pointer r3) rfl rfl) ?_
    refine LW.rd hL rfl (Wants.free rfl) rfl (Rd.extract (v := .int .i64 r4) rfl rfl) ?_
    refine LW.rd hL rfl (Wants.free rfl) rfl (Rd.assign (v := .pointer r3) rfl) ?_
    refine LW.rd hL rfl (Wants.free rfl) rfl (Rd.assign (v := .int .i64 r4) rfl) ?_
    refine LW.nil hL rfl ?_
    refine NW.then ?_
    refine CW.seq ?_
    refine CW.seq ?_
    refine CW.region fun L hL => ?_
    refine LW.rd hL rfl (Wants.free rfl) rfl (Rd.assign (v := .int .i64 0) rfl) ?_
    refine LW.nil hL rfl ?_
    refine NW.then ?_
    refine CW.block ?_
    obtain ⟨I1, m1, hI1, h⟩ := h
    refine CW.loop (S := Int) (fun i1 => [(1, .slice script1 script1n script1c), (2, .int .i64 at1), (3, .int .u32 set1), (4, .pointer (some (⟨b1, 0, none⟩ : Addr))), (8, .pointer (some (⟨b2, 0, none⟩ : Addr))), (9, .pointer r3), (10, .int .i64 r4), (11, .int .i64 i1)]) (fun i1 w7 => I1 i1 w7 ∧ Boxes w7 [(b1, [.int .i64 pages1], 3), (b2, [.bool false], 4)]) (fun i1 w7 => m1 i1 w7) 0 (by exact ⟨rfl, rfl, rfl, rfl, rfl, rfl, rfl, rfl, trivial⟩) ⟨hI1, (hB.sel [1, 0] (by decide) rfl)⟩ (fun i1 w7 hI1 => ?_)
    obtain ⟨hI1, hB⟩ := hI1
    replace h := h i1 w7 hI1
    refine CW.seq ?_
    refine CW.seq ?_
    refine CW.region fun L hL => ?_
    refine LW.rd hL rfl (Wants.free rfl) rfl (Rd.move (v := .int .i64 i1) rfl) ?_
    refine LW.rd hL rfl (Wants.free rfl) rfl (Rd.move (v := .slice script1 script1n script1c) rfl) ?_
    refine LW.rd hL rfl (Wants.free rfl) rfl (Rd.builtin (v := .int .i64 (script1n : Int)) rfl (fun _ _ => by kernel_rfl)) ?_
    refine LW.rd hL rfl (Wants.free rfl) rfl (Rd.bin (v := .bool (decide (i1 < (script1n : Int)))) rfl rfl (fun w => by kernel_rfl)) ?_
    refine LW.nil hL rfl ?_
    refine NW.then ?_
    refine CW.cond rfl (fun hb5 => ?_) (fun hb5 => ?_)
    · replace h := h.1 hb5
      refine CW.skip ?_
      refine NW.then ?_
      obtain ⟨J2, hJ2, h⟩ := h
      refine CW.cut (S := Unit) (fun s1 => [(1, .slice script1 script1n script1c), (2, .int .i64 at1), (3, .int .u32 set1), (4, .pointer (some (⟨b1, 0, none⟩ : Addr))), (8, .pointer (some (⟨b2, 0, none⟩ : Addr))), (9, .pointer r3), (10, .int .i64 r4), (11, .int .i64 i1)]) (fun s1 w8 => J2 w8 ∧ Boxes w8 [(b1, [.int .i64 pages1], 3), (b2, [.bool false], 4)]) (fun s1 w8 h_ => ?_) ?_
      · obtain ⟨h_, hB⟩ := h_; replace h := hJ2 w8 h_; clear h_
        refine CW.region fun L hL => ?_
        refine LW.rd hL rfl (Wants.free rfl) rfl (Rd.move (v := .int .i64 i1) rfl) ?_
        refine LW.rd hL rfl (Wants.free rfl) rfl (Rd.bin (v := .int .i64 (IntKind.wrap .i64 (i1 + 1))) rfl rfl (fun w => by kernel_rfl)) ?_
        refine LW.rd hL rfl (Wants.free rfl) rfl (Rd.assign (v := .int .i64 (IntKind.wrap .i64 (i1 + 1))) rfl) ?_
        refine LW.nil hL rfl ?_
        exact NW.loop (S := Int) (Ek := fun i1 => [(1, .slice script1 script1n script1c), (2, .int .i64 at1), (3, .int .u32 set1), (4, .pointer (some (⟨b1, 0, none⟩ : Addr))), (8, .pointer (some (⟨b2, 0, none⟩ : Addr))), (9, .pointer r3), (10, .int .i64 r4), (11, .int .i64 i1)]) (IntKind.wrap .i64 (i1 + 1)) (by exact ⟨rfl, rfl, rfl, rfl, rfl, rfl, rfl, rfl, trivial⟩) ⟨⟨h.1, hB⟩, h.2⟩
      · skip
        refine CW.block ?_
        refine CW.seq ?_
        refine CW.region fun L hL => ?_
        refine LW.rd hL rfl (Wants.free rfl) rfl (Rd.move (v := .slice script1 script1n script1c) rfl) ?_
        refine LW.rd hL rfl (Wants.free rfl) rfl (Rd.move (v := .int .i64 i1) rfl) ?_
        obtain ⟨a1, he1, hi1, hi2, h⟩ := h
        refine LW.rd hL rfl (Wants.free rfl) rfl (Rd.iaS (q := a1) (sz := 4) (by rw [← he1]; rfl) rfl Try.underlying95 (by kernel_rfl) hi1 hi2) ?_
        refine LW.rd hL rfl (Wants.free rfl) rfl (Rd.fa (v := .pointer (some (a1.add (Int.toNat i1 * 4)))) rfl (fun _ => by kernel_rfl)) ?_
        obtain ⟨t1, hc1, h⟩ := h
        refine LW.rd hL rfl (Wants.free rfl) rfl (Rd.ld (v := .int .i64 t1) rfl (by kernel_rfl) (eqs hc1)) ?_
        refine LW.rd hL rfl (Wants.free rfl) rfl (Rd.bin (v := .bool (t1 == 0)) rfl rfl (fun w => by kernel_rfl)) ?_
        refine LW.nil hL rfl ?_
        refine NW.then ?_
        refine CW.cond rfl (fun hb6 => ?_) (fun hb6 => ?_)
        · replace h := h.1 hb6
          obtain ⟨w9, hw_w9⟩ : ∃ x, x = World.drew w7 := ⟨_, rfl⟩
          have hc_w9 := sil_drew (Chg.refl [] w7) hw_w9
          replace hB := hB.drew hw_w9
          refine CW.drawn (fun w => w = w9) 11 (by kernel_rfl) fun H hH => ?_
          rw [← hw_w9]
          refine HW.pure (i := 0) hH rfl (by kernel_rfl) (Wants.free rfl) rfl (fun _ => rfl) (Rd.move (v := .pointer r3) rfl) ?_
          refine HW.pure (i := 1) hH rfl (by kernel_rfl) (Wants.free rfl) rfl (fun _ => rfl) (Rd.move (v := .slice script1 script1n script1c) rfl) ?_
          refine HW.pure (i := 2) hH rfl (by kernel_rfl) (Wants.free rfl) rfl (fun _ => rfl) (Rd.move (v := .int .i64 i1) rfl) ?_
          refine HW.pure (i := 3) hH rfl (by kernel_rfl) (Wants.free rfl) rfl (fun _ => rfl) (Rd.iaS (q := a1) (sz := 4) (by rw [← he1]; rfl) rfl Try.underlying95 (by kernel_rfl) hi1 hi2) ?_
          refine HW.pure (i := 4) hH rfl (by kernel_rfl) (Wants.free rfl) rfl (fun _ => rfl) (Rd.fa (v := .pointer (some ((a1.add (Int.toNat i1 * 4)).add 1))) rfl (fun _ => by kernel_rfl)) ?_
          replace h := h  w9  hc_w9
          obtain ⟨t2, hc2, h⟩ := h
          refine HW.take (i := 5) hH rfl (by kernel_rfl) (by kernel_rfl) (Wants.free rfl) rfl (fun _ => rfl) (Rd.ld (v := .int .i64 t2) rfl (by kernel_rfl) (eqs hc2)) ?_
          refine HW.pure (i := 6) hH rfl (by kernel_rfl) (Wants.free rfl) rfl (fun _ => rfl) (Rd.move (v := .slice script1 script1n script1c) rfl) ?_
          refine HW.pure (i := 7) hH rfl (by kernel_rfl) (Wants.free rfl) rfl (fun _ => rfl) (Rd.move (v := .int .i64 i1) rfl) ?_
          refine HW.pure (i := 8) hH rfl (by kernel_rfl) (Wants.free rfl) rfl (fun _ => rfl) (Rd.iaS (q := a1) (sz := 4) (by rw [← he1]; rfl) rfl Try.underlying95 (by kernel_rfl) hi1 hi2) ?_
          refine HW.pure (i := 9) hH rfl (by kernel_rfl) (Wants.free rfl) rfl (fun _ => rfl) (Rd.fa (v := .pointer (some ((a1.add (Int.toNat i1 * 4)).add 3))) rfl (fun _ => by kernel_rfl)) ?_
          obtain ⟨t3, hc3, h⟩ := h
          refine HW.take (i := 10) hH rfl (by kernel_rfl) (by kernel_rfl) (Wants.free rfl) rfl (fun _ => rfl) (Rd.ld (v := .int .u32 t3) rfl (by kernel_rfl) (eqs hc3)) ?_
          refine HW.call (i := 11) hH (by kernel_rfl) rfl (Wants.free rfl) rfl (Cl.fn (f := 52) rfl Try.func52 (by kernel_rfl) rfl) h (fun e w10 h_ => ?_)
          clear h
          obtain ⟨r5, rfl, h⟩ := h_
          obtain ⟨hsm3, h⟩ := h
          replace hB := Boxes.sameS hB hsm3 (by simp)
          refine ⟨_, rfl, (fun hc => by cases hc), ?_⟩
          refine HW.done hH (by kernel_rfl) ?_
          refine NW.block ?_
          exact NW.cut (S := Unit) (Ek := fun s1 => [(1, .slice script1 script1n script1c), (2, .int .i64 at1), (3, .int .u32 set1), (4, .pointer (some (⟨b1, 0, none⟩ : Addr))), (8, .pointer (some (⟨b2, 0, none⟩ : Addr))), (9, .pointer r3), (10, .int .i64 r4), (11, .int .i64 i1)]) () (by exact ⟨rfl, rfl, rfl, rfl, rfl, rfl, rfl, rfl, trivial⟩) ⟨h, hB⟩
        · replace h := h.2 hb6
          obtain ⟨w11, hw_w11⟩ : ∃ x, x = World.drew w7 := ⟨_, rfl⟩
          have hc_w11 := sil_drew (Chg.refl [] w7) hw_w11
          replace hB := hB.drew hw_w11
          refine CW.drawn (fun w => w = w11) 16 (by kernel_rfl) fun H hH => ?_
          rw [← hw_w11]
          refine HW.pure (i := 0) hH rfl (by kernel_rfl) (Wants.free rfl) rfl (fun _ => rfl) (Rd.move (v := .pointer r3) rfl) ?_
          refine HW.pure (i := 1) hH rfl (by kernel_rfl) (Wants.free rfl) rfl (fun _ => rfl) (Rd.move (v := .slice script1 script1n script1c) rfl) ?_
          refine HW.pure (i := 2) hH rfl (by kernel_rfl) (Wants.free rfl) rfl (fun _ => rfl) (Rd.move (v := .int .i64 i1) rfl) ?_
          refine HW.pure (i := 3) hH rfl (by kernel_rfl) (Wants.free rfl) rfl (fun _ => rfl) (Rd.iaS (q := a1) (sz := 4) (by rw [← he1]; rfl) rfl Try.underlying95 (by kernel_rfl) hi1 hi2) ?_
          refine HW.pure (i := 4) hH rfl (by kernel_rfl) (Wants.free rfl) rfl (fun _ => rfl) (Rd.fa (v := .pointer (some ((a1.add (Int.toNat i1 * 4)).add 1))) rfl (fun _ => by kernel_rfl)) ?_
          replace h := h  w11  hc_w11
          obtain ⟨t4, hc4, h⟩ := h
          refine HW.take (i := 5) hH rfl (by kernel_rfl) (by kernel_rfl) (Wants.free rfl) rfl (fun _ => rfl) (Rd.ld (v := .int .i64 t4) rfl (by kernel_rfl) (eqs hc4)) ?_
          refine HW.pure (i := 6) hH rfl (by kernel_rfl) (Wants.free rfl) rfl (fun _ => rfl) (Rd.move (v := .slice script1 script1n script1c) rfl) ?_
          refine HW.pure (i := 7) hH rfl (by kernel_rfl) (Wants.free rfl) rfl (fun _ => rfl) (Rd.move (v := .int .i64 i1) rfl) ?_
          refine HW.pure (i := 8) hH rfl (by kernel_rfl) (Wants.free rfl) rfl (fun _ => rfl) (Rd.iaS (q := a1) (sz := 4) (by rw [← he1]; rfl) rfl Try.underlying95 (by kernel_rfl) hi1 hi2) ?_
          refine HW.pure (i := 9) hH rfl (by kernel_rfl) (Wants.free rfl) rfl (fun _ => rfl) (Rd.fa (v := .pointer (some ((a1.add (Int.toNat i1 * 4)).add 2))) rfl (fun _ => by kernel_rfl)) ?_
          obtain ⟨t5, hc5, h⟩ := h
          refine HW.take (i := 10) hH rfl (by kernel_rfl) (by kernel_rfl) (Wants.free rfl) rfl (fun _ => rfl) (Rd.ld (v := .int .i64 t5) rfl (by kernel_rfl) (eqs hc5)) ?_
          refine HW.pure (i := 11) hH rfl (by kernel_rfl) (Wants.free rfl) rfl (fun _ => rfl) (Rd.move (v := .slice script1 script1n script1c) rfl) ?_
          refine HW.pure (i := 12) hH rfl (by kernel_rfl) (Wants.free rfl) rfl (fun _ => rfl) (Rd.move (v := .int .i64 i1) rfl) ?_
          refine HW.pure (i := 13) hH rfl (by kernel_rfl) (Wants.free rfl) rfl (fun _ => rfl) (Rd.iaS (q := a1) (sz := 4) (by rw [← he1]; rfl) rfl Try.underlying95 (by kernel_rfl) hi1 hi2) ?_
          refine HW.pure (i := 14) hH rfl (by kernel_rfl) (Wants.free rfl) rfl (fun _ => rfl) (Rd.fa (v := .pointer (some ((a1.add (Int.toNat i1 * 4)).add 3))) rfl (fun _ => by kernel_rfl)) ?_
          obtain ⟨t6, hc6, h⟩ := h
          refine HW.take (i := 15) hH rfl (by kernel_rfl) (by kernel_rfl) (Wants.free rfl) rfl (fun _ => rfl) (Rd.ld (v := .int .u32 t6) rfl (by kernel_rfl) (eqs hc6)) ?_
          refine HW.call (i := 16) hH (by kernel_rfl) rfl (Wants.free rfl) rfl (Cl.fn (f := 49) rfl Try.func49 (by kernel_rfl) rfl) h (fun e w12 h_ => ?_)
          clear h
          obtain ⟨r6, rfl, h⟩ := h_
          obtain ⟨hsm4, h⟩ := h
          replace hB := Boxes.sameS hB hsm4 (by simp)
          refine ⟨_, rfl, (fun hc => by cases hc), ?_⟩
          refine HW.done hH (by kernel_rfl) ?_
          refine NW.block ?_
          exact NW.cut (S := Unit) (Ek := fun s1 => [(1, .slice script1 script1n script1c), (2, .int .i64 at1), (3, .int .u32 set1), (4, .pointer (some (⟨b1, 0, none⟩ : Addr))), (8, .pointer (some (⟨b2, 0, none⟩ : Addr))), (9, .pointer r3), (10, .int .i64 r4), (11, .int .i64 i1)]) () (by exact ⟨rfl, rfl, rfl, rfl, rfl, rfl, rfl, rfl, trivial⟩) ⟨h, hB⟩
    · replace h := h.2 hb5
      refine CW.exit ?_
      refine XW.then ?_
      refine XW.then ?_
      refine XW.hit ?_
      refine NW.then ?_
      refine CW.seq ?_
      refine CW.region fun L hL => ?_
      refine LW.rd hL rfl (Wants.free rfl) rfl (Rd.move (v := .pointer r3) rfl) ?_
      refine LW.rd hL rfl (Wants.free rfl) rfl (Rd.move (v := .int .i64 at1) rfl) ?_
      refine LW.rd hL rfl (Wants.free rfl) rfl (Rd.move (v := .int .u32 set1) rfl) ?_
      refine LW.call hL rfl (Wants.free rfl) rfl (Cl.fn (f := 52) rfl Try.func52 (by kernel_rfl) rfl) h (fun e w13 h_ => ?_)
      clear h
      obtain ⟨r7, rfl, h⟩ := h_
      obtain ⟨hsm5, h⟩ := h
      replace hB := Boxes.sameS hB hsm5 (by simp)
      refine ⟨_, rfl, ?_⟩
      refine LW.rd hL rfl (Wants.free rfl) rfl (Rd.assign (v := .int .i64 r7) rfl) ?_
      refine LW.nil hL rfl ?_
      refine NW.then ?_
      refine CW.seq ?_
      refine CW.region fun L hL => ?_
      refine LW.rd hL rfl (Wants.free rfl) rfl (Rd.move (v := .pointer r3) rfl) ?_
      refine LW.rd hL rfl (Wants.free rfl) rfl (Rd.move (v := .int .i64 at1) rfl) ?_
      refine LW.call hL rfl (Wants.free rfl) rfl (Cl.fn (f := 42) rfl Try.func42 (by kernel_rfl) rfl) h (fun e w14 h_ => ?_)
      clear h
      obtain ⟨r8, r9, rfl, h⟩ := h_
      obtain ⟨hsm6, h⟩ := h
      replace hB := Boxes.sameS hB hsm6 (by simp)
      refine ⟨_, rfl, ?_⟩
      refine LW.rd hL rfl (Wants.free rfl) rfl (Rd.move (v := .tuple #[.int .u32 r8, .int .i64 r9]) rfl) ?_
      refine LW.rd hL rfl (Wants.free rfl) rfl (Rd.extract (v := .int .u32 r8) rfl rfl) ?_
      refine LW.rd hL rfl (Wants.free rfl) rfl (Rd.extract (v := .int .i64 r9) rfl rfl) ?_
      refine LW.rd hL rfl (Wants.free rfl) rfl (Rd.assign (v := .int .u32 r8) rfl) ?_
      refine LW.rd hL rfl (Wants.free rfl) rfl (Rd.assign (v := .int .i64 r9) rfl) ?_
      refine LW.nil hL rfl ?_
      refine NW.then ?_
      refine CW.seq ?_
      refine CW.seq ?_
      refine CW.region fun L hL => ?_
      refine LW.rd hL rfl (Wants.free rfl) rfl (Rd.move (v := .int .i64 r7) rfl) ?_
      refine LW.call hL rfl (Wants.free rfl) rfl (Cl.fn (f := 44) rfl Try.func44 (by kernel_rfl) rfl) h (fun e w15 h_ => ?_)
      clear h
      obtain ⟨r10, rfl, h⟩ := h_
      obtain ⟨hsm7, h⟩ := h
      replace hB := Boxes.sameS hB hsm7 (by simp)
      refine ⟨_, rfl, ?_⟩
      refine LW.rd hL rfl (Wants.free rfl) rfl (Rd.bin (v := .bool (r10 == 0)) rfl rfl (fun w => by kernel_rfl)) ?_
      refine LW.rd hL rfl (Wants.free rfl) rfl (Rd.move (v := .bool (r10 == 0)) rfl) ?_
      obtain ⟨J3, hJ3, h1_J3, h0_J3⟩ := h
      suffices K3 : ∀ (b4 : Bool) (w16 : World), Boxes w16 [(b1, [.int .i64 pages1], 3), (b2, [.bool false], 4)] → J3 b4 w16 → L 13 [(4, .pointer (some (⟨b1, 0, none⟩ : Addr))), (8, .pointer (some (⟨b2, 0, none⟩ : Addr))), (9, .pointer r3), (10, .int .i64 r4), (103, .bool b4)] w16 by
        rcases Bool.eq_false_or_eq_true (r10 == 0) with hb7 | hb7
        · have h := h1_J3 hb7
          refine LW.rd hL rfl (Wants.on rfl rfl rfl rfl rfl hb7) rfl (Rd.move (v := .int .u32 r8) rfl) ?_
          refine LW.rd hL rfl (Wants.on rfl rfl rfl rfl rfl hb7) rfl (Rd.move (v := .int .u32 set1) rfl) ?_
          refine LW.rd hL rfl (Wants.on rfl rfl rfl rfl rfl hb7) rfl (Rd.bin (v := .bool (!(r8 == set1))) rfl rfl (fun w => by kernel_rfl)) ?_
          refine LW.rd hL rfl (Wants.on rfl rfl rfl rfl rfl hb7) rfl (Rd.move (v := .bool (!(r8 == set1))) rfl) ?_
          obtain ⟨J4, hJ4, h1_J4, h0_J4⟩ := h
          suffices K4 : ∀ (b5 : Bool) (w17 : World), Boxes w17 [(b1, [.int .i64 pages1], 3), (b2, [.bool false], 4)] → J4 b5 w17 → L 12 [(4, .pointer (some (⟨b1, 0, none⟩ : Addr))), (8, .pointer (some (⟨b2, 0, none⟩ : Addr))), (9, .pointer r3), (10, .int .i64 r4), (94, .bool (r10 == 0)), (102, .bool b5)] w17 by
            rcases Bool.eq_false_or_eq_true (!(r8 == set1)) with hb8 | hb8
            · have h := h0_J4 hb8
              refine LW.skip hL rfl (Skips.on rfl rfl rfl rfl rfl hb8) rfl ?_
              refine LW.skip hL rfl (Skips.on rfl rfl rfl rfl rfl hb8) rfl ?_
              refine LW.skip hL rfl (Skips.on rfl rfl rfl rfl rfl hb8) rfl ?_
              refine LW.rd hL rfl (Wants.on rfl rfl rfl rfl rfl hb7) rfl (Rd.pickT rfl hb8 rfl) ?_
              exact LW.sub hL (by exact ⟨rfl, rfl, rfl, rfl, rfl, rfl, trivial⟩) (K4 true w15 (by exact hB) h)
            · have h := h1_J4 hb8
              refine LW.rd hL rfl (Wants.on rfl rfl rfl rfl rfl hb8) rfl (Rd.move (v := .int .i64 r9) rfl) ?_
              refine LW.call hL rfl (Wants.on rfl rfl rfl rfl rfl hb8) rfl (Cl.fn (f := 44) rfl Try.func44 (by kernel_rfl) rfl) h (fun e w18 h_ => ?_)
              clear h
              obtain ⟨r11, rfl, h⟩ := h_
              obtain ⟨hsm8, h⟩ := h
              replace hB := Boxes.sameS hB hsm8 (by simp)
              refine ⟨_, rfl, ?_⟩
              refine LW.rd hL rfl (Wants.on rfl rfl rfl rfl rfl hb8) rfl (Rd.bin (v := .bool (!(r11 == 0))) rfl rfl (fun w => by kernel_rfl)) ?_
              refine LW.rd hL rfl (Wants.on rfl rfl rfl rfl rfl hb7) rfl (Rd.pickF rfl hb8 rfl) ?_
              exact LW.sub hL (by exact ⟨rfl, rfl, rfl, rfl, rfl, rfl, trivial⟩) (K4 (!(r11 == 0)) w18 (by exact hB) h)
          intro b5 w17 hB h_
          have h := hJ4 b5 w17 h_; clear h_
          refine LW.rd hL rfl (Wants.free rfl) rfl (Rd.pickT rfl hb7 rfl) ?_
          exact LW.sub hL (by exact ⟨rfl, rfl, rfl, rfl, rfl, trivial⟩) (K3 b5 w17 (by exact hB) h)
        · have h := h0_J3 hb7
          refine LW.skip hL rfl (Skips.on rfl rfl rfl rfl rfl hb7) rfl ?_
          refine LW.skip hL rfl (Skips.on rfl rfl rfl rfl rfl hb7) rfl ?_
          refine LW.skip hL rfl (Skips.on rfl rfl rfl rfl rfl hb7) rfl ?_
          refine LW.skip hL rfl (Skips.on rfl rfl rfl rfl rfl hb7) rfl ?_
          refine LW.skip hL rfl (Skips.un rfl rfl rfl rfl rfl) rfl ?_
          refine LW.skip hL rfl (Skips.un rfl rfl rfl rfl rfl) rfl ?_
          refine LW.skip hL rfl (Skips.un rfl rfl rfl rfl rfl) rfl ?_
          refine LW.skip hL rfl (Skips.on rfl rfl rfl rfl rfl hb7) rfl ?_
          refine LW.rd hL rfl (Wants.free rfl) rfl (Rd.pickF rfl hb7 rfl) ?_
          exact LW.sub hL (by exact ⟨rfl, rfl, rfl, rfl, rfl, trivial⟩) (K3 false w15 (by exact hB) h)
      intro b4 w16 hB h_
      have h := hJ3 b4 w16 h_; clear h_
      refine LW.nil hL rfl ?_
      refine NW.then ?_
      refine CW.cond rfl (fun hb9 => ?_) (fun hb9 => ?_)
      · replace h := h.1 hb9
        refine CW.seq ?_
        refine CW.region fun L hL => ?_
        obtain ⟨w19, hw_w19⟩ : ∃ x, x = World.setCell w16 (⟨b2, 0, none⟩ : Addr) (.bool false) := ⟨_, rfl⟩
        refine LW.eff hL rfl (Wants.free rfl) rfl (stE hw_w19 (Ef.st rfl rfl rfl (by kernel_rfl) (box_cell (v := .bool false) (hB.at (i := 1) rfl) rfl) (free_of (hB.at (i := 1) rfl) 0))) ?_
        replace hB : Boxes w19 [(b1, [.int .i64 pages1], 3), (b2, [.bool false], 4)] := Boxes.store1  (i := 1) (o := 0) hB rfl rfl rfl rfl hw_w19
        have hc_w19 : Chg [b2] w16 w19 := sil_more (Chg.refl [] w16) (sil_c1 hw_w19)
        refine LW.nil hL rfl ?_
        refine NW.then ?_
        replace h := h  w19  hc_w19
        refine CW.ret ?_
        refine RW.then ?_
        exact XR.res0M (vs := [.bool false]) (by exact (ResOK.c rfl (lv1 (by kernel_rfl) (box_cell (Boxes.at (i := 1) hB rfl) rfl)) ResOK.nil)) rfl ⟨false, rfl, h⟩
      · replace h := h.2 hb9
        refine CW.skip ?_
        refine NW.then ?_
        refine CW.seq ?_
        refine CW.region fun L hL => ?_
        obtain ⟨b6, hb_b6⟩ : ∃ b6, b6 = World.size w16 := ⟨_, rfl⟩
        obtain ⟨w20, hw_w20⟩ : ∃ w20, w20 = World.alloc w16 (.cells (z126_XHfew).toArray 126) := ⟨_, rfl⟩
        replace h := h b6 hb_b6 w20 hw_w20
        refine LW.val hL rfl (Wants.free rfl) rfl (boxE hb_b6 hw_w20 (Vl.alloc (z := .agg ((z126_XHfew)).toArray) (by kernel_rfl))) ?_
        replace hB := hB.grow hw_w20
        refine LW.nil hL rfl ?_
        refine NW.then ?_
        refine CW.seq ?_
        refine CW.region fun L hL => ?_
        obtain ⟨b7, hb_b7⟩ : ∃ b7, b7 = World.size w20 := ⟨_, rfl⟩
        obtain ⟨w21, hw_w21⟩ : ∃ w21, w21 = World.alloc w20 (.cells #[.int .i64 0] 3) := ⟨_, rfl⟩
        refine LW.val hL rfl (Wants.free rfl) rfl (boxE hb_b7 hw_w21 (Vl.alloc (z := .int .i64 0) (by kernel_rfl))) ?_
        replace hB := Boxes.alloc (cs := [.int .i64 0]) (T := 3) hB hb_b7 hw_w21
        have hlo_b7 := sil_lo (Chg.refl [] w20) hb_b7
        have hc_w21 := sil_alloc (Chg.refl [] w20) hw_w21
        obtain ⟨w22, hw_w22⟩ : ∃ x, x = World.setCell w21 (⟨b7, 0, none⟩ : Addr) (.int .i64 0) := ⟨_, rfl⟩
        refine LW.eff hL rfl (Wants.free rfl) rfl (stE hw_w22 (Ef.st rfl rfl rfl (by kernel_rfl) (box_cell (v := .int .i64 0) (hB.at (i := 0) rfl) rfl) (free_of (hB.at (i := 0) rfl) 0))) ?_
        replace hB : Boxes w22 [(b7, [.int .i64 0], 3), (b1, [.int .i64 pages1], 3), (b2, [.bool false], 4)] := Boxes.store1  (i := 0) (o := 0) hB rfl rfl rfl rfl hw_w22
        have hc_w22 := sil_new hc_w21 (sil_c1 hw_w22) hlo_b7
        refine LW.nil hL rfl ?_
        refine NW.then ?_
        refine CW.seq ?_
        refine CW.seq ?_
        refine CW.region fun L hL => ?_
        refine LW.rd hL rfl (Wants.free rfl) rfl (Rd.move (v := .pointer r3) rfl) ?_
        replace h := h b7 w22 ⟨hlo_b7, lt_of_heap (hB.at (i := 0) rfl)⟩ hc_w22
        refine LW.call hL rfl (Wants.free rfl) rfl (Cl.fn (f := 50) rfl Try.func50 (by kernel_rfl) rfl) h (fun e w23 h_ => ?_)
        clear h
        obtain ⟨r12, rfl, h⟩ := h_
        obtain ⟨hsm9, h⟩ := h
        replace hB := Boxes.sameS hB hsm9 (by simp)
        refine ⟨_, rfl, ?_⟩
        obtain ⟨t7, hx1, h⟩ := h
        refine LW.rd hL rfl (Wants.free rfl) rfl (Rd.bin (v := .bool t7) rfl rfl hx1) ?_
        refine LW.nil hL rfl ?_
        refine NW.then ?_
        refine CW.cond rfl (fun hb10 => ?_) (fun hb10 => ?_)
        · replace h := h.1 hb10
          refine CW.seq ?_
          refine CW.region fun L hL => ?_
          obtain ⟨w24, hw_w24⟩ : ∃ x, x = World.setCell w23 (⟨b2, 0, none⟩ : Addr) (.bool false) := ⟨_, rfl⟩
          refine LW.eff hL rfl (Wants.free rfl) rfl (stE hw_w24 (Ef.st rfl rfl rfl (by kernel_rfl) (box_cell (v := .bool false) (hB.at (i := 2) rfl) rfl) (free_of (hB.at (i := 2) rfl) 0))) ?_
          replace hB : Boxes w24 [(b7, [.int .i64 0], 3), (b1, [.int .i64 pages1], 3), (b2, [.bool false], 4)] := Boxes.store1  (i := 2) (o := 0) hB rfl rfl rfl rfl hw_w24
          have hc_w24 : Chg [b2] w23 w24 := sil_more (Chg.refl [] w23) (sil_c1 hw_w24)
          refine LW.nil hL rfl ?_
          refine NW.then ?_
          replace h := h  w24  hc_w24
          refine CW.ret ?_
          refine RW.then ?_
          exact XR.res0M (vs := [.bool false]) (by exact (ResOK.c rfl (lv1 (by kernel_rfl) (box_cell (Boxes.at (i := 2) hB rfl) rfl)) ResOK.nil)) rfl ⟨false, rfl, h⟩
        · replace h := h.2 hb10
          refine CW.skip ?_
          refine NW.then ?_
          refine CW.seq ?_
          refine CW.seq ?_
          refine CW.region fun L hL => ?_
          refine LW.rd hL rfl (Wants.free rfl) rfl (Rd.move (v := .pointer r3) rfl) ?_
          refine LW.call hL rfl (Wants.free rfl) rfl (Cl.fn (f := 50) rfl Try.func50 (by kernel_rfl) rfl) h (fun e w25 h_ => ?_)
          clear h
          obtain ⟨r13, rfl, h⟩ := h_
          obtain ⟨hsm10, h⟩ := h
          replace hB := Boxes.sameS hB hsm10 (by simp)
          refine ⟨_, rfl, ?_⟩
          refine LW.nil hL rfl ?_
          refine NW.then ?_
          refine CW.block ?_
          obtain ⟨S1, Sp1, keep1, hfn_, hit_, hkp_, I2, X1, hst_I2, hst_X1, h0_, hrd_, hdn_, hso_X1⟩ := h
          refine XR.CW.rangeV (α := Int × Int) (enc := (fun x : Int × Int => #[.int .i64 x.1, .int .u32 x.2])) (S := S1) (Sp := Sp1) (keep := keep1) rfl hfn_ (fun _ => rfl) (by decide) hit_ (fun (O_ : List Nat) (pre_ : List (Int × Int)) (w_ : World) => ∃ (c1 : Int), I2 c1 O_ pre_ w_ ∧ ∃ (u1 : Value), Boxes w_ [(b1, [.int .i64 pages1], 3), (b2, [u1], 4), (b7, [.int .i64 c1], 3)]) (fun (c_ : Code) (O_ : List Nat) (pre_ : List (Int × Int)) (w_ : World) => (c_ = Code.ret ∧ ∃ (c2 : Bool) (c3 : Int), X1 c2 c3 O_ pre_ w_ ∧ Boxes w_ [(b1, [.int .i64 pages1], 3), (b2, [.bool c2], 4), (b7, [.int .i64 c3], 3)])) ?_ ?_ ?_ hkp_ ?_ ?_ ?_
          · intro pre_ O_ O2_ A_ B_ hi_ hO_ hc_ hO2_ hg_
            have hB0_ := (hB.sel [1, 2, 0] (by decide) rfl)
            obtain ⟨c1, hi_, u1, hB⟩ := hi_
            exact ⟨c1, hst_I2 c1 pre_ O_ O2_ A_ B_ hi_ hO_ hc_ hO2_ hg_, u1, hB.stab hB0_ rfl hO_ hc_⟩
          · intro c_ pre_ O_ O2_ A_ B_ hi_ hO_ hc_ hO2_ hg_
            have hB0_ := (hB.sel [1, 2, 0] (by decide) rfl)
            rcases hi_ with ⟨hcc_, c2, c3, hi_, hB⟩
            · exact ⟨hcc_, c2, c3, hst_X1 c2 c3 pre_ O_ O2_ A_ B_ hi_ hO_ hc_ hO2_ hg_, hB.stab hB0_ rfl hO_ hc_⟩
          · intro O_ A_ hc_ hO_
            exact ⟨0, h0_ O_ A_ hc_ hO_, .bool false, Boxes.chg (hB.sel [1, 2, 0] (by decide) rfl) hc_ (by simp)⟩
          · intro l1 O1 pre1 x_ w26 hO_ hl_ hSp_ hi_
            obtain ⟨x1, x2⟩ := x_
            obtain ⟨c1, hi_, u1, hB⟩ := hi_
            have h := hrd_ l1 O1 pre1 x1 x2 c1 w26 hO_ hl_ hSp_ hi_
            refine XR.CW.seq ?_
            refine XR.CW.region fun L hL => ?_
            refine XR.LW.rd hL rfl (Wants.free rfl) rfl (Rd.assign (v := .int .i64 x1) rfl) ?_
            refine XR.LW.nil hL rfl ?_
            refine XR.NW.then ?_
            refine XR.CW.region fun L hL => ?_
            refine XR.LW.rd hL rfl (Wants.free rfl) rfl (Rd.assign (v := .int .u32 x2) rfl) ?_
            refine XR.LW.nil hL rfl ?_
            refine XR.NW.begin (Chg.refl [] w26) (fun w27 hcb_w27 hlp_ hib_ => ?_)
            have hc_w27 : Chg [l1] w26 w27 := sil_more (Chg.refl [] w26) hcb_w27
            replace hB := hB.notloop hlp_ hcb_w27
            replace h := h  w27  hc_w27
            refine XR.CW.block ?_
            refine XR.CW.seq ?_
            refine XR.CW.seq ?_
            refine XR.CW.region fun L hL => ?_
            refine XR.LW.rd hL rfl (Wants.free rfl) rfl (Rd.move (v := .int .i64 x1) rfl) ?_
            refine XR.LW.rd hL rfl (Wants.free rfl) rfl (Rd.bin (v := .bool (decide (x1 < 0))) rfl rfl (fun w => by kernel_rfl)) ?_
            refine XR.LW.rd hL rfl (Wants.free rfl) rfl (Rd.move (v := .bool (decide (x1 < 0))) rfl) ?_
            obtain ⟨J5, hJ5, h1_J5, h0_J5⟩ := h
            suffices K5 : ∀ (b8 : Bool) (w28 : World), Boxes w28 [(b1, [.int .i64 pages1], 3), (b2, [u1], 4), (b7, [.int .i64 c1], 3)] → J5 b8 w28 → L 8 [(4, .pointer (some (⟨b1, 0, none⟩ : Addr))), (8, .pointer (some (⟨b2, 0, none⟩ : Addr))), (9, .pointer r3), (10, .int .i64 r4), (15, .pointer (some (⟨b6, 0, none⟩ : Addr))), (16, .pointer (some (⟨b7, 0, none⟩ : Addr))), (17, .int .i64 x1), (18, .int .u32 x2), (109, .int .i64 x1), (110, .int .u32 x2), (118, .bool b8)] w28 by
              rcases Bool.eq_false_or_eq_true (decide (x1 < 0)) with hb11 | hb11
              · have h := h0_J5 hb11
                refine XR.LW.skip hL rfl (Skips.on rfl rfl rfl rfl rfl hb11) rfl ?_
                refine XR.LW.skip hL rfl (Skips.on rfl rfl rfl rfl rfl hb11) rfl ?_
                refine XR.LW.skip hL rfl (Skips.on rfl rfl rfl rfl rfl hb11) rfl ?_
                refine XR.LW.skip hL rfl (Skips.on rfl rfl rfl rfl rfl hb11) rfl ?_
                refine XR.LW.rd hL rfl (Wants.free rfl) rfl (Rd.pickT rfl hb11 rfl) ?_
                exact XR.LW.sub hL (by exact ⟨rfl, rfl, rfl, rfl, rfl, rfl, rfl, rfl, rfl, rfl, rfl, trivial⟩) (K5 true w27 (by exact hB) h)
              · have h := h1_J5 hb11
                refine XR.LW.rd hL rfl (Wants.on rfl rfl rfl rfl rfl hb11) rfl (Rd.move (v := .int .i64 x1) rfl) ?_
                refine XR.LW.rd hL rfl (Wants.on rfl rfl rfl rfl rfl hb11) rfl (Rd.ld (v := .int .i64 pages1) rfl (by kernel_rfl) (eqs (box_cell (hB.at (i := 0) rfl) rfl))) ?_
                refine XR.LW.rd hL rfl (Wants.on rfl rfl rfl rfl rfl hb11) rfl (Rd.bin (v := .int .i64 (IntKind.wrap .i64 (64 * pages1))) rfl rfl (fun w => by kernel_rfl)) ?_
                refine XR.LW.rd hL rfl (Wants.on rfl rfl rfl rfl rfl hb11) rfl (Rd.bin (v := .bool (decide (x1 ≥ (IntKind.wrap .i64 (64 * pages1))))) rfl rfl (fun w => by kernel_rfl)) ?_
                refine XR.LW.rd hL rfl (Wants.free rfl) rfl (Rd.pickF rfl hb11 rfl) ?_
                exact XR.LW.sub hL (by exact ⟨rfl, rfl, rfl, rfl, rfl, rfl, rfl, rfl, rfl, rfl, rfl, trivial⟩) (K5 (decide (x1 ≥ (IntKind.wrap .i64 (64 * pages1)))) w27 (by exact hB) h)
            intro b8 w28 hB h_
            have h := hJ5 b8 w28 h_; clear h_
            refine XR.LW.rd hL rfl (Wants.free rfl) rfl (Rd.move (v := .bool b8) rfl) ?_
            suffices K6 : L 12 [(4, .pointer (some (⟨b1, 0, none⟩ : Addr))), (8, .pointer (some (⟨b2, 0, none⟩ : Addr))), (9, .pointer r3), (10, .int .i64 r4), (15, .pointer (some (⟨b6, 0, none⟩ : Addr))), (16, .pointer (some (⟨b7, 0, none⟩ : Addr))), (17, .int .i64 x1), (109, .int .i64 x1), (110, .int .u32 x2), (122, .bool (b8 || x2 == 0))] w28 by
              rcases Bool.eq_false_or_eq_true b8 with hb13 | hb13
              · skip
                refine XR.LW.skip hL rfl (Skips.on rfl rfl rfl rfl rfl hb13) rfl ?_
                refine XR.LW.skip hL rfl (Skips.on rfl rfl rfl rfl rfl hb13) rfl ?_
                refine XR.LW.rd hL rfl (Wants.free rfl) rfl (Rd.pickT rfl hb13 rfl) ?_
                exact XR.LW.sub hL (by exact ⟨rfl, rfl, rfl, rfl, rfl, rfl, rfl, rfl, rfl, (by rw [hb13]; rfl), trivial⟩) K6
              · skip
                refine XR.LW.rd hL rfl (Wants.on rfl rfl rfl rfl rfl hb13) rfl (Rd.move (v := .int .u32 x2) rfl) ?_
                refine XR.LW.rd hL rfl (Wants.on rfl rfl rfl rfl rfl hb13) rfl (Rd.bin (v := .bool (x2 == 0)) rfl rfl (fun w => by kernel_rfl)) ?_
                refine XR.LW.rd hL rfl (Wants.free rfl) rfl (Rd.pickF rfl hb13 rfl) ?_
                exact XR.LW.sub hL (by exact ⟨rfl, rfl, rfl, rfl, rfl, rfl, rfl, rfl, rfl, (by rw [hb13]; rfl), trivial⟩) K6
            refine XR.LW.nil hL rfl ?_
            refine XR.NW.then ?_
            refine XR.CW.cond rfl (fun hb14 => ?_) (fun hb14 => ?_)
            · replace h := h.1 hb14
              refine XR.CW.seq ?_
              refine XR.CW.region fun L hL => ?_
              obtain ⟨w29, hw_w29⟩ : ∃ x, x = World.setCell w28 (⟨b2, 0, none⟩ : Addr) (.bool false) := ⟨_, rfl⟩
              refine XR.LW.eff hL rfl (Wants.free rfl) rfl (stE hw_w29 (Ef.st rfl rfl rfl (by kernel_rfl) (box_cell (v := u1) (hB.at (i := 1) rfl) rfl) (free_of (hB.at (i := 1) rfl) 0))) ?_
              replace hB : Boxes w29 [(b1, [.int .i64 pages1], 3), (b2, [.bool false], 4), (b7, [.int .i64 c1], 3)] := Boxes.store1  (i := 1) (o := 0) hB rfl rfl rfl rfl hw_w29
              have hc_w29 : Chg [b2] w28 w29 := sil_more (Chg.refl [] w28) (sil_c1 hw_w29)
              refine XR.LW.nil hL rfl ?_
              refine XR.NW.then ?_
              refine XR.CW.ret ?_
              refine RW.then ?_
              refine RW.block ?_
              replace h := h  w29  hc_w29
              exact fun a_ ha_ => ⟨h.1, (⟨rfl, false, c1, h.2.1, hB⟩), h.2.2⟩
            · replace h := h.2 hb14
              refine XR.CW.skip ?_
              refine XR.NW.then ?_
              obtain ⟨J6, hJ6, h⟩ := h
              refine XR.CW.cut (S := Int) (fun c4 => [(4, .pointer (some (⟨b1, 0, none⟩ : Addr))), (8, .pointer (some (⟨b2, 0, none⟩ : Addr))), (9, .pointer r3), (10, .int .i64 r4), (15, .pointer (some (⟨b6, 0, none⟩ : Addr))), (16, .pointer (some (⟨b7, 0, none⟩ : Addr))), (17, .int .i64 x1), (109, .int .i64 x1), (110, .int .u32 x2)]) (fun c4 w30 => J6 c4 w30 ∧ Boxes w30 [(b1, [.int .i64 pages1], 3), (b2, [u1], 4), (b7, [.int .i64 c4], 3)]) (fun c4 w30 h_ => ?_) ?_
              · obtain ⟨h_, hB⟩ := h_; replace h := hJ6 c4 w30 h_; clear h_
                refine XR.CW.region fun L hL => ?_
                refine XR.LW.rd hL rfl (Wants.free rfl) rfl (Rd.move (v := .int .i64 x1) rfl) ?_
                refine XR.LW.rd hL rfl (Wants.free rfl) rfl (Rd.bin (v := .int .i64 (IntKind.wrap .i64 (Int.tdiv x1 64))) rfl rfl (fun w => by kernel_rfl)) ?_
                obtain ⟨hi13, hi14, h⟩ := h
                refine XR.LW.rd hL rfl (Wants.free rfl) rfl (Rd.iaA (sz := 1) rfl rfl Try.underlying126 (by kernel_rfl) hi13 hi14) ?_
                obtain ⟨⟨o_w31, ho1⟩, hf1, h⟩ := h
                obtain ⟨w31, hw_w31⟩ : ∃ w31, w31 = World.setCell w30 ((⟨b6, 0, none⟩ : Addr).add (Int.toNat (IntKind.wrap .i64 (Int.tdiv x1 64)) * 1)) (.bool true) := ⟨_, rfl⟩
                replace h := h w31 hw_w31
                refine XR.LW.eff hL rfl (Wants.free rfl) rfl (stE hw_w31 (Ef.st rfl rfl rfl (by kernel_rfl) ho1 hf1)) ?_
                obtain ⟨hsm11, h⟩ := h
                replace hB := Boxes.sameS hB hsm11 (by simp)
                refine XR.LW.nil hL rfl ?_
                refine NW.block ?_
                exact fun a_ ha_ => ⟨h.1, ⟨c4, h.2.1, u1, hB⟩, h.2.2⟩
              · skip
                refine XR.CW.seq ?_
                refine XR.CW.region fun L hL => ?_
                refine XR.LW.rd hL rfl (Wants.free rfl) rfl (Rd.move (v := .int .i64 x1) rfl) ?_
                refine XR.LW.rd hL rfl (Wants.free rfl) rfl (Rd.bin (v := .int .i64 (IntKind.wrap .i64 (Int.tdiv x1 64))) rfl rfl (fun w => by kernel_rfl)) ?_
                obtain ⟨hi15, hi16, h⟩ := h
                refine XR.LW.rd hL rfl (Wants.free rfl) rfl (Rd.iaA (sz := 1) rfl rfl Try.underlying126 (by kernel_rfl) hi15 hi16) ?_
                obtain ⟨t8, hc7, h⟩ := h
                refine XR.LW.rd hL rfl (Wants.free rfl) rfl (Rd.ld (v := .bool t8) rfl (by kernel_rfl) (eqs hc7)) ?_
                refine XR.LW.rd hL rfl (Wants.free rfl) rfl (Rd.un (v := .bool (!t8)) rfl (fun _ => by kernel_rfl)) ?_
                refine XR.LW.nil hL rfl ?_
                refine XR.NW.then ?_
                refine XR.CW.cond rfl (fun hb15 => ?_) (fun hb15 => ?_)
                · replace h := h.1 hb15
                  refine XR.CW.region fun L hL => ?_
                  refine XR.LW.rd hL rfl (Wants.free rfl) rfl (Rd.ld (v := .int .i64 c1) rfl (by kernel_rfl) (eqs (box_cell (hB.at (i := 2) rfl) rfl))) ?_
                  refine XR.LW.rd hL rfl (Wants.free rfl) rfl (Rd.bin (v := .int .i64 (IntKind.wrap .i64 (c1 + 1))) rfl rfl (fun w => by kernel_rfl)) ?_
                  obtain ⟨w32, hw_w32⟩ : ∃ x, x = World.setCell w28 (⟨b7, 0, none⟩ : Addr) (.int .i64 (IntKind.wrap .i64 (c1 + 1))) := ⟨_, rfl⟩
                  refine XR.LW.eff hL rfl (Wants.free rfl) rfl (stE hw_w32 (Ef.st rfl rfl rfl (by kernel_rfl) (box_cell (v := .int .i64 c1) (hB.at (i := 2) rfl) rfl) (free_of (hB.at (i := 2) rfl) 0))) ?_
                  replace hB : Boxes w32 [(b1, [.int .i64 pages1], 3), (b2, [u1], 4), (b7, [.int .i64 (IntKind.wrap .i64 (c1 + 1))], 3)] := Boxes.store1  (i := 2) (o := 0) hB rfl rfl rfl rfl hw_w32
                  have hc_w32 : Chg [b7] w28 w32 := sil_more (Chg.refl [] w28) (sil_c1 hw_w32)
                  refine XR.LW.nil hL rfl ?_
                  replace h := h  w32  hc_w32
                  exact NW.cut (S := Int) (Ek := fun c4 => [(4, .pointer (some (⟨b1, 0, none⟩ : Addr))), (8, .pointer (some (⟨b2, 0, none⟩ : Addr))), (9, .pointer r3), (10, .int .i64 r4), (15, .pointer (some (⟨b6, 0, none⟩ : Addr))), (16, .pointer (some (⟨b7, 0, none⟩ : Addr))), (17, .int .i64 x1), (109, .int .i64 x1), (110, .int .u32 x2)]) (IntKind.wrap .i64 (c1 + 1)) (by exact ⟨rfl, rfl, rfl, rfl, rfl, rfl, rfl, rfl, rfl, trivial⟩) ⟨h, hB⟩
                · replace h := h.2 hb15
                  refine XR.CW.skip ?_
                  exact NW.cut (S := Int) (Ek := fun c4 => [(4, .pointer (some (⟨b1, 0, none⟩ : Addr))), (8, .pointer (some (⟨b2, 0, none⟩ : Addr))), (9, .pointer r3), (10, .int .i64 r4), (15, .pointer (some (⟨b6, 0, none⟩ : Addr))), (16, .pointer (some (⟨b7, 0, none⟩ : Addr))), (17, .int .i64 x1), (109, .int .i64 x1), (110, .int .u32 x2)]) c1 (by exact ⟨rfl, rfl, rfl, rfl, rfl, rfl, rfl, rfl, rfl, trivial⟩) ⟨h, hB⟩
          · intro d1 O2 xs1 w33 hO_ hd_ hdh_ hS_ hi_
            obtain ⟨c1, hi_, u1, hB⟩ := hi_
            have h := hdn_ d1 O2 xs1 c1 w33 hO_ hd_ hS_ hi_
            have hK := XR.Marks.cons (XR.Marks.nil _) hdh_ (by simp)
            refine NW.block ?_
            refine NW.then ?_
            refine CW.seq ?_
            refine CW.seq ?_
            refine CW.region fun L hL => ?_
            refine LW.rd hL rfl (Wants.free rfl) rfl (Rd.assign (v := .int .i64 0) rfl) ?_
            refine LW.nil hL rfl ?_
            refine NW.then ?_
            refine CW.block ?_
            obtain ⟨I3, m2, hI3, h⟩ := h
            refine CW.loop (S := Int) (fun p1 => [(4, .pointer (some (⟨b1, 0, none⟩ : Addr))), (8, .pointer (some (⟨b2, 0, none⟩ : Addr))), (9, .pointer r3), (10, .int .i64 r4), (15, .pointer (some (⟨b6, 0, none⟩ : Addr))), (16, .pointer (some (⟨b7, 0, none⟩ : Addr))), (19, .int .i64 p1)]) (fun p1 w34 => I3 p1 w34 ∧ XR.Marks w34 [d1] ∧ ∃ (u2 : Value), Boxes w34 [(b1, [.int .i64 pages1], 3), (b2, [u2], 4), (b7, [.int .i64 c1], 3)]) (fun p1 w34 => m2 p1 w34) 0 (by exact ⟨rfl, rfl, rfl, rfl, rfl, rfl, rfl, trivial⟩) ⟨hI3, hK, u1, hB⟩ (fun p1 w34 hI3 => ?_)
            obtain ⟨hI3, hK, u2, hB⟩ := hI3
            replace h := h p1 w34 hI3
            refine CW.seq ?_
            refine CW.seq ?_
            refine CW.region fun L hL => ?_
            refine LW.rd hL rfl (Wants.free rfl) rfl (Rd.move (v := .int .i64 p1) rfl) ?_
            refine LW.rd hL rfl (Wants.free rfl) rfl (Rd.ld (v := .int .i64 pages1) rfl (by kernel_rfl) (eqs (box_cell (hB.at (i := 0) rfl) rfl))) ?_
            refine LW.rd hL rfl (Wants.free rfl) rfl (Rd.bin (v := .bool (decide (p1 < pages1))) rfl rfl (fun w => by kernel_rfl)) ?_
            refine LW.nil hL rfl ?_
            refine NW.then ?_
            refine CW.cond rfl (fun hb16 => ?_) (fun hb16 => ?_)
            · replace h := h.1 hb16
              refine CW.skip ?_
              refine NW.then ?_
              refine CW.seq ?_
              refine CW.block ?_
              refine CW.seq ?_
              obtain ⟨w35, hw_w35⟩ : ∃ x, x = World.drew w34 := ⟨_, rfl⟩
              have hc_w35 := sil_drew (Chg.refl [] w34) hw_w35
              replace hB := hB.drew hw_w35
              replace hK := XR.Marks.drew hK hw_w35
              replace h := h  w35  hc_w35
              obtain ⟨hi17, hi18, h⟩ := h
              obtain ⟨t9, hc8, h⟩ := h
              refine CW.drawn (fun w => w.cell? ((⟨b6, 0, none⟩ : Addr).add (Int.toNat p1 * 1)) = some (.bool t9) ∧ True) 7 (by kernel_rfl) fun H hH => ?_
              rw [← hw_w35]
              have hS1 : w35.cell? ((⟨b6, 0, none⟩ : Addr).add (Int.toNat p1 * 1)) = some (.bool t9) ∧ True := ⟨hc8, trivial⟩
              refine HW.pure (i := 0) hH rfl (by kernel_rfl) (Wants.free rfl) rfl (fun _ => hS1) (Rd.move (v := .pointer r3) rfl) ?_
              refine HW.pure (i := 1) hH rfl (by kernel_rfl) (Wants.free rfl) rfl (fun _ => hS1) (Rd.move (v := .int .i64 p1) rfl) ?_
              refine HW.pure (i := 3) hH rfl (by kernel_rfl) (Wants.free rfl) rfl (fun _ => hS1) (Rd.move (v := .int .i64 p1) rfl) ?_
              refine HW.pure (i := 4) hH rfl (by kernel_rfl) (Wants.free rfl) rfl (fun _ => hS1) (Rd.iaA (sz := 1) rfl rfl Try.underlying126 (by kernel_rfl) hi17 hi18) ?_
              refine HW.take (i := 5) hH rfl (by kernel_rfl) (by kernel_rfl) (Wants.free rfl) rfl (fun _ => hS1) (Rd.ld (v := .bool t9) rfl (by kernel_rfl) (fun w h => h.1)) ?_
              refine HW.call (i := 2) hH (by kernel_rfl) rfl (Wants.free rfl) rfl (Cl.fn (f := 56) rfl Try.func56 (by kernel_rfl) rfl) h (fun e w36 h_ => ?_)
              clear h
              obtain ⟨r14, rfl, hS2, h⟩ := h_
              obtain ⟨hsm12, h⟩ := h
              replace hB := Boxes.sameS hB hsm12 (by simp)
              replace hK := XR.Marks.same hK hsm12 (by simp)
              have hS3 := (⟨hS2, trivial⟩ : w36.cell? ((⟨b6, 0, none⟩ : Addr).add (Int.toNat p1 * 1)) = some (.bool t9) ∧ True)
              refine ⟨_, rfl, (fun _ => hS3), ?_⟩
              refine HW.pure (i := 6) hH rfl (by kernel_rfl) (Wants.free rfl) rfl (fun _ => hS3) (Rd.bin (v := .bool (!(r14 == t9))) rfl rfl (fun w => by kernel_rfl)) ?_
              refine HW.done hH (by kernel_rfl) ?_
              refine NW.then ?_
              refine CW.cond rfl (fun hb17 => ?_) (fun hb17 => ?_)
              · replace h := h.1 hb17
                refine CW.seq ?_
                refine CW.region fun L hL => ?_
                obtain ⟨w37, hw_w37⟩ : ∃ x, x = World.setCell w36 (⟨b2, 0, none⟩ : Addr) (.bool false) := ⟨_, rfl⟩
                refine LW.eff hL rfl (Wants.free rfl) rfl (stE hw_w37 (Ef.st rfl rfl rfl (by kernel_rfl) (box_cell (v := u2) (hB.at (i := 1) rfl) rfl) (free_of (hB.at (i := 1) rfl) 0))) ?_
                replace hK := XR.Marks.set hK (hB.at (i := 1) rfl) (sil_c1 hw_w37)
                replace hB : Boxes w37 [(b1, [.int .i64 pages1], 3), (b2, [.bool false], 4), (b7, [.int .i64 c1], 3)] := Boxes.store1  (i := 1) (o := 0) hB rfl rfl rfl rfl hw_w37
                have hc_w37 : Chg [b2] w36 w37 := sil_more (Chg.refl [] w36) (sil_c1 hw_w37)
                refine LW.nil hL rfl ?_
                refine NW.then ?_
                replace h := h  w37  hc_w37
                refine CW.ret ?_
                refine RW.block ?_
                refine RW.then ?_
                refine RW.then ?_
                refine RW.block ?_
                refine RW.then ?_
                exact XR.resM (ms := [d1]) (vs := [.bool false]) hK rfl (fun w_ hc_ => ⟨(ResOK.c rfl (lv1 (by kernel_rfl) (box_cell (Boxes.at (i := 1) (hB.marks hK hc_) rfl) rfl)) ResOK.nil), false, rfl, h w_ hc_⟩)
              · replace h := h.2 hb17
                refine CW.skip ?_
                refine NW.block ?_
                refine NW.then ?_
                refine CW.region fun L hL => ?_
                refine LW.rd hL rfl (Wants.free rfl) rfl (Rd.move (v := .int .i64 p1) rfl) ?_
                refine LW.rd hL rfl (Wants.free rfl) rfl (Rd.bin (v := .int .i64 (IntKind.wrap .i64 (p1 + 1))) rfl rfl (fun w => by kernel_rfl)) ?_
                refine LW.rd hL rfl (Wants.free rfl) rfl (Rd.assign (v := .int .i64 (IntKind.wrap .i64 (p1 + 1))) rfl) ?_
                refine LW.nil hL rfl ?_
                exact NW.loop (S := Int) (Ek := fun p1 => [(4, .pointer (some (⟨b1, 0, none⟩ : Addr))), (8, .pointer (some (⟨b2, 0, none⟩ : Addr))), (9, .pointer r3), (10, .int .i64 r4), (15, .pointer (some (⟨b6, 0, none⟩ : Addr))), (16, .pointer (some (⟨b7, 0, none⟩ : Addr))), (19, .int .i64 p1)]) (IntKind.wrap .i64 (p1 + 1)) (by exact ⟨rfl, rfl, rfl, rfl, rfl, rfl, rfl, trivial⟩) ⟨⟨h.1, hK, u2, hB⟩, h.2⟩
            · replace h := h.2 hb16
              refine CW.exit ?_
              refine XW.then ?_
              refine XW.then ?_
              refine XW.hit ?_
              refine NW.then ?_
              refine CW.seq ?_
              refine CW.seq ?_
              obtain ⟨w39, hw_w39⟩ : ∃ x, x = World.drew w34 := ⟨_, rfl⟩
              have hc_w39 := sil_drew (Chg.refl [] w34) hw_w39
              replace hB := hB.drew hw_w39
              replace hK := XR.Marks.drew hK hw_w39
              refine CW.drawn (fun w => Boxes w [(b7, [.int .i64 c1], 3)]) 4 (by kernel_rfl) fun H hH => ?_
              rw [← hw_w39]
              have hS4 : Boxes w39 [(b7, [.int .i64 c1], 3)] := (hB.sel [2] (by decide) rfl)
              refine HW.pure (i := 0) hH rfl (by kernel_rfl) (Wants.free rfl) rfl (fun _ => hS4) (Rd.move (v := .pointer r3) rfl) ?_
              refine HW.take (i := 2) hH rfl (by kernel_rfl) (by kernel_rfl) (Wants.free rfl) rfl (fun _ => hS4) (Rd.ld (v := .int .i64 c1) rfl (by kernel_rfl) (fun w h => box_cell (Boxes.at (i := 0) h rfl) rfl)) ?_
              replace h := h  w39  hc_w39
              refine HW.call (i := 1) hH (by kernel_rfl) rfl (Wants.free rfl) rfl (Cl.fn (f := 55) rfl Try.func55 (by kernel_rfl) rfl) h (fun e w40 h_ => ?_)
              clear h
              obtain ⟨r15, rfl, h⟩ := h_
              obtain ⟨hsm13, h⟩ := h
              replace hB := Boxes.sameS hB hsm13 (by simp)
              replace hK := XR.Marks.same hK hsm13 (by simp)
              have hS5 : Boxes w40 [(b7, [.int .i64 c1], 3)] := (hB.sel [2] (by decide) rfl)
              refine ⟨_, rfl, (fun _ => hS5), ?_⟩
              refine HW.pure (i := 3) hH rfl (by kernel_rfl) (Wants.free rfl) rfl (fun _ => hS5) (Rd.bin (v := .bool (!(r15 == c1))) rfl rfl (fun w => by kernel_rfl)) ?_
              refine HW.done hH (by kernel_rfl) ?_
              refine NW.then ?_
              refine CW.cond rfl (fun hb18 => ?_) (fun hb18 => ?_)
              · replace h := h.1 hb18
                refine CW.seq ?_
                refine CW.region fun L hL => ?_
                obtain ⟨w41, hw_w41⟩ : ∃ x, x = World.setCell w40 (⟨b2, 0, none⟩ : Addr) (.bool false) := ⟨_, rfl⟩
                refine LW.eff hL rfl (Wants.free rfl) rfl (stE hw_w41 (Ef.st rfl rfl rfl (by kernel_rfl) (box_cell (v := u2) (hB.at (i := 1) rfl) rfl) (free_of (hB.at (i := 1) rfl) 0))) ?_
                replace hK := XR.Marks.set hK (hB.at (i := 1) rfl) (sil_c1 hw_w41)
                replace hB : Boxes w41 [(b1, [.int .i64 pages1], 3), (b2, [.bool false], 4), (b7, [.int .i64 c1], 3)] := Boxes.store1  (i := 1) (o := 0) hB rfl rfl rfl rfl hw_w41
                have hc_w41 : Chg [b2] w40 w41 := sil_more (Chg.refl [] w40) (sil_c1 hw_w41)
                refine LW.nil hL rfl ?_
                refine NW.then ?_
                replace h := h  w41  hc_w41
                refine CW.ret ?_
                refine RW.then ?_
                exact XR.resM (ms := [d1]) (vs := [.bool false]) hK rfl (fun w_ hc_ => ⟨(ResOK.c rfl (lv1 (by kernel_rfl) (box_cell (Boxes.at (i := 1) (hB.marks hK hc_) rfl) rfl)) ResOK.nil), false, rfl, h w_ hc_⟩)
              · replace h := h.2 hb18
                refine CW.skip ?_
                refine NW.then ?_
                refine CW.seq ?_
                refine CW.region fun L hL => ?_
                refine LW.rd hL rfl (Wants.free rfl) rfl (Rd.move (v := .pointer r3) rfl) ?_
                refine LW.rd hL rfl (Wants.free rfl) rfl (Rd.move (v := .pointer r3) rfl) ?_
                refine LW.call hL rfl (Wants.free rfl) rfl (Cl.fn (f := 54) rfl Try.func54 (by kernel_rfl) rfl) h (fun e w43 h_ => ?_)
                clear h
                obtain ⟨r16, rfl, h⟩ := h_
                obtain ⟨hsm14, h⟩ := h
                replace hB := Boxes.sameS (hB.sel [0, 1] (by decide) rfl) hsm14 (by simp)
                replace hK := XR.Marks.same hK hsm14 (by simp)
                refine ⟨_, rfl, ?_⟩
                refine LW.call hL rfl (Wants.free rfl) rfl (Cl.fn (f := 49) rfl Try.func49 (by kernel_rfl) rfl) h (fun e w44 h_ => ?_)
                clear h
                obtain ⟨r17, rfl, h⟩ := h_
                obtain ⟨hsm15, h⟩ := h
                replace hB := Boxes.sameS hB hsm15 (by simp)
                replace hK := XR.Marks.same hK hsm15 (by simp)
                refine ⟨_, rfl, ?_⟩
                refine LW.rd hL rfl (Wants.free rfl) rfl (Rd.assign (v := .int .i64 r17) rfl) ?_
                refine LW.nil hL rfl ?_
                refine NW.then ?_
                refine CW.seq ?_
                refine CW.region fun L hL => ?_
                refine LW.rd hL rfl (Wants.free rfl) rfl (Rd.ld (v := .int .i64 pages1) rfl (by kernel_rfl) (eqs (box_cell (hB.at (i := 0) rfl) rfl))) ?_
                refine LW.call hL rfl (Wants.free rfl) rfl (Cl.fn (f := 51) rfl Try.func51 (by kernel_rfl) rfl) h (fun e w45 h_ => ?_)
                clear h
                obtain ⟨r18, r19, rfl, h⟩ := h_
                obtain ⟨hsm16, h⟩ := h
                replace hB := Boxes.sameS (hB.sel [1] (by decide) rfl) hsm16 (by simp)
                replace hK := XR.Marks.same hK hsm16 (by simp)
                refine ⟨_, rfl, ?_⟩
                refine LW.rd hL rfl (Wants.free rfl) rfl (Rd.move (v := .tuple #[.pointer r18, .int .i64 r19]) rfl) ?_
                refine LW.rd hL rfl (Wants.free rfl) rfl (Rd.extract (v := .pointer r18) rfl rfl) ?_
                refine LW.rd hL rfl (Wants.free rfl) rfl (Rd.extract (v := .int .i64 r19) rfl rfl) ?_
                refine LW.rd hL rfl (Wants.free rfl) rfl (Rd.assign (v := .pointer r18) rfl) ?_
                refine LW.rd hL rfl (Wants.free rfl) rfl (Rd.assign (v := .int .i64 r19) rfl) ?_
                refine LW.nil hL rfl ?_
                refine NW.then ?_
                refine CW.seq ?_
                refine CW.region fun L hL => ?_
                refine LW.rd hL rfl (Wants.free rfl) rfl (Rd.move (v := .int .i64 r4) rfl) ?_
                refine LW.call hL rfl (Wants.free rfl) rfl (Cl.fn (f := 44) rfl Try.func44 (by kernel_rfl) rfl) h (fun e w46 h_ => ?_)
                clear h
                obtain ⟨r20, rfl, h⟩ := h_
                obtain ⟨hsm17, h⟩ := h
                replace hB := Boxes.sameS hB hsm17 (by simp)
                replace hK := XR.Marks.same hK hsm17 (by simp)
                refine ⟨_, rfl, ?_⟩
                refine LW.rd hL rfl (Wants.free rfl) rfl (Rd.bin (v := .bool (r20 == 0)) rfl rfl (fun w => by kernel_rfl)) ?_
                refine LW.rd hL rfl (Wants.free rfl) rfl (Rd.move (v := .bool (r20 == 0)) rfl) ?_
                obtain ⟨J7, hJ7, h1_J7, h0_J7⟩ := h
                suffices K7 : ∀ (b9 : Bool) (w47 : World), XR.Marks w47 [d1] → Boxes w47 [(b2, [u2], 4)] → J7 b9 w47 → L 8 [(8, .pointer (some (⟨b2, 0, none⟩ : Addr))), (9, .pointer r3), (21, .pointer r18), (165, .bool b9)] w47 by
                  rcases Bool.eq_false_or_eq_true (r20 == 0) with hb19 | hb19
                  · have h := h1_J7 hb19
                    refine LW.rd hL rfl (Wants.on rfl rfl rfl rfl rfl hb19) rfl (Rd.move (v := .int .i64 r17) rfl) ?_
                    refine LW.call hL rfl (Wants.on rfl rfl rfl rfl rfl hb19) rfl (Cl.fn (f := 44) rfl Try.func44 (by kernel_rfl) rfl) h (fun e w48 h_ => ?_)
                    clear h
                    obtain ⟨r21, rfl, h⟩ := h_
                    obtain ⟨hsm18, h⟩ := h
                    replace hB := Boxes.sameS hB hsm18 (by simp)
                    replace hK := XR.Marks.same hK hsm18 (by simp)
                    refine ⟨_, rfl, ?_⟩
                    refine LW.rd hL rfl (Wants.on rfl rfl rfl rfl rfl hb19) rfl (Rd.bin (v := .bool (r21 == 0)) rfl rfl (fun w => by kernel_rfl)) ?_
                    refine LW.rd hL rfl (Wants.free rfl) rfl (Rd.pickT rfl hb19 rfl) ?_
                    exact LW.sub hL (by exact ⟨rfl, rfl, rfl, rfl, trivial⟩) (K7 (r21 == 0) w48 hK (by exact hB) h)
                  · have h := h0_J7 hb19
                    refine LW.skip hL rfl (Skips.on rfl rfl rfl rfl rfl hb19) rfl ?_
                    refine LW.skip hL rfl (Skips.on rfl rfl rfl rfl rfl hb19) rfl ?_
                    refine LW.skip hL rfl (Skips.on rfl rfl rfl rfl rfl hb19) rfl ?_
                    refine LW.rd hL rfl (Wants.free rfl) rfl (Rd.pickF rfl hb19 rfl) ?_
                    exact LW.sub hL (by exact ⟨rfl, rfl, rfl, rfl, trivial⟩) (K7 false w46 hK (by exact hB) h)
                intro b9 w47 hK hB h_
                have h := hJ7 b9 w47 h_; clear h_
                refine LW.rd hL rfl (Wants.free rfl) rfl (Rd.move (v := .bool b9) rfl) ?_
                obtain ⟨J8, hJ8, h1_J8, h0_J8⟩ := h
                suffices K8 : ∀ (b10 : Bool) (w49 : World), XR.Marks w49 [d1] → Boxes w49 [(b2, [u2], 4)] → J8 b10 w49 → L 13 [(8, .pointer (some (⟨b2, 0, none⟩ : Addr))), (9, .pointer r3), (21, .pointer r18), (170, .bool b10)] w49 by
                  rcases Bool.eq_false_or_eq_true b9 with hb20 | hb20
                  · have h := h1_J8 hb20
                    refine LW.rd hL rfl (Wants.on rfl rfl rfl rfl rfl hb20) rfl (Rd.move (v := .pointer r3) rfl) ?_
                    refine LW.call hL rfl (Wants.on rfl rfl rfl rfl rfl hb20) rfl (Cl.fn (f := 55) rfl Try.func55 (by kernel_rfl) rfl) h (fun e w50 h_ => ?_)
                    clear h
                    obtain ⟨r22, rfl, h⟩ := h_
                    obtain ⟨hsm19, h⟩ := h
                    replace hB := Boxes.sameS hB hsm19 (by simp)
                    replace hK := XR.Marks.same hK hsm19 (by simp)
                    refine ⟨_, rfl, ?_⟩
                    refine LW.rd hL rfl (Wants.on rfl rfl rfl rfl rfl hb20) rfl (Rd.bin (v := .bool (r22 == 0)) rfl rfl (fun w => by kernel_rfl)) ?_
                    refine LW.rd hL rfl (Wants.free rfl) rfl (Rd.pickT rfl hb20 rfl) ?_
                    exact LW.sub hL (by exact ⟨rfl, rfl, rfl, rfl, trivial⟩) (K8 (r22 == 0) w50 hK (by exact hB) h)
                  · have h := h0_J8 hb20
                    refine LW.skip hL rfl (Skips.on rfl rfl rfl rfl rfl hb20) rfl ?_
                    refine LW.skip hL rfl (Skips.on rfl rfl rfl rfl rfl hb20) rfl ?_
                    refine LW.skip hL rfl (Skips.on rfl rfl rfl rfl rfl hb20) rfl ?_
                    refine LW.rd hL rfl (Wants.free rfl) rfl (Rd.pickF rfl hb20 rfl) ?_
                    exact LW.sub hL (by exact ⟨rfl, rfl, rfl, rfl, trivial⟩) (K8 false w47 hK (by exact hB) h)
                intro b10 w49 hK hB h_
                have h := hJ8 b10 w49 h_; clear h_
                refine LW.rd hL rfl (Wants.free rfl) rfl (Rd.move (v := .bool b10) rfl) ?_
                obtain ⟨J9, hJ9, h1_J9, h0_J9⟩ := h
                suffices K9 : ∀ (b11 : Bool) (w51 : World), XR.Marks w51 [d1] → Boxes w51 [(b2, [u2], 4)] → J9 b11 w51 → L 18 [(8, .pointer (some (⟨b2, 0, none⟩ : Addr))), (175, .bool b11)] w51 by
                  rcases Bool.eq_false_or_eq_true b10 with hb21 | hb21
                  · have h := h1_J9 hb21
                    refine LW.rd hL rfl (Wants.on rfl rfl rfl rfl rfl hb21) rfl (Rd.move (v := .pointer r3) rfl) ?_
                    refine LW.rd hL rfl (Wants.on rfl rfl rfl rfl rfl hb21) rfl (Rd.move (v := .pointer r18) rfl) ?_
                    refine LW.call hL rfl (Wants.on rfl rfl rfl rfl rfl hb21) rfl (Cl.fn (f := 53) rfl Try.func53 (by kernel_rfl) rfl) h (fun e w52 h_ => ?_)
                    clear h
                    obtain ⟨r23, rfl, h⟩ := h_
                    obtain ⟨hsm20, h⟩ := h
                    replace hB := Boxes.sameS hB hsm20 (by simp)
                    replace hK := XR.Marks.same hK hsm20 (by simp)
                    refine ⟨_, rfl, ?_⟩
                    refine LW.rd hL rfl (Wants.free rfl) rfl (Rd.pickT rfl hb21 rfl) ?_
                    exact LW.sub hL (by exact ⟨rfl, rfl, trivial⟩) (K9 r23 w52 hK (by exact hB) h)
                  · have h := h0_J9 hb21
                    refine LW.skip hL rfl (Skips.on rfl rfl rfl rfl rfl hb21) rfl ?_
                    refine LW.skip hL rfl (Skips.on rfl rfl rfl rfl rfl hb21) rfl ?_
                    refine LW.skip hL rfl (Skips.on rfl rfl rfl rfl rfl hb21) rfl ?_
                    refine LW.rd hL rfl (Wants.free rfl) rfl (Rd.pickF rfl hb21 rfl) ?_
                    exact LW.sub hL (by exact ⟨rfl, rfl, trivial⟩) (K9 false w49 hK (by exact hB) h)
                intro b11 w51 hK hB h_
                have h := hJ9 b11 w51 h_; clear h_
                refine LW.rd hL rfl (Wants.free rfl) rfl (Rd.move (v := .bool b11) rfl) ?_
                obtain ⟨J10, hJ10, h1_J10, h0_J10⟩ := h
                suffices K10 : ∀ (b12 : Bool) (w53 : World), XR.Marks w53 [d1] → Boxes w53 [(b2, [u2], 4)] → J10 b12 w53 → L 21 [(8, .pointer (some (⟨b2, 0, none⟩ : Addr))), (178, .bool b12)] w53 by
                  rcases Bool.eq_false_or_eq_true b11 with hb22 | hb22
                  · have h := h1_J10 hb22
                    refine LW.call hL rfl (Wants.on rfl rfl rfl rfl rfl hb22) rfl (Cl.fn (f := 40) rfl Try.func40 (by kernel_rfl) rfl) h (fun e w54 h_ => ?_)
                    clear h
                    obtain ⟨r24, rfl, h⟩ := h_
                    obtain ⟨hsm21, h⟩ := h
                    replace hB := Boxes.sameS hB hsm21 (by simp)
                    replace hK := XR.Marks.same hK hsm21 (by simp)
                    refine ⟨_, rfl, ?_⟩
                    refine LW.rd hL rfl (Wants.free rfl) rfl (Rd.pickT rfl hb22 rfl) ?_
                    exact LW.sub hL (by exact ⟨rfl, rfl, trivial⟩) (K10 r24 w54 hK (by exact hB) h)
                  · have h := h0_J10 hb22
                    refine LW.skip hL rfl (Skips.on rfl rfl rfl rfl rfl hb22) rfl ?_
                    refine LW.rd hL rfl (Wants.free rfl) rfl (Rd.pickF rfl hb22 rfl) ?_
                    exact LW.sub hL (by exact ⟨rfl, rfl, trivial⟩) (K10 false w51 hK (by exact hB) h)
                intro b12 w53 hK hB h_
                have h := hJ10 b12 w53 h_; clear h_
                obtain ⟨w55, hw_w55⟩ : ∃ x, x = World.setCell w53 (⟨b2, 0, none⟩ : Addr) (.bool b12) := ⟨_, rfl⟩
                refine LW.eff hL rfl (Wants.free rfl) rfl (stE hw_w55 (Ef.st rfl rfl rfl (by kernel_rfl) (box_cell (v := u2) (hB.at (i := 0) rfl) rfl) (free_of (hB.at (i := 0) rfl) 0))) ?_
                replace hK := XR.Marks.set hK (hB.at (i := 0) rfl) (sil_c1 hw_w55)
                replace hB : Boxes w55 [(b2, [.bool b12], 4)] := Boxes.store1  (i := 0) (o := 0) hB rfl rfl rfl rfl hw_w55
                have hc_w55 : Chg [b2] w53 w55 := sil_more (Chg.refl [] w53) (sil_c1 hw_w55)
                refine LW.nil hL rfl ?_
                refine NW.then ?_
                replace h := h  w55  hc_w55
                refine CW.ret ?_
                exact XR.resM (ms := [d1]) (vs := [.bool b12]) hK rfl (fun w_ hc_ => ⟨(ResOK.c rfl (lv1 (by kernel_rfl) (box_cell (Boxes.at (i := 0) (hB.marks hK hc_) rfl) rfl)) ResOK.nil), b12, rfl, h w_ hc_⟩)
          · intro d2 c_ O3 xs2 w57 hO_ hd_ hdh_ hS_ hi_
            rcases hi_ with ⟨rfl, c2, c3, hi_, hB⟩
            · have h := hso_X1 d2 O3 xs2 c2 c3 w57 hO_ hd_ hS_ hi_
              have hK := XR.Marks.cons (XR.Marks.nil _) hdh_ (by simp)
              refine CW.ret ?_
              refine RW.block ?_
              refine RW.then ?_
              exact XR.resM (ms := [d2]) (vs := [.bool c2]) hK rfl (fun w_ hc_ => ⟨(ResOK.c rfl (lv1 (by kernel_rfl) (box_cell (Boxes.at (i := 1) (hB.marks hK hc_) rfl) rfl)) ResOK.nil), c2, rfl, h w_ hc_⟩)

end Go.Proofs.Ytkfncibmfcdokaa
