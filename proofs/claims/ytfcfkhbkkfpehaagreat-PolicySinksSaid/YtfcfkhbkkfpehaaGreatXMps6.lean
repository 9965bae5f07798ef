/- Texts of the claim, merged: XHjudges XOpen3 XJudgesW XMisc XHsinks XSinksW XOpen7 XStep. -/
import Derived.Test.YtfcfkhbkkfpehaaGreatXMps5
import Derived.Test.YtfcfkhbkkfpehaaGreatProg
import Derived.Test.YtfcfkhbkkfpehaaGreatRows
set_option linter.unusedSimpArgs false
set_option linter.unusedVariables false
set_option maxRecDepth 100000
section
namespace Go.Proofs.YtfcfkhbkkfpehaaGreat
open Go Go.X
/- pomander/pomanderlaw13.PolicyJudges -/
def W_pomanderlaw13_PolicyJudges (r1 : Int) (r2 : Int) (r3 : Int) (r4 : Int) (r5 : Int) (r6 : Int) (r7 : Int) (r8 : Int) (r9 : Int) (r10 : Int) (r11 : Int) (m1 : Option Addr) (m1n : Nat) (m1c : Nat) (l1 : Option Addr) (l1n : Nat) (l1c : Nat) (w : World) (R : Bool → World → Prop) : Prop :=
 ∀ (b1 : Nat) (w1 : World), (w.heap.size ≤ b1 ∧ b1 < w1.heap.size) → Chg [] w w1 → (Calls Tryz.prog 10 #[.slice m1 m1n m1c, .slice l1 l1n l1c] w1 fun e w2 => ∃ (r13 : Bool), e = .returned (.bool r13) ∧ (Same w1 w2 [b1] ∧ ((r13 = true → Calls Tryz.prog 11 #[] w2 fun e w3 => ∃ (r14 : Bool), e = .returned (.bool r14) ∧ (Same w2 w3 [b1] ∧ (R r14 w3))) ∧ (r13 = false → Calls Tryz.prog 12 #[.agg #[.int .u32 r1, .int .u32 r2, .int .u32 r3, .int .u32 r4, .int .u32 r5, .int .u32 r6, .int .u32 r7, .int .u32 r8, .int .u32 r9, .int .u32 r10, .int .u32 r11]] w2 fun e w4 => ∃ (r15 : Option Addr) (r16 : Int), e = .returned (.tuple #[.pointer r15, .int .i64 r16]) ∧ (Same w2 w4 [b1] ∧ (Calls Tryz.prog 13 #[.agg #[.int .u32 r1, .int .u32 r2, .int .u32 r3, .int .u32 r4, .int .u32 r5, .int .u32 r6, .int .u32 r7, .int .u32 r8, .int .u32 r9, .int .u32 r10, .int .u32 r11]] w4 fun e w5 => ∃ (r17 : Bool), e = .returned (.bool r17) ∧ (Same w4 w5 [b1] ∧ (((!r17) = true → ∃ J1 : Bool → World → Prop, (∀ (b2 : Bool) (w6 : World), J1 b2 w6 → R b2 w6) ∧ (((Option.isNone r15 && r16 == 2) = true → Calls Tryz.prog 11 #[] w5 fun e w7 => ∃ (r18 : Bool), e = .returned (.bool r18) ∧ (Same w5 w7 [b1] ∧ (J1 r18 w7))) ∧ ((Option.isNone r15 && r16 == 2) = false → J1 false w5))) ∧ ((!r17) = false → Calls Tryz.prog 14 #[.slice m1 m1n m1c] w5 fun e w8 => ∃ (r19 : Option Addr) (r20 : Int) (r21 : Int) (r22 : Int) (r23 : Option Addr) (r23n : Nat) (r23c : Nat) (r24 : Option Addr) (r24n : Nat) (r24c : Nat), e = .returned (.tuple #[.pointer r19, .agg #[.int .i64 r20, .int .i64 r21, .int .i64 r22, .slice r23 r23n r23c, .slice r24 r24n r24c]]) ∧ (Same w5 w8 [b1] ∧ (∀ (b3 : Nat) (w10 : World), (w8.heap.size ≤ b3 ∧ b3 < w10.heap.size) → Chg [] w8 w10 → (Calls Tryz.prog 15 #[.pointer r19] w10 fun e w11 => ∃ (r25 : Option Addr), e = .returned (.pointer r25) ∧ (Same w10 w11 [b3, b1] ∧ (Calls Tryz.prog 16 #[.pointer r15, .pointer r19, .slice l1 l1n l1c] w11 fun e w12 => ∃ (r26 : Bool) (r27 : Int), e = .returned (.tuple #[.bool r26, .int .i64 r27]) ∧ (Same w11 w12 [b3, b1] ∧ (Calls Tryz.prog 17 #[.pointer r15, .pointer r19, .slice l1 l1n l1c] w12 fun e w13 => ∃ (r28 : Option Addr) (r28n : Nat) (r28c : Nat) (r29 : Int), e = .returned (.tuple #[.slice r28 r28n r28c, .int .i64 r29]) ∧ (Same w12 w13 [b3, b1] ∧ (Calls Tryz.prog 18 #[.agg #[.int .i64 r20, .int .i64 r21, .int .i64 r22, .slice r23 r23n r23c, .slice r24 r24n r24c], .slice l1 l1n l1c] w13 fun e w14 => ∃ (r30 : Bool), e = .returned (.bool r30) ∧ (Same w13 w14 [b3, b1] ∧ (((!r30) = true → ∃ J2 : Bool → World → Prop, (∀ (b4 : Bool) (w15 : World), J2 b4 w15 → R b4 w15) ∧ (((((!r26 && r27 == 2) && (r28n : Int) == 0) && r29 == 2) = true → Calls Tryz.prog 11 #[] w14 fun e w16 => ∃ (r31 : Bool), e = .returned (.bool r31) ∧ (Same w14 w16 [b3, b1] ∧ (J2 r31 w16))) ∧ ((((!r26 && r27 == 2) && (r28n : Int) == 0) && r29 == 2) = false → J2 false w14))) ∧ ((!r30) = false → ∀ (w17 : World), Chg [] w14 w17 → (∃ J3 : Bool → World → Prop, (∀ (b5 : Bool) (w18 : World), J3 b5 w18 → ∃ J4 : Bool → World → Prop, (∀ (b6 : Bool) (w20 : World), J4 b6 w20 → ∃ J5 : Bool → World → Prop, (∀ (b7 : Bool) (w23 : World), J5 b7 w23 → ∃ J6 : Bool → World → Prop, (∀ (b8 : Bool) (w25 : World), J6 b8 w25 → ∃ J7 : Bool → World → Prop, (∀ (b9 : Bool) (w27 : World), J7 b9 w27 → R b9 w27) ∧ ((b8 = true → Calls Tryz.prog 11 #[] w25 fun e w28 => ∃ (r47 : Bool), e = .returned (.bool r47) ∧ (J7 r47 w28)) ∧ (b8 = false → J7 false w25))) ∧ ((b7 = true → Calls Tryz.prog 23 #[.pointer r19, .pointer r25] w23 fun e w26 => ∃ (r46 : Bool), e = .returned (.bool r46) ∧ (Same w23 w26 [b3, b1] ∧ (J6 r46 w26))) ∧ (b7 = false → J6 false w23))) ∧ ((b6 = true → Calls Tryz.prog 22 #[.pointer r15] w20 fun e w24 => ∃ (r35 : Int) (r36 : Int) (r37 : Int) (r38 : Int) (r39 : Int) (r40 : Int) (r41 : Int) (r42 : Int) (r43 : Int) (r44 : Int) (r45 : Int), e = .returned (.agg #[.int .u32 r35, .int .u32 r36, .int .u32 r37, .int .u32 r38, .int .u32 r39, .int .u32 r40, .int .u32 r41, .int .u32 r42, .int .u32 r43, .int .u32 r44, .int .u32 r45]) ∧ (Same w20 w24 [b3, b1] ∧ (∃ (t1 : Bool), (∀ w : World, ((do eqGuard .eql 25 (.tmp 108) (.tmp 109) (.agg #[.int .u32 r35, .int .u32 r36, .int .u32 r37, .int .u32 r38, .int .u32 r39, .int .u32 r40, .int .u32 r41, .int .u32 r42, .int .u32 r43, .int .u32 r44, .int .u32 r45]) (.agg #[.int .u32 r1, .int .u32 r2, .int .u32 r3, .int .u32 r4, .int .u32 r5, .int .u32 r6, .int .u32 r7, .int .u32 r8, .int .u32 r9, .int .u32 r10, .int .u32 r11]); binOp .eql 25 (.agg #[.int .u32 r35, .int .u32 r36, .int .u32 r37, .int .u32 r38, .int .u32 r39, .int .u32 r40, .int .u32 r41, .int .u32 r42, .int .u32 r43, .int .u32 r44, .int .u32 r45]) (.agg #[.int .u32 r1, .int .u32 r2, .int .u32 r3, .int .u32 r4, .int .u32 r5, .int .u32 r6, .int .u32 r7, .int .u32 r8, .int .u32 r9, .int .u32 r10, .int .u32 r11]) : Sem Value)).run Tryz.prog w = .ok (.bool t1) w) ∧ (J5 t1 w24)))) ∧ (b6 = false → J5 false w20))) ∧ ((b5 = true → Calls Tryz.prog 21 #[.agg #[.int .u32 r1, .int .u32 r2, .int .u32 r3, .int .u32 r4, .int .u32 r5, .int .u32 r6, .int .u32 r7, .int .u32 r8, .int .u32 r9, .int .u32 r10, .int .u32 r11], .agg #[.int .i64 r20, .int .i64 r21, .int .i64 r22, .slice r23 r23n r23c, .slice r24 r24n r24c], .slice l1 l1n l1c] w18 fun e w21 => ∃ (r33 : Option Addr) (r33n : Nat) (r33c : Nat), e = .returned (.slice r33 r33n r33c) ∧ (Same w18 w21 [b3, b1] ∧ (Calls Tryz.prog 20 #[.slice r28 r28n r28c, .slice r33 r33n r33c] w21 fun e w22 => ∃ (r34 : Bool), e = .returned (.bool r34) ∧ (Same w21 w22 [b3, b1] ∧ (J4 r34 w22))))) ∧ (b5 = false → J4 false w18))) ∧ ((((r16 == 0 && r27 == 0) && r29 == 0) = true → Calls Tryz.prog 19 #[.agg #[.int .u32 r1, .int .u32 r2, .int .u32 r3, .int .u32 r4, .int .u32 r5, .int .u32 r6, .int .u32 r7, .int .u32 r8, .int .u32 r9, .int .u32 r10, .int .u32 r11], .agg #[.int .i64 r20, .int .i64 r21, .int .i64 r22, .slice r23 r23n r23c, .slice r24 r24n r24c], .slice l1 l1n l1c] w17 fun e w19 => ∃ (r32 : Bool), e = .returned (.bool r32) ∧ (Same w17 w19 [b3, b1] ∧ (J3 (r26 == r32) w19))) ∧ (((r16 == 0 && r27 == 0) && r29 == 0) = false → J3 false w17))))))))))))))))))))))))
set_option maxRecDepth 100000 in
theorem go_pomanderlaw13_PolicyJudges (r1 : Int) (r2 : Int) (r3 : Int) (r4 : Int) (r5 : Int) (r6 : Int) (r7 : Int) (r8 : Int) (r9 : Int) (r10 : Int) (r11 : Int) (m1 : Option Addr) (m1n : Nat) (m1c : Nat) (l1 : Option Addr) (l1n : Nat) (l1c : Nat) (w : World) (R : Bool → World → Prop) (h : W_pomanderlaw13_PolicyJudges r1 r2 r3 r4 r5 r6 r7 r8 r9 r10 r11 m1 m1n m1c l1 l1n l1c w R) : Calls Tryz.prog 3 #[.agg #[.int .u32 r1, .int .u32 r2, .int .u32 r3, .int .u32 r4, .int .u32 r5, .int .u32 r6, .int .u32 r7, .int .u32 r8, .int .u32 r9, .int .u32 r10, .int .u32 r11], .slice m1 m1n m1c, .slice l1 l1n l1c] w (fun e w' => ∃ (r12 : Bool), e = .returned (.bool r12) ∧ R r12 w') := by
 unfold W_pomanderlaw13_PolicyJudges at h
 refine enter (N := 120) Tryz.func3 rfl rfl ?_
 refine CW.seq ?_
 refine CW.region fun L hL => ?_
 obtain ⟨b1, hb_b1⟩ : ∃ b1, b1 = World.size w := ⟨_, rfl⟩
 obtain ⟨w1, hw_w1⟩ : ∃ w1, w1 = World.alloc w (.cells #[.int .u32 r1, .int .u32 r2, .int .u32 r3, .int .u32 r4, .int .u32 r5, .int .u32 r6, .int .u32 r7, .int .u32 r8, .int .u32 r9, .int .u32 r10, .int .u32 r11] 25) := ⟨_, rfl⟩
 refine LW.val hL rfl (Wants.free rfl) rfl (boxE hb_b1 hw_w1 (Vl.box (v := .agg #[.int .u32 r1, .int .u32 r2, .int .u32 r3, .int .u32 r4, .int .u32 r5, .int .u32 r6, .int .u32 r7, .int .u32 r8, .int .u32 r9, .int .u32 r10, .int .u32 r11]) rfl)) ?_
 have hB := Boxes.alloc (cs := [.int .u32 r1, .int .u32 r2, .int .u32 r3, .int .u32 r4, .int .u32 r5, .int .u32 r6, .int .u32 r7, .int .u32 r8, .int .u32 r9, .int .u32 r10, .int .u32 r11]) (T := 25) (Boxes.nil w) hb_b1 hw_w1
 have hlo_b1 := sil_lo (Chg.refl [] w) hb_b1
 have hc_w1 := sil_alloc (Chg.refl [] w) hw_w1
 refine LW.rd hL rfl (Wants.free rfl) rfl (Rd.assign (v := .bool false) rfl) ?_
 refine LW.nil hL rfl ?_
 refine NW.then ?_
 refine CW.seq ?_
 refine CW.seq ?_
 refine CW.region fun L hL => ?_
 refine LW.rd hL rfl (Wants.free rfl) rfl (Rd.move (v := .slice m1 m1n m1c) rfl) ?_
 refine LW.rd hL rfl (Wants.free rfl) rfl (Rd.move (v := .slice l1 l1n l1c) rfl) ?_
 replace h := h b1 w1 ⟨hlo_b1, lt_of_heap (hB.at (i := 0) rfl)⟩ hc_w1
 refine LW.call hL rfl (Wants.free rfl) rfl (Cl.fn (f := 10) rfl Tryz.func10 (by kernel_rfl) rfl) h (fun e w2 h_ => ?_)
 clear h
 obtain ⟨r13, rfl, h⟩ := h_
 obtain ⟨hsm1, h⟩ := h
 replace hB := Boxes.sameS hB hsm1 (by simp)
 refine ⟨_, rfl, ?_⟩
 refine LW.nil hL rfl ?_
 refine NW.then ?_
 refine CW.cond rfl (fun hb1 => ?_) (fun hb1 => ?_)
 ·replace h := h.1 hb1
  refine CW.seq ?_
  refine CW.region fun L hL => ?_
  refine LW.call hL rfl (Wants.free rfl) rfl (Cl.fn (f := 11) rfl Tryz.func11 (by kernel_rfl) rfl) h (fun e w3 h_ => ?_)
  clear h
  obtain ⟨r14, rfl, h⟩ := h_
  obtain ⟨hsm2, h⟩ := h
  replace hB := Boxes.sameS hB hsm2 (by simp)
  refine ⟨_, rfl, ?_⟩
  refine LW.rd hL rfl (Wants.free rfl) rfl (Rd.assign (v := .bool r14) rfl) ?_
  refine LW.nil hL rfl ?_
  refine NW.then ?_
  refine CW.ret ?_
  refine RW.then ?_
  exact res1 rfl rfl ⟨r14, rfl, h⟩
 ·replace h := h.2 hb1
  refine CW.skip ?_
  refine NW.then ?_
  refine CW.seq ?_
  refine CW.region fun L hL => ?_
  refine LW.rd hL rfl (Wants.free rfl) rfl (Rd.ldN (cs := [.int .u32 r1, .int .u32 r2, .int .u32 r3, .int .u32 r4, .int .u32 r5, .int .u32 r6, .int .u32 r7, .int .u32 r8, .int .u32 r9, .int .u32 r10, .int .u32 r11]) rfl (by kernel_rfl) (by kernel_rfl) (cellsS (box_cells (hB.at (i := 0) rfl) rfl))) ?_
  refine LW.call hL rfl (Wants.free rfl) rfl (Cl.fn (f := 12) rfl Tryz.func12 (by kernel_rfl) rfl) h (fun e w4 h_ => ?_)
  clear h
  obtain ⟨r15, r16, rfl, h⟩ := h_
  obtain ⟨hsm3, h⟩ := h
  replace hB := Boxes.sameS hB hsm3 (by simp)
  refine ⟨_, rfl, ?_⟩
  refine LW.rd hL rfl (Wants.free rfl) rfl (Rd.move (v := .tuple #[.pointer r15, .int .i64 r16]) rfl) ?_
  refine LW.rd hL rfl (Wants.free rfl) rfl (Rd.extract (v := .pointer r15) rfl rfl) ?_
  refine LW.rd hL rfl (Wants.free rfl) rfl (Rd.extract (v := .int .i64 r16) rfl rfl) ?_
  refine LW.rd hL rfl (Wants.free rfl) rfl (Rd.assign (v := .pointer r15) rfl) ?_
  refine LW.rd hL rfl (Wants.free rfl) rfl (Rd.assign (v := .int .i64 r16) rfl) ?_
  refine LW.nil hL rfl ?_
  refine NW.then ?_
  refine CW.seq ?_
  refine CW.seq ?_
  refine CW.region fun L hL => ?_
  refine LW.rd hL rfl (Wants.free rfl) rfl (Rd.ldN (cs := [.int .u32 r1, .int .u32 r2, .int .u32 r3, .int .u32 r4, .int .u32 r5, .int .u32 r6, .int .u32 r7, .int .u32 r8, .int .u32 r9, .int .u32 r10, .int .u32 r11]) rfl (by kernel_rfl) (by kernel_rfl) (cellsS (box_cells (hB.at (i := 0) rfl) rfl))) ?_
  refine LW.call hL rfl (Wants.free rfl) rfl (Cl.fn (f := 13) rfl Tryz.func13 (by kernel_rfl) rfl) h (fun e w5 h_ => ?_)
  clear h
  obtain ⟨r17, rfl, h⟩ := h_
  obtain ⟨hsm4, h⟩ := h
  replace hB := Boxes.sameS hB hsm4 (by simp)
  refine ⟨_, rfl, ?_⟩
  refine LW.rd hL rfl (Wants.free rfl) rfl (Rd.un (v := .bool (!r17)) rfl (fun _ => by kernel_rfl)) ?_
  refine LW.nil hL rfl ?_
  refine NW.then ?_
  refine CW.cond rfl (fun hb2 => ?_) (fun hb2 => ?_)
  ·replace h := h.1 hb2
   refine CW.seq ?_
   refine CW.region fun L hL => ?_
   refine LW.rd hL rfl (Wants.free rfl) rfl (Rd.move (v := .pointer r15) rfl) ?_
   refine LW.rd hL rfl (Wants.free rfl) rfl (Rd.bin (v := .bool (Option.isNone r15)) rfl rfl (fun w => ptr_nil_eq (by kernel_rfl) r15 w)) ?_
   refine LW.rd hL rfl (Wants.free rfl) rfl (Rd.move (v := .bool (Option.isNone r15)) rfl) ?_
   suffices K1 : L 6 [(1, .slice m1 m1n m1c), (2, .slice l1 l1n l1c), (3, .pointer (some (⟨b1, 0, none⟩ : Addr))), (6, .bool false), (7, .pointer r15), (8, .int .i64 r16), (33, .bool (Option.isNone r15 && r16 == 2))] w5 by
    rcases Bool.eq_false_or_eq_true (Option.isNone r15) with hb4 | hb4
    ·skip
     refine LW.rd hL rfl (Wants.on rfl rfl rfl rfl rfl hb4) rfl (Rd.move (v := .int .i64 r16) rfl) ?_
     refine LW.rd hL rfl (Wants.on rfl rfl rfl rfl rfl hb4) rfl (Rd.bin (v := .bool (r16 == 2)) rfl rfl (fun w => by kernel_rfl)) ?_
     refine LW.rd hL rfl (Wants.free rfl) rfl (Rd.pickT rfl hb4 rfl) ?_
     exact LW.sub hL (by exact ⟨rfl, rfl, rfl, rfl, rfl, rfl, (by rw [hb4]; rfl), trivial⟩) K1
    ·skip
     refine LW.skip hL rfl (Skips.on rfl rfl rfl rfl rfl hb4) rfl ?_
     refine LW.skip hL rfl (Skips.on rfl rfl rfl rfl rfl hb4) rfl ?_
     refine LW.rd hL rfl (Wants.free rfl) rfl (Rd.pickF rfl hb4 rfl) ?_
     exact LW.sub hL (by exact ⟨rfl, rfl, rfl, rfl, rfl, rfl, (by rw [hb4]; rfl), trivial⟩) K1
   refine LW.rd hL rfl (Wants.free rfl) rfl (Rd.move (v := .bool (Option.isNone r15 && r16 == 2)) rfl) ?_
   obtain ⟨J1, hJ1, h1_J1, h0_J1⟩ := h
   suffices K2 : ∀ (b2 : Bool) (w6 : World), Boxes w6 [(b1, [.int .u32 r1, .int .u32 r2, .int .u32 r3, .int .u32 r4, .int .u32 r5, .int .u32 r6, .int .u32 r7, .int .u32 r8, .int .u32 r9, .int .u32 r10, .int .u32 r11], 25)] → J1 b2 w6 → L 9 [(1, .slice m1 m1n m1c), (2, .slice l1 l1n l1c), (3, .pointer (some (⟨b1, 0, none⟩ : Addr))), (6, .bool false), (7, .pointer r15), (8, .int .i64 r16), (36, .bool b2)] w6 by
    rcases Bool.eq_false_or_eq_true (Option.isNone r15 && r16 == 2) with hb5 | hb5
    ·have h := h1_J1 hb5
     refine LW.call hL rfl (Wants.on rfl rfl rfl rfl rfl hb5) rfl (Cl.fn (f := 11) rfl Tryz.func11 (by kernel_rfl) rfl) h (fun e w7 h_ => ?_)
     clear h
     obtain ⟨r18, rfl, h⟩ := h_
     obtain ⟨hsm5, h⟩ := h
     replace hB := Boxes.sameS hB hsm5 (by simp)
     refine ⟨_, rfl, ?_⟩
     refine LW.rd hL rfl (Wants.free rfl) rfl (Rd.pickT rfl hb5 rfl) ?_
     exact LW.sub hL (by exact ⟨rfl, rfl, rfl, rfl, rfl, rfl, rfl, trivial⟩) (K2 r18 w7 (by exact hB) h)
    ·have h := h0_J1 hb5
     refine LW.skip hL rfl (Skips.on rfl rfl rfl rfl rfl hb5) rfl ?_
     refine LW.rd hL rfl (Wants.free rfl) rfl (Rd.pickF rfl hb5 rfl) ?_
     exact LW.sub hL (by exact ⟨rfl, rfl, rfl, rfl, rfl, rfl, rfl, trivial⟩) (K2 false w5 (by exact hB) h)
   intro b2 w6 hB h_
   have h := hJ1 b2 w6 h_; clear h_
   refine LW.rd hL rfl (Wants.free rfl) rfl (Rd.assign (v := .bool b2) rfl) ?_
   refine LW.nil hL rfl ?_
   refine NW.then ?_
   refine CW.ret ?_
   refine RW.then ?_
   exact res1 rfl rfl ⟨b2, rfl, h⟩
  ·replace h := h.2 hb2
   refine CW.skip ?_
   refine NW.then ?_
   refine CW.seq ?_
   refine CW.region fun L hL => ?_
   refine LW.rd hL rfl (Wants.free rfl) rfl (Rd.move (v := .slice m1 m1n m1c) rfl) ?_
   refine LW.call hL rfl (Wants.free rfl) rfl (Cl.fn (f := 14) rfl Tryz.func14 (by kernel_rfl) rfl) h (fun e w8 h_ => ?_)
   clear h
   obtain ⟨r19, r20, r21, r22, r23, r23n, r23c, r24, r24n, r24c, rfl, h⟩ := h_
   obtain ⟨hsm6, h⟩ := h
   replace hB := Boxes.sameS hB hsm6 (by simp)
   refine ⟨_, rfl, ?_⟩
   refine LW.rd hL rfl (Wants.free rfl) rfl (Rd.move (v := .tuple #[.pointer r19, .agg #[.int .i64 r20, .int .i64 r21, .int .i64 r22, .slice r23 r23n r23c, .slice r24 r24n r24c]]) rfl) ?_
   refine LW.rd hL rfl (Wants.free rfl) rfl (Rd.extract (v := .pointer r19) rfl rfl) ?_
   refine LW.rd hL rfl (Wants.free rfl) rfl (Rd.extract (v := .agg #[.int .i64 r20, .int .i64 r21, .int .i64 r22, .slice r23 r23n r23c, .slice r24 r24n r24c]) rfl rfl) ?_
   obtain ⟨b3, hb_b3⟩ : ∃ b3, b3 = World.size w8 := ⟨_, rfl⟩
   obtain ⟨w9, hw_w9⟩ : ∃ w9, w9 = World.alloc w8 (.cells #[.int .i64 0, .int .i64 0, .int .i64 0, .slice none 0 0, .slice none 0 0] 43) := ⟨_, rfl⟩
   refine LW.val hL rfl (Wants.free rfl) rfl (boxE hb_b3 hw_w9 (Vl.alloc (z := .agg #[.int .i64 0, .int .i64 0, .int .i64 0, .slice none 0 0, .slice none 0 0]) (by kernel_rfl))) ?_
   replace hB := Boxes.alloc (cs := [.int .i64 0, .int .i64 0, .int .i64 0, .slice none 0 0, .slice none 0 0]) (T := 43) hB hb_b3 hw_w9
   have hlo_b3 := sil_lo (Chg.refl [] w8) hb_b3
   have hc_w9 := sil_alloc (Chg.refl [] w8) hw_w9
   refine LW.rd hL rfl (Wants.free rfl) rfl (Rd.assign (v := .pointer r19) rfl) ?_
   obtain ⟨w10, hw_w10⟩ : ∃ x, x = setCells w9 (⟨b3, 0, none⟩ : Addr) 0 [.int .i64 r20, .int .i64 r21, .int .i64 r22, .slice r23 r23n r23c, .slice r24 r24n r24c] := ⟨_, rfl⟩
   refine LW.eff hL rfl (Wants.free rfl) rfl (stNE hw_w10 (Ef.stN (cs := [.int .i64 r20, .int .i64 r21, .int .i64 r22, .slice r23 r23n r23c, .slice r24 r24n r24c]) rfl rfl (by kernel_rfl) (List.forall_mem_cons.2 ⟨rfl, (List.forall_mem_cons.2 ⟨rfl, (List.forall_mem_cons.2 ⟨rfl, (List.forall_mem_cons.2 ⟨rfl, (List.forall_mem_cons.2 ⟨rfl, (List.forall_mem_nil _)⟩)⟩)⟩)⟩)⟩) (has_of (hB.at (i := 0) rfl) (by simp)) (free_of' (hB.at (i := 0) rfl)))) ?_
   replace hB : Boxes w10 [(b3, [.int .i64 r20, .int .i64 r21, .int .i64 r22, .slice r23 r23n r23c, .slice r24 r24n r24c], 43), (b1, [.int .u32 r1, .int .u32 r2, .int .u32 r3, .int .u32 r4, .int .u32 r5, .int .u32 r6, .int .u32 r7, .int .u32 r8, .int .u32 r9, .int .u32 r10, .int .u32 r11], 25)] := Boxes.store (vs := [.int .i64 r20, .int .i64 r21, .int .i64 r22, .slice r23 r23n r23c, .slice r24 r24n r24c]) (i := 0) (o := 0) hB rfl rfl rfl rfl hw_w10
   have hc_w10 := sil_new hc_w9 (sil_cN hw_w10) hlo_b3
   refine LW.nil hL rfl ?_
   refine NW.then ?_
   refine CW.seq ?_
   refine CW.region fun L hL => ?_
   refine LW.rd hL rfl (Wants.free rfl) rfl (Rd.move (v := .pointer r19) rfl) ?_
   replace h := h b3 w10 ⟨hlo_b3, lt_of_heap (hB.at (i := 0) rfl)⟩ hc_w10
   refine LW.call hL rfl (Wants.free rfl) rfl (Cl.fn (f := 15) rfl Tryz.func15 (by kernel_rfl) rfl) h (fun e w11 h_ => ?_)
   clear h
   obtain ⟨r25, rfl, h⟩ := h_
   obtain ⟨hsm7, h⟩ := h
   replace hB := Boxes.sameS hB hsm7 (by simp)
   refine ⟨_, rfl, ?_⟩
   refine LW.rd hL rfl (Wants.free rfl) rfl (Rd.assign (v := .pointer r25) rfl) ?_
   refine LW.nil hL rfl ?_
   refine NW.then ?_
   refine CW.seq ?_
   refine CW.region fun L hL => ?_
   refine LW.rd hL rfl (Wants.free rfl) rfl (Rd.move (v := .pointer r15) rfl) ?_
   refine LW.rd hL rfl (Wants.free rfl) rfl (Rd.move (v := .pointer r19) rfl) ?_
   refine LW.rd hL rfl (Wants.free rfl) rfl (Rd.move (v := .slice l1 l1n l1c) rfl) ?_
   refine LW.call hL rfl (Wants.free rfl) rfl (Cl.fn (f := 16) rfl Tryz.func16 (by kernel_rfl) rfl) h (fun e w12 h_ => ?_)
   clear h
   obtain ⟨r26, r27, rfl, h⟩ := h_
   obtain ⟨hsm8, h⟩ := h
   replace hB := Boxes.sameS hB hsm8 (by simp)
   refine ⟨_, rfl, ?_⟩
   refine LW.rd hL rfl (Wants.free rfl) rfl (Rd.move (v := .tuple #[.bool r26, .int .i64 r27]) rfl) ?_
   refine LW.rd hL rfl (Wants.free rfl) rfl (Rd.extract (v := .bool r26) rfl rfl) ?_
   refine LW.rd hL rfl (Wants.free rfl) rfl (Rd.extract (v := .int .i64 r27) rfl rfl) ?_
   refine LW.rd hL rfl (Wants.free rfl) rfl (Rd.assign (v := .bool r26) rfl) ?_
   refine LW.rd hL rfl (Wants.free rfl) rfl (Rd.assign (v := .int .i64 r27) rfl) ?_
   refine LW.nil hL rfl ?_
   refine NW.then ?_
   refine CW.seq ?_
   refine CW.region fun L hL => ?_
   refine LW.rd hL rfl (Wants.free rfl) rfl (Rd.move (v := .pointer r15) rfl) ?_
   refine LW.rd hL rfl (Wants.free rfl) rfl (Rd.move (v := .pointer r19) rfl) ?_
   refine LW.rd hL rfl (Wants.free rfl) rfl (Rd.move (v := .slice l1 l1n l1c) rfl) ?_
   refine LW.call hL rfl (Wants.free rfl) rfl (Cl.fn (f := 17) rfl Tryz.func17 (by kernel_rfl) rfl) h (fun e w13 h_ => ?_)
   clear h
   obtain ⟨r28, r28n, r28c, r29, rfl, h⟩ := h_
   obtain ⟨hsm9, h⟩ := h
   replace hB := Boxes.sameS hB hsm9 (by simp)
   refine ⟨_, rfl, ?_⟩
   refine LW.rd hL rfl (Wants.free rfl) rfl (Rd.move (v := .tuple #[.slice r28 r28n r28c, .int .i64 r29]) rfl) ?_
   refine LW.rd hL rfl (Wants.free rfl) rfl (Rd.extract (v := .slice r28 r28n r28c) rfl rfl) ?_
   refine LW.rd hL rfl (Wants.free rfl) rfl (Rd.extract (v := .int .i64 r29) rfl rfl) ?_
   refine LW.rd hL rfl (Wants.free rfl) rfl (Rd.assign (v := .slice r28 r28n r28c) rfl) ?_
   refine LW.rd hL rfl (Wants.free rfl) rfl (Rd.assign (v := .int .i64 r29) rfl) ?_
   refine LW.nil hL rfl ?_
   refine NW.then ?_
   refine CW.seq ?_
   refine CW.seq ?_
   refine CW.region fun L hL => ?_
   refine LW.rd hL rfl (Wants.free rfl) rfl (Rd.ldN (cs := [.int .i64 r20, .int .i64 r21, .int .i64 r22, .slice r23 r23n r23c, .slice r24 r24n r24c]) rfl (by kernel_rfl) (by kernel_rfl) (cellsS (box_cells (hB.at (i := 0) rfl) rfl))) ?_
   refine LW.rd hL rfl (Wants.free rfl) rfl (Rd.move (v := .slice l1 l1n l1c) rfl) ?_
   refine LW.call hL rfl (Wants.free rfl) rfl (Cl.fn (f := 18) rfl Tryz.func18 (by kernel_rfl) rfl) h (fun e w14 h_ => ?_)
   clear h
   obtain ⟨r30, rfl, h⟩ := h_
   obtain ⟨hsm10, h⟩ := h
   replace hB := Boxes.sameS hB hsm10 (by simp)
   refine ⟨_, rfl, ?_⟩
   refine LW.rd hL rfl (Wants.free rfl) rfl (Rd.un (v := .bool (!r30)) rfl (fun _ => by kernel_rfl)) ?_
   refine LW.nil hL rfl ?_
   refine NW.then ?_
   refine CW.cond rfl (fun hb6 => ?_) (fun hb6 => ?_)
   ·replace h := h.1 hb6
    refine CW.seq ?_
    refine CW.region fun L hL => ?_
    refine LW.rd hL rfl (Wants.free rfl) rfl (Rd.move (v := .bool r26) rfl) ?_
    refine LW.rd hL rfl (Wants.free rfl) rfl (Rd.un (v := .bool (!r26)) rfl (fun _ => by kernel_rfl)) ?_
    refine LW.rd hL rfl (Wants.free rfl) rfl (Rd.move (v := .bool (!r26)) rfl) ?_
    suffices K3 : L 6 [(2, .slice l1 l1n l1c), (3, .pointer (some (⟨b1, 0, none⟩ : Addr))), (6, .bool false), (7, .pointer r15), (8, .int .i64 r16), (9, .pointer r19), (10, .pointer (some (⟨b3, 0, none⟩ : Addr))), (11, .pointer r25), (12, .bool r26), (13, .int .i64 r27), (14, .slice r28 r28n r28c), (15, .int .i64 r29), (67, .bool (!r26 && r27 == 2))] w14 by
     rcases Bool.eq_false_or_eq_true (!r26) with hb8 | hb8
     ·skip
      refine LW.rd hL rfl (Wants.on rfl rfl rfl rfl rfl hb8) rfl (Rd.move (v := .int .i64 r27) rfl) ?_
      refine LW.rd hL rfl (Wants.on rfl rfl rfl rfl rfl hb8) rfl (Rd.bin (v := .bool (r27 == 2)) rfl rfl (fun w => by kernel_rfl)) ?_
      refine LW.rd hL rfl (Wants.free rfl) rfl (Rd.pickT rfl hb8 rfl) ?_
      exact LW.sub hL (by exact ⟨rfl, rfl, rfl, rfl, rfl, rfl, rfl, rfl, rfl, rfl, rfl, rfl, (by rw [hb8]; rfl), trivial⟩) K3
     ·skip
      refine LW.skip hL rfl (Skips.on rfl rfl rfl rfl rfl hb8) rfl ?_
      refine LW.skip hL rfl (Skips.on rfl rfl rfl rfl rfl hb8) rfl ?_
      refine LW.rd hL rfl (Wants.free rfl) rfl (Rd.pickF rfl hb8 rfl) ?_
      exact LW.sub hL (by exact ⟨rfl, rfl, rfl, rfl, rfl, rfl, rfl, rfl, rfl, rfl, rfl, rfl, (by rw [hb8]; rfl), trivial⟩) K3
    refine LW.rd hL rfl (Wants.free rfl) rfl (Rd.move (v := .bool (!r26 && r27 == 2)) rfl) ?_
    suffices K4 : L 11 [(2, .slice l1 l1n l1c), (3, .pointer (some (⟨b1, 0, none⟩ : Addr))), (6, .bool false), (7, .pointer r15), (8, .int .i64 r16), (9, .pointer r19), (10, .pointer (some (⟨b3, 0, none⟩ : Addr))), (11, .pointer r25), (12, .bool r26), (13, .int .i64 r27), (14, .slice r28 r28n r28c), (15, .int .i64 r29), (72, .bool ((!r26 && r27 == 2) && (r28n : Int) == 0))] w14 by
     rcases Bool.eq_false_or_eq_true (!r26 && r27 == 2) with hb10 | hb10
     ·skip
      refine LW.rd hL rfl (Wants.on rfl rfl rfl rfl rfl hb10) rfl (Rd.move (v := .slice r28 r28n r28c) rfl) ?_
      refine LW.rd hL rfl (Wants.on rfl rfl rfl rfl rfl hb10) rfl (Rd.builtin (v := .int .i64 (r28n : Int)) rfl (fun _ _ => by kernel_rfl)) ?_
      refine LW.rd hL rfl (Wants.on rfl rfl rfl rfl rfl hb10) rfl (Rd.bin (v := .bool ((r28n : Int) == 0)) rfl rfl (fun w => by kernel_rfl)) ?_
      refine LW.rd hL rfl (Wants.free rfl) rfl (Rd.pickT rfl hb10 rfl) ?_
      exact LW.sub hL (by exact ⟨rfl, rfl, rfl, rfl, rfl, rfl, rfl, rfl, rfl, rfl, rfl, rfl, (by rw [hb10]; rfl), trivial⟩) K4
     ·skip
      refine LW.skip hL rfl (Skips.on rfl rfl rfl rfl rfl hb10) rfl ?_
      refine LW.skip hL rfl (Skips.on rfl rfl rfl rfl rfl hb10) rfl ?_
      refine LW.skip hL rfl (Skips.on rfl rfl rfl rfl rfl hb10) rfl ?_
      refine LW.rd hL rfl (Wants.free rfl) rfl (Rd.pickF rfl hb10 rfl) ?_
      exact LW.sub hL (by exact ⟨rfl, rfl, rfl, rfl, rfl, rfl, rfl, rfl, rfl, rfl, rfl, rfl, (by rw [hb10]; rfl), trivial⟩) K4
    refine LW.rd hL rfl (Wants.free rfl) rfl (Rd.move (v := .bool ((!r26 && r27 == 2) && (r28n : Int) == 0)) rfl) ?_
    suffices K5 : L 15 [(2, .slice l1 l1n l1c), (3, .pointer (some (⟨b1, 0, none⟩ : Addr))), (6, .bool false), (7, .pointer r15), (8, .int .i64 r16), (9, .pointer r19), (10, .pointer (some (⟨b3, 0, none⟩ : Addr))), (11, .pointer r25), (12, .bool r26), (13, .int .i64 r27), (14, .slice r28 r28n r28c), (15, .int .i64 r29), (76, .bool (((!r26 && r27 == 2) && (r28n : Int) == 0) && r29 == 2))] w14 by
     rcases Bool.eq_false_or_eq_true ((!r26 && r27 == 2) && (r28n : Int) == 0) with hb12 | hb12
     ·skip
      refine LW.rd hL rfl (Wants.on rfl rfl rfl rfl rfl hb12) rfl (Rd.move (v := .int .i64 r29) rfl) ?_
      refine LW.rd hL rfl (Wants.on rfl rfl rfl rfl rfl hb12) rfl (Rd.bin (v := .bool (r29 == 2)) rfl rfl (fun w => by kernel_rfl)) ?_
      refine LW.rd hL rfl (Wants.free rfl) rfl (Rd.pickT rfl hb12 rfl) ?_
      exact LW.sub hL (by exact ⟨rfl, rfl, rfl, rfl, rfl, rfl, rfl, rfl, rfl, rfl, rfl, rfl, (by rw [hb12]; rfl), trivial⟩) K5
     ·skip
      refine LW.skip hL rfl (Skips.on rfl rfl rfl rfl rfl hb12) rfl ?_
      refine LW.skip hL rfl (Skips.on rfl rfl rfl rfl rfl hb12) rfl ?_
      refine LW.rd hL rfl (Wants.free rfl) rfl (Rd.pickF rfl hb12 rfl) ?_
      exact LW.sub hL (by exact ⟨rfl, rfl, rfl, rfl, rfl, rfl, rfl, rfl, rfl, rfl, rfl, rfl, (by rw [hb12]; rfl), trivial⟩) K5
    refine LW.rd hL rfl (Wants.free rfl) rfl (Rd.move (v := .bool (((!r26 && r27 == 2) && (r28n : Int) == 0) && r29 == 2)) rfl) ?_
    obtain ⟨J2, hJ2, h1_J2, h0_J2⟩ := h
    suffices K6 : ∀ (b4 : Bool) (w15 : World), Boxes w15 [(b3, [.int .i64 r20, .int .i64 r21, .int .i64 r22, .slice r23 r23n r23c, .slice r24 r24n r24c], 43), (b1, [.int .u32 r1, .int .u32 r2, .int .u32 r3, .int .u32 r4, .int .u32 r5, .int .u32 r6, .int .u32 r7, .int .u32 r8, .int .u32 r9, .int .u32 r10, .int .u32 r11], 25)] → J2 b4 w15 → L 18 [(2, .slice l1 l1n l1c), (3, .pointer (some (⟨b1, 0, none⟩ : Addr))), (6, .bool false), (7, .pointer r15), (8, .int .i64 r16), (9, .pointer r19), (10, .pointer (some (⟨b3, 0, none⟩ : Addr))), (11, .pointer r25), (12, .bool r26), (13, .int .i64 r27), (14, .slice r28 r28n r28c), (15, .int .i64 r29), (79, .bool b4)] w15 by
     rcases Bool.eq_false_or_eq_true (((!r26 && r27 == 2) && (r28n : Int) == 0) && r29 == 2) with hb13 | hb13
     ·have h := h1_J2 hb13
      refine LW.call hL rfl (Wants.on rfl rfl rfl rfl rfl hb13) rfl (Cl.fn (f := 11) rfl Tryz.func11 (by kernel_rfl) rfl) h (fun e w16 h_ => ?_)
      clear h
      obtain ⟨r31, rfl, h⟩ := h_
      obtain ⟨hsm11, h⟩ := h
      replace hB := Boxes.sameS hB hsm11 (by simp)
      refine ⟨_, rfl, ?_⟩
      refine LW.rd hL rfl (Wants.free rfl) rfl (Rd.pickT rfl hb13 rfl) ?_
      exact LW.sub hL (by exact ⟨rfl, rfl, rfl, rfl, rfl, rfl, rfl, rfl, rfl, rfl, rfl, rfl, rfl, trivial⟩) (K6 r31 w16 (by exact hB) h)
     ·have h := h0_J2 hb13
      refine LW.skip hL rfl (Skips.on rfl rfl rfl rfl rfl hb13) rfl ?_
      refine LW.rd hL rfl (Wants.free rfl) rfl (Rd.pickF rfl hb13 rfl) ?_
      exact LW.sub hL (by exact ⟨rfl, rfl, rfl, rfl, rfl, rfl, rfl, rfl, rfl, rfl, rfl, rfl, rfl, trivial⟩) (K6 false w14 (by exact hB) h)
    intro b4 w15 hB h_
    have h := hJ2 b4 w15 h_; clear h_
    refine LW.rd hL rfl (Wants.free rfl) rfl (Rd.assign (v := .bool b4) rfl) ?_
    refine LW.nil hL rfl ?_
    refine NW.then ?_
    refine CW.ret ?_
    refine RW.then ?_
    exact res1 rfl rfl ⟨b4, rfl, h⟩
   ·replace h := h.2 hb6
    refine CW.skip ?_
    refine NW.then ?_
    refine CW.seq ?_
    obtain ⟨w17, hw_w17⟩ : ∃ x, x = World.drew w14 := ⟨_, rfl⟩
    have hc_w17 := sil_drew (Chg.refl [] w14) hw_w17
    replace hB := hB.drew hw_w17
    refine CW.drawn (fun w => Boxes w [(b1, [.int .u32 r1, .int .u32 r2, .int .u32 r3, .int .u32 r4, .int .u32 r5, .int .u32 r6, .int .u32 r7, .int .u32 r8, .int .u32 r9, .int .u32 r10, .int .u32 r11], 25), (b3, [.int .i64 r20, .int .i64 r21, .int .i64 r22, .slice r23 r23n r23c, .slice r24 r24n r24c], 43)]) 38 (by kernel_rfl) fun H hH => ?_
    rw [← hw_w17]
    have hS1 : Boxes w17 [(b1, [.int .u32 r1, .int .u32 r2, .int .u32 r3, .int .u32 r4, .int .u32 r5, .int .u32 r6, .int .u32 r7, .int .u32 r8, .int .u32 r9, .int .u32 r10, .int .u32 r11], 25), (b3, [.int .i64 r20, .int .i64 r21, .int .i64 r22, .slice r23 r23n r23c, .slice r24 r24n r24c], 43)] := (hB.sel [1, 0] (by decide) rfl)
    refine HW.pure (i := 0) hH rfl (by kernel_rfl) (Wants.free rfl) rfl (fun _ => hS1) (Rd.move (v := .int .i64 r16) rfl) ?_
    refine HW.pure (i := 1) hH rfl (by kernel_rfl) (Wants.free rfl) rfl (fun _ => hS1) (Rd.bin (v := .bool (r16 == 0)) rfl rfl (fun w => by kernel_rfl)) ?_
    refine HW.pure (i := 2) hH rfl (by kernel_rfl) (Wants.free rfl) rfl (fun _ => hS1) (Rd.move (v := .bool (r16 == 0)) rfl) ?_
    suffices K7 : H 35 #[true, true, true, true, true, true, false, false, false, false, false, false, false, false, false, false, false, false, false, false, false, false, false, false, false, false, false, false, false, false, false, false, false, false, false, false, false, false, false, false, false] [(2, .slice l1 l1n l1c), (3, .pointer (some (⟨b1, 0, none⟩ : Addr))), (6, .bool false), (7, .pointer r15), (9, .pointer r19), (10, .pointer (some (⟨b3, 0, none⟩ : Addr))), (11, .pointer r25), (12, .bool r26), (14, .slice r28 r28n r28c), (15, .int .i64 r29), (85, .bool (r16 == 0 && r27 == 0))] w17 by
     rcases Bool.eq_false_or_eq_true (r16 == 0) with hb15 | hb15
     ·skip
      refine HW.pure (i := 3) hH rfl (by kernel_rfl) (Wants.on rfl rfl rfl rfl rfl hb15) rfl (fun _ => hS1) (Rd.move (v := .int .i64 r27) rfl) ?_
      refine HW.pure (i := 4) hH rfl (by kernel_rfl) (Wants.on rfl rfl rfl rfl rfl hb15) rfl (fun _ => hS1) (Rd.bin (v := .bool (r27 == 0)) rfl rfl (fun w => by kernel_rfl)) ?_
      refine HW.pure (i := 5) hH rfl (by kernel_rfl) (Wants.free rfl) rfl (fun _ => hS1) (Rd.pickT rfl hb15 rfl) ?_
      exact HW.sub hH (by exact ⟨rfl, rfl, rfl, rfl, rfl, rfl, rfl, rfl, rfl, rfl, (by rw [hb15]; rfl), trivial⟩) K7
     ·skip
      refine HW.skip (i := 3) hH rfl (by kernel_rfl) (Skips.on rfl rfl rfl rfl rfl hb15) rfl (fun _ => hS1) ?_
      refine HW.skip (i := 4) hH rfl (by kernel_rfl) (Skips.on rfl rfl rfl rfl rfl hb15) rfl (fun _ => hS1) ?_
      refine HW.pure (i := 5) hH rfl (by kernel_rfl) (Wants.free rfl) rfl (fun _ => hS1) (Rd.pickF rfl hb15 rfl) ?_
      exact HW.sub hH (by exact ⟨rfl, rfl, rfl, rfl, rfl, rfl, rfl, rfl, rfl, rfl, (by rw [hb15]; rfl), trivial⟩) K7
    refine HW.pure (i := 6) hH rfl (by kernel_rfl) (Wants.free rfl) rfl (fun _ => hS1) (Rd.move (v := .bool (r16 == 0 && r27 == 0)) rfl) ?_
    suffices K8 : H 31 #[true, true, true, true, true, true, true, true, true, true, false, false, false, false, false, false, false, false, false, false, false, false, false, false, false, false, false, false, false, false, false, false, false, false, false, false, false, false, false, false, false] [(2, .slice l1 l1n l1c), (3, .pointer (some (⟨b1, 0, none⟩ : Addr))), (6, .bool false), (7, .pointer r15), (9, .pointer r19), (10, .pointer (some (⟨b3, 0, none⟩ : Addr))), (11, .pointer r25), (12, .bool r26), (14, .slice r28 r28n r28c), (89, .bool ((r16 == 0 && r27 == 0) && r29 == 0))] w17 by
     rcases Bool.eq_false_or_eq_true (r16 == 0 && r27 == 0) with hb17 | hb17
     ·skip
      refine HW.pure (i := 7) hH rfl (by kernel_rfl) (Wants.on rfl rfl rfl rfl rfl hb17) rfl (fun _ => hS1) (Rd.move (v := .int .i64 r29) rfl) ?_
      refine HW.pure (i := 8) hH rfl (by kernel_rfl) (Wants.on rfl rfl rfl rfl rfl hb17) rfl (fun _ => hS1) (Rd.bin (v := .bool (r29 == 0)) rfl rfl (fun w => by kernel_rfl)) ?_
      refine HW.pure (i := 9) hH rfl (by kernel_rfl) (Wants.free rfl) rfl (fun _ => hS1) (Rd.pickT rfl hb17 rfl) ?_
      exact HW.sub hH (by exact ⟨rfl, rfl, rfl, rfl, rfl, rfl, rfl, rfl, rfl, (by rw [hb17]; rfl), trivial⟩) K8
     ·skip
      refine HW.skip (i := 7) hH rfl (by kernel_rfl) (Skips.on rfl rfl rfl rfl rfl hb17) rfl (fun _ => hS1) ?_
      refine HW.skip (i := 8) hH rfl (by kernel_rfl) (Skips.on rfl rfl rfl rfl rfl hb17) rfl (fun _ => hS1) ?_
      refine HW.pure (i := 9) hH rfl (by kernel_rfl) (Wants.free rfl) rfl (fun _ => hS1) (Rd.pickF rfl hb17 rfl) ?_
      exact HW.sub hH (by exact ⟨rfl, rfl, rfl, rfl, rfl, rfl, rfl, rfl, rfl, (by rw [hb17]; rfl), trivial⟩) K8
    refine HW.pure (i := 10) hH rfl (by kernel_rfl) (Wants.free rfl) rfl (fun _ => hS1) (Rd.move (v := .bool ((r16 == 0 && r27 == 0) && r29 == 0)) rfl) ?_
    replace h := h  w17  hc_w17
    obtain ⟨J3, hJ3, h1_J3, h0_J3⟩ := h
    suffices K9 : ∀ (b5 : Bool) (w18 : World), (Boxes w18 [(b1, [.int .u32 r1, .int .u32 r2, .int .u32 r3, .int .u32 r4, .int .u32 r5, .int .u32 r6, .int .u32 r7, .int .u32 r8, .int .u32 r9, .int .u32 r10, .int .u32 r11], 25), (b3, [.int .i64 r20, .int .i64 r21, .int .i64 r22, .slice r23 r23n r23c, .slice r24 r24n r24c], 43)]) → Boxes w18 [(b3, [.int .i64 r20, .int .i64 r21, .int .i64 r22, .slice r23 r23n r23c, .slice r24 r24n r24c], 43), (b1, [.int .u32 r1, .int .u32 r2, .int .u32 r3, .int .u32 r4, .int .u32 r5, .int .u32 r6, .int .u32 r7, .int .u32 r8, .int .u32 r9, .int .u32 r10, .int .u32 r11], 25)] → J3 b5 w18 → H 23 #[true, true, true, true, true, true, true, true, true, true, true, true, true, true, true, true, true, true, false, false, false, false, false, false, false, false, false, false, false, false, false, false, false, false, false, false, false, false, false, false, false] [(2, .slice l1 l1n l1c), (3, .pointer (some (⟨b1, 0, none⟩ : Addr))), (6, .bool false), (7, .pointer r15), (9, .pointer r19), (10, .pointer (some (⟨b3, 0, none⟩ : Addr))), (11, .pointer r25), (14, .slice r28 r28n r28c), (97, .bool b5)] w18 by
     rcases Bool.eq_false_or_eq_true ((r16 == 0 && r27 == 0) && r29 == 0) with hb18 | hb18
     ·have h := h1_J3 hb18
      refine HW.pure (i := 11) hH rfl (by kernel_rfl) (Wants.on rfl rfl rfl rfl rfl hb18) rfl (fun _ => hS1) (Rd.move (v := .bool r26) rfl) ?_
      refine HW.take (i := 12) hH rfl (by kernel_rfl) (by kernel_rfl) (Wants.on rfl rfl rfl rfl rfl hb18) rfl (fun _ => hS1) (Rd.ldN (cs := [.int .u32 r1, .int .u32 r2, .int .u32 r3, .int .u32 r4, .int .u32 r5, .int .u32 r6, .int .u32 r7, .int .u32 r8, .int .u32 r9, .int .u32 r10, .int .u32 r11]) rfl (by kernel_rfl) (by kernel_rfl) (fun w h => cellsAt_get (box_cells (Boxes.at (i := 0) h rfl) rfl))) ?_
      refine HW.take (i := 13) hH rfl (by kernel_rfl) (by kernel_rfl) (Wants.on rfl rfl rfl rfl rfl hb18) rfl (fun _ => hS1) (Rd.ldN (cs := [.int .i64 r20, .int .i64 r21, .int .i64 r22, .slice r23 r23n r23c, .slice r24 r24n r24c]) rfl (by kernel_rfl) (by kernel_rfl) (fun w h => cellsAt_get (box_cells (Boxes.at (i := 1) h rfl) rfl))) ?_
      refine HW.pure (i := 14) hH rfl (by kernel_rfl) (Wants.on rfl rfl rfl rfl rfl hb18) rfl (fun _ => hS1) (Rd.move (v := .slice l1 l1n l1c) rfl) ?_
      refine HW.call (i := 15) hH (by kernel_rfl) rfl (Wants.on rfl rfl rfl rfl rfl hb18) rfl (Cl.fn (f := 19) rfl Tryz.func19 (by kernel_rfl) rfl) h (fun e w19 h_ => ?_)
      clear h
      obtain ⟨r32, rfl, h⟩ := h_
      obtain ⟨hsm12, h⟩ := h
      replace hB := Boxes.sameS hB hsm12 (by simp)
      have hS2 : Boxes w19 [(b1, [.int .u32 r1, .int .u32 r2, .int .u32 r3, .int .u32 r4, .int .u32 r5, .int .u32 r6, .int .u32 r7, .int .u32 r8, .int .u32 r9, .int .u32 r10, .int .u32 r11], 25), (b3, [.int .i64 r20, .int .i64 r21, .int .i64 r22, .slice r23 r23n r23c, .slice r24 r24n r24c], 43)] := (hB.sel [1, 0] (by decide) rfl)
      refine ⟨_, rfl, (fun _ => hS2), ?_⟩
      refine HW.pure (i := 16) hH rfl (by kernel_rfl) (Wants.on rfl rfl rfl rfl rfl hb18) rfl (fun _ => hS2) (Rd.bin (v := .bool (r26 == r32)) rfl rfl (fun w => by kernel_rfl)) ?_
      refine HW.pure (i := 17) hH rfl (by kernel_rfl) (Wants.free rfl) rfl (fun _ => hS2) (Rd.pickT rfl hb18 rfl) ?_
      exact HW.sub hH (by exact ⟨rfl, rfl, rfl, rfl, rfl, rfl, rfl, rfl, rfl, trivial⟩) (K9 (r26 == r32) w19 hS2 (by exact hB) h)
     ·have h := h0_J3 hb18
      refine HW.skip (i := 11) hH rfl (by kernel_rfl) (Skips.on rfl rfl rfl rfl rfl hb18) rfl (fun _ => hS1) ?_
      refine HW.skip (i := 12) hH rfl (by kernel_rfl) (Skips.on rfl rfl rfl rfl rfl hb18) rfl (fun _ => hS1) ?_
      refine HW.skip (i := 13) hH rfl (by kernel_rfl) (Skips.on rfl rfl rfl rfl rfl hb18) rfl (fun _ => hS1) ?_
      refine HW.skip (i := 14) hH rfl (by kernel_rfl) (Skips.on rfl rfl rfl rfl rfl hb18) rfl (fun _ => hS1) ?_
      refine HW.skip (i := 15) hH rfl (by kernel_rfl) (Skips.on rfl rfl rfl rfl rfl hb18) rfl (fun _ => hS1) ?_
      refine HW.skip (i := 16) hH rfl (by kernel_rfl) (Skips.on rfl rfl rfl rfl rfl hb18) rfl (fun _ => hS1) ?_
      refine HW.pure (i := 17) hH rfl (by kernel_rfl) (Wants.free rfl) rfl (fun _ => hS1) (Rd.pickF rfl hb18 rfl) ?_
      exact HW.sub hH (by exact ⟨rfl, rfl, rfl, rfl, rfl, rfl, rfl, rfl, rfl, trivial⟩) (K9 false w17 hS1 (by exact hB) h)
    clear hB
    intro b5 w18 hS3 hB h_
    have h := hJ3 b5 w18 h_; clear h_
    refine HW.pure (i := 18) hH rfl (by kernel_rfl) (Wants.free rfl) rfl (fun _ => hS3) (Rd.move (v := .bool b5) rfl) ?_
    obtain ⟨J4, hJ4, h1_J4, h0_J4⟩ := h
    suffices K10 : ∀ (b6 : Bool) (w20 : World), (Boxes w20 [(b1, [.int .u32 r1, .int .u32 r2, .int .u32 r3, .int .u32 r4, .int .u32 r5, .int .u32 r6, .int .u32 r7, .int .u32 r8, .int .u32 r9, .int .u32 r10, .int .u32 r11], 25), (b3, [.int .i64 r20, .int .i64 r21, .int .i64 r22, .slice r23 r23n r23c, .slice r24 r24n r24c], 43)]) → Boxes w20 [(b3, [.int .i64 r20, .int .i64 r21, .int .i64 r22, .slice r23 r23n r23c, .slice r24 r24n r24c], 43), (b1, [.int .u32 r1, .int .u32 r2, .int .u32 r3, .int .u32 r4, .int .u32 r5, .int .u32 r6, .int .u32 r7, .int .u32 r8, .int .u32 r9, .int .u32 r10, .int .u32 r11], 25)] → J4 b6 w20 → H 15 #[true, true, true, true, true, true, true, true, true, true, true, true, true, true, true, true, true, true, true, true, true, true, true, true, true, true, false, false, false, false, false, false, false, false, false, false, false, false, false, false, false] [(3, .pointer (some (⟨b1, 0, none⟩ : Addr))), (6, .bool false), (7, .pointer r15), (9, .pointer r19), (11, .pointer r25), (105, .bool b6)] w20 by
     rcases Bool.eq_false_or_eq_true b5 with hb19 | hb19
     ·have h := h1_J4 hb19
      refine HW.pure (i := 19) hH rfl (by kernel_rfl) (Wants.on rfl rfl rfl rfl rfl hb19) rfl (fun _ => hS3) (Rd.move (v := .slice r28 r28n r28c) rfl) ?_
      refine HW.take (i := 20) hH rfl (by kernel_rfl) (by kernel_rfl) (Wants.on rfl rfl rfl rfl rfl hb19) rfl (fun _ => hS3) (Rd.ldN (cs := [.int .u32 r1, .int .u32 r2, .int .u32 r3, .int .u32 r4, .int .u32 r5, .int .u32 r6, .int .u32 r7, .int .u32 r8, .int .u32 r9, .int .u32 r10, .int .u32 r11]) rfl (by kernel_rfl) (by kernel_rfl) (fun w h => cellsAt_get (box_cells (Boxes.at (i := 0) h rfl) rfl))) ?_
      refine HW.take (i := 21) hH rfl (by kernel_rfl) (by kernel_rfl) (Wants.on rfl rfl rfl rfl rfl hb19) rfl (fun _ => hS3) (Rd.ldN (cs := [.int .i64 r20, .int .i64 r21, .int .i64 r22, .slice r23 r23n r23c, .slice r24 r24n r24c]) rfl (by kernel_rfl) (by kernel_rfl) (fun w h => cellsAt_get (box_cells (Boxes.at (i := 1) h rfl) rfl))) ?_
      refine HW.pure (i := 22) hH rfl (by kernel_rfl) (Wants.on rfl rfl rfl rfl rfl hb19) rfl (fun _ => hS3) (Rd.move (v := .slice l1 l1n l1c) rfl) ?_
      refine HW.call (i := 23) hH (by kernel_rfl) rfl (Wants.on rfl rfl rfl rfl rfl hb19) rfl (Cl.fn (f := 21) rfl Tryz.func21 (by kernel_rfl) rfl) h (fun e w21 h_ => ?_)
      clear h
      obtain ⟨r33, r33n, r33c, rfl, h⟩ := h_
      obtain ⟨hsm13, h⟩ := h
      replace hB := Boxes.sameS hB hsm13 (by simp)
      have hS4 : Boxes w21 [(b1, [.int .u32 r1, .int .u32 r2, .int .u32 r3, .int .u32 r4, .int .u32 r5, .int .u32 r6, .int .u32 r7, .int .u32 r8, .int .u32 r9, .int .u32 r10, .int .u32 r11], 25), (b3, [.int .i64 r20, .int .i64 r21, .int .i64 r22, .slice r23 r23n r23c, .slice r24 r24n r24c], 43)] := (hB.sel [1, 0] (by decide) rfl)
      refine ⟨_, rfl, (fun _ => hS4), ?_⟩
      refine HW.call (i := 24) hH (by kernel_rfl) rfl (Wants.on rfl rfl rfl rfl rfl hb19) rfl (Cl.fn (f := 20) rfl Tryz.func20 (by kernel_rfl) rfl) h (fun e w22 h_ => ?_)
      clear h
      obtain ⟨r34, rfl, h⟩ := h_
      obtain ⟨hsm14, h⟩ := h
      replace hB := Boxes.sameS hB hsm14 (by simp)
      have hS5 : Boxes w22 [(b1, [.int .u32 r1, .int .u32 r2, .int .u32 r3, .int .u32 r4, .int .u32 r5, .int .u32 r6, .int .u32 r7, .int .u32 r8, .int .u32 r9, .int .u32 r10, .int .u32 r11], 25), (b3, [.int .i64 r20, .int .i64 r21, .int .i64 r22, .slice r23 r23n r23c, .slice r24 r24n r24c], 43)] := (hB.sel [1, 0] (by decide) rfl)
      refine ⟨_, rfl, (fun _ => hS5), ?_⟩
      refine HW.pure (i := 25) hH rfl (by kernel_rfl) (Wants.free rfl) rfl (fun _ => hS5) (Rd.pickT rfl hb19 rfl) ?_
      exact HW.sub hH (by exact ⟨rfl, rfl, rfl, rfl, rfl, rfl, trivial⟩) (K10 r34 w22 hS5 (by exact hB) h)
     ·have h := h0_J4 hb19
      refine HW.skip (i := 19) hH rfl (by kernel_rfl) (Skips.on rfl rfl rfl rfl rfl hb19) rfl (fun _ => hS3) ?_
      refine HW.skip (i := 20) hH rfl (by kernel_rfl) (Skips.on rfl rfl rfl rfl rfl hb19) rfl (fun _ => hS3) ?_
      refine HW.skip (i := 21) hH rfl (by kernel_rfl) (Skips.on rfl rfl rfl rfl rfl hb19) rfl (fun _ => hS3) ?_
      refine HW.skip (i := 22) hH rfl (by kernel_rfl) (Skips.on rfl rfl rfl rfl rfl hb19) rfl (fun _ => hS3) ?_
      refine HW.skip (i := 23) hH rfl (by kernel_rfl) (Skips.on rfl rfl rfl rfl rfl hb19) rfl (fun _ => hS3) ?_
      refine HW.skip (i := 24) hH rfl (by kernel_rfl) (Skips.on rfl rfl rfl rfl rfl hb19) rfl (fun _ => hS3) ?_
      refine HW.pure (i := 25) hH rfl (by kernel_rfl) (Wants.free rfl) rfl (fun _ => hS3) (Rd.pickF rfl hb19 rfl) ?_
      exact HW.sub hH (by exact ⟨rfl, rfl, rfl, rfl, rfl, rfl, trivial⟩) (K10 false w18 hS3 (by exact hB) h)
    clear hB
    intro b6 w20 hS6 hB h_
    have h := hJ4 b6 w20 h_; clear h_
    refine HW.pure (i := 26) hH rfl (by kernel_rfl) (Wants.free rfl) rfl (fun _ => hS6) (Rd.move (v := .bool b6) rfl) ?_
    obtain ⟨J5, hJ5, h1_J5, h0_J5⟩ := h
    suffices K11 : ∀ (b7 : Bool) (w23 : World), (Boxes w23 [(b1, [.int .u32 r1, .int .u32 r2, .int .u32 r3, .int .u32 r4, .int .u32 r5, .int .u32 r6, .int .u32 r7, .int .u32 r8, .int .u32 r9, .int .u32 r10, .int .u32 r11], 25), (b3, [.int .i64 r20, .int .i64 r21, .int .i64 r22, .slice r23 r23n r23c, .slice r24 r24n r24c], 43)]) → Boxes w23 [(b3, [.int .i64 r20, .int .i64 r21, .int .i64 r22, .slice r23 r23n r23c, .slice r24 r24n r24c], 43), (b1, [.int .u32 r1, .int .u32 r2, .int .u32 r3, .int .u32 r4, .int .u32 r5, .int .u32 r6, .int .u32 r7, .int .u32 r8, .int .u32 r9, .int .u32 r10, .int .u32 r11], 25)] → J5 b7 w23 → H 9 #[true, true, true, true, true, true, true, true, true, true, true, true, true, true, true, true, true, true, true, true, true, true, true, true, true, true, true, true, true, true, true, true, false, false, false, false, false, false, false, false, false] [(6, .bool false), (9, .pointer r19), (11, .pointer r25), (111, .bool b7)] w23 by
     rcases Bool.eq_false_or_eq_true b6 with hb20 | hb20
     ·have h := h1_J5 hb20
      refine HW.pure (i := 27) hH rfl (by kernel_rfl) (Wants.on rfl rfl rfl rfl rfl hb20) rfl (fun _ => hS6) (Rd.move (v := .pointer r15) rfl) ?_
      refine HW.take (i := 29) hH rfl (by kernel_rfl) (by kernel_rfl) (Wants.on rfl rfl rfl rfl rfl hb20) rfl (fun _ => hS6) (Rd.ldN (cs := [.int .u32 r1, .int .u32 r2, .int .u32 r3, .int .u32 r4, .int .u32 r5, .int .u32 r6, .int .u32 r7, .int .u32 r8, .int .u32 r9, .int .u32 r10, .int .u32 r11]) rfl (by kernel_rfl) (by kernel_rfl) (fun w h => cellsAt_get (box_cells (Boxes.at (i := 0) h rfl) rfl))) ?_
      refine HW.call (i := 28) hH (by kernel_rfl) rfl (Wants.on rfl rfl rfl rfl rfl hb20) rfl (Cl.fn (f := 22) rfl Tryz.func22 (by kernel_rfl) rfl) h (fun e w24 h_ => ?_)
      clear h
      obtain ⟨r35, r36, r37, r38, r39, r40, r41, r42, r43, r44, r45, rfl, h⟩ := h_
      obtain ⟨hsm15, h⟩ := h
      replace hB := Boxes.sameS hB hsm15 (by simp)
      have hS7 : Boxes w24 [(b1, [.int .u32 r1, .int .u32 r2, .int .u32 r3, .int .u32 r4, .int .u32 r5, .int .u32 r6, .int .u32 r7, .int .u32 r8, .int .u32 r9, .int .u32 r10, .int .u32 r11], 25), (b3, [.int .i64 r20, .int .i64 r21, .int .i64 r22, .slice r23 r23n r23c, .slice r24 r24n r24c], 43)] := (hB.sel [1, 0] (by decide) rfl)
      refine ⟨_, rfl, (fun _ => hS7), ?_⟩
      obtain ⟨t1, hx1, h⟩ := h
      refine HW.pure (i := 30) hH rfl (by kernel_rfl) (Wants.on rfl rfl rfl rfl rfl hb20) rfl (fun _ => hS7) (Rd.bin (v := .bool t1) rfl rfl hx1) ?_
      refine HW.pure (i := 31) hH rfl (by kernel_rfl) (Wants.free rfl) rfl (fun _ => hS7) (Rd.pickT rfl hb20 rfl) ?_
      exact HW.sub hH (by exact ⟨rfl, rfl, rfl, rfl, trivial⟩) (K11 t1 w24 hS7 (by exact hB) h)
     ·have h := h0_J5 hb20
      refine HW.skip (i := 27) hH rfl (by kernel_rfl) (Skips.on rfl rfl rfl rfl rfl hb20) rfl (fun _ => hS6) ?_
      refine HW.skip (i := 28) hH rfl (by kernel_rfl) (Skips.on rfl rfl rfl rfl rfl hb20) rfl (fun _ => hS6) ?_
      refine HW.skip (i := 29) hH rfl (by kernel_rfl) (Skips.on rfl rfl rfl rfl rfl hb20) rfl (fun _ => hS6) ?_
      refine HW.skip (i := 30) hH rfl (by kernel_rfl) (Skips.on rfl rfl rfl rfl rfl hb20) rfl (fun _ => hS6) ?_
      refine HW.pure (i := 31) hH rfl (by kernel_rfl) (Wants.free rfl) rfl (fun _ => hS6) (Rd.pickF rfl hb20 rfl) ?_
      exact HW.sub hH (by exact ⟨rfl, rfl, rfl, rfl, trivial⟩) (K11 false w20 hS6 (by exact hB) h)
    clear hB
    intro b7 w23 hS8 hB h_
    have h := hJ5 b7 w23 h_; clear h_
    refine HW.pure (i := 32) hH rfl (by kernel_rfl) (Wants.free rfl) rfl (fun _ => hS8) (Rd.move (v := .bool b7) rfl) ?_
    obtain ⟨J6, hJ6, h1_J6, h0_J6⟩ := h
    suffices K12 : ∀ (b8 : Bool) (w25 : World), (Boxes w25 [(b1, [.int .u32 r1, .int .u32 r2, .int .u32 r3, .int .u32 r4, .int .u32 r5, .int .u32 r6, .int .u32 r7, .int .u32 r8, .int .u32 r9, .int .u32 r10, .int .u32 r11], 25), (b3, [.int .i64 r20, .int .i64 r21, .int .i64 r22, .slice r23 r23n r23c, .slice r24 r24n r24c], 43)]) → Boxes w25 [(b3, [.int .i64 r20, .int .i64 r21, .int .i64 r22, .slice r23 r23n r23c, .slice r24 r24n r24c], 43), (b1, [.int .u32 r1, .int .u32 r2, .int .u32 r3, .int .u32 r4, .int .u32 r5, .int .u32 r6, .int .u32 r7, .int .u32 r8, .int .u32 r9, .int .u32 r10, .int .u32 r11], 25)] → J6 b8 w25 → H 4 #[true, true, true, true, true, true, true, true, true, true, true, true, true, true, true, true, true, true, true, true, true, true, true, true, true, true, true, true, true, true, true, true, true, true, true, true, true, false, false, false, false] [(6, .bool false), (116, .bool b8)] w25 by
     rcases Bool.eq_false_or_eq_true b7 with hb21 | hb21
     ·have h := h1_J6 hb21
      refine HW.pure (i := 33) hH rfl (by kernel_rfl) (Wants.on rfl rfl rfl rfl rfl hb21) rfl (fun _ => hS8) (Rd.move (v := .pointer r19) rfl) ?_
      refine HW.pure (i := 34) hH rfl (by kernel_rfl) (Wants.on rfl rfl rfl rfl rfl hb21) rfl (fun _ => hS8) (Rd.move (v := .pointer r25) rfl) ?_
      refine HW.call (i := 35) hH (by kernel_rfl) rfl (Wants.on rfl rfl rfl rfl rfl hb21) rfl (Cl.fn (f := 23) rfl Tryz.func23 (by kernel_rfl) rfl) h (fun e w26 h_ => ?_)
      clear h
      obtain ⟨r46, rfl, h⟩ := h_
      obtain ⟨hsm16, h⟩ := h
      replace hB := Boxes.sameS hB hsm16 (by simp)
      have hS9 : Boxes w26 [(b1, [.int .u32 r1, .int .u32 r2, .int .u32 r3, .int .u32 r4, .int .u32 r5, .int .u32 r6, .int .u32 r7, .int .u32 r8, .int .u32 r9, .int .u32 r10, .int .u32 r11], 25), (b3, [.int .i64 r20, .int .i64 r21, .int .i64 r22, .slice r23 r23n r23c, .slice r24 r24n r24c], 43)] := (hB.sel [1, 0] (by decide) rfl)
      refine ⟨_, rfl, (fun _ => hS9), ?_⟩
      refine HW.pure (i := 36) hH rfl (by kernel_rfl) (Wants.free rfl) rfl (fun _ => hS9) (Rd.pickT rfl hb21 rfl) ?_
      exact HW.sub hH (by exact ⟨rfl, rfl, trivial⟩) (K12 r46 w26 hS9 (by exact hB) h)
     ·have h := h0_J6 hb21
      refine HW.skip (i := 33) hH rfl (by kernel_rfl) (Skips.on rfl rfl rfl rfl rfl hb21) rfl (fun _ => hS8) ?_
      refine HW.skip (i := 34) hH rfl (by kernel_rfl) (Skips.on rfl rfl rfl rfl rfl hb21) rfl (fun _ => hS8) ?_
      refine HW.skip (i := 35) hH rfl (by kernel_rfl) (Skips.on rfl rfl rfl rfl rfl hb21) rfl (fun _ => hS8) ?_
      refine HW.pure (i := 36) hH rfl (by kernel_rfl) (Wants.free rfl) rfl (fun _ => hS8) (Rd.pickF rfl hb21 rfl) ?_
      exact HW.sub hH (by exact ⟨rfl, rfl, trivial⟩) (K12 false w23 hS8 (by exact hB) h)
    clear hB
    intro b8 w25 hS10 hB h_
    have h := hJ6 b8 w25 h_; clear h_
    refine HW.pure (i := 37) hH rfl (by kernel_rfl) (Wants.free rfl) rfl (fun _ => hS10) (Rd.move (v := .bool b8) rfl) ?_
    obtain ⟨J7, hJ7, h1_J7, h0_J7⟩ := h
    suffices K13 : ∀ (b9 : Bool) (w27 : World), J7 b9 w27 → H 1 #[true, true, true, true, true, true, true, true, true, true, true, true, true, true, true, true, true, true, true, true, true, true, true, true, true, true, true, true, true, true, true, true, true, true, true, true, true, true, true, true, false] [(6, .bool false), (119, .bool b9)] w27 by
     rcases Bool.eq_false_or_eq_true b8 with hb22 | hb22
     ·have h := h1_J7 hb22
      refine HW.call (i := 38) hH (by kernel_rfl) rfl (Wants.on rfl rfl rfl rfl rfl hb22) rfl (Cl.fn (f := 11) rfl Tryz.func11 (by kernel_rfl) rfl) h (fun e w28 h_ => ?_)
      clear h
      obtain ⟨r47, rfl, h⟩ := h_
      refine ⟨_, rfl, (fun hc => by cases hc), ?_⟩
      refine HW.pure (i := 39) hH rfl (by kernel_rfl) (Wants.free rfl) rfl (fun hc => by cases hc) (Rd.pickT rfl hb22 rfl) ?_
      exact HW.sub hH (by exact ⟨rfl, rfl, trivial⟩) (K13 r47 w28 h)
     ·have h := h0_J7 hb22
      refine HW.skip1 (i := 38) hH (by kernel_rfl) rfl (Skips.on rfl rfl rfl rfl rfl hb22) rfl (fun hc => by cases hc) ?_
      refine HW.pure (i := 39) hH rfl (by kernel_rfl) (Wants.free rfl) rfl (fun hc => by cases hc) (Rd.pickF rfl hb22 rfl) ?_
      exact HW.sub hH (by exact ⟨rfl, rfl, trivial⟩) (K13 false w25 h)
    intro b9 w27 h_
    have h := hJ7 b9 w27 h_; clear h_
    refine HW.pure (i := 40) hH rfl (by kernel_rfl) (Wants.free rfl) rfl (fun hc => by cases hc) (Rd.assign (v := .bool b9) rfl) ?_
    refine HW.done hH (by kernel_rfl) ?_
    refine NW.then ?_
    refine CW.ret ?_
    exact res1 rfl rfl ⟨b9, rfl, h⟩
end Go.Proofs.YtfcfkhbkkfpehaaGreat
end
section
/- Arguments that came in, opened: rules. -/
namespace Go.Proofs.YtfcfkhbkkfpehaaGreat
open Go Go.RowKit Go.X
section
variable {H : Type} {enc : TypeId × Value → H} {w : World} {base : Nat} {spare : Nat → Bool} {held : Bool} {fuel : Nat} {x : DataW H × List MemPlace} {cs : List Value}
def u32s (n : Int) : Prop := 0 ≤ n ∧ n < 4294967296
end
end Go.Proofs.YtfcfkhbkkfpehaaGreat
end
section
/- PolicyJudges' walk. -/
namespace Go.Proofs.YtfcfkhbkkfpehaaGreat
open Go Go.RowKit Go.X Go.XR
theorem made_rel (ms : List Pr) : RelF (madeF ms) (madeR ms) := by
 have : ∀ (ms : List Pr) (F : Fl) (R : Rf), RelF F R → RelF (ms.foldl (fun F m => markF F m.1 1 m.2) F) (ms.foldl (fun R m => refMark R m.1 1 m.2) R) := by
  intro ms
  induction ms with
  | nil => intro F R h; exact h
  | cons m ms ih => intro F R h; exact ih _ _ (h.mark m.1 1 m.2)
 exact this ms _ _ (RelF.new 2 2 65536)
theorem judges_walk {w : World} {S : Nat → Prop} {m1 l1 : Option Addr} {mn mc ln lc : Nat} {ms : List Pr} {ts : List Tch} (hM : MarksAt w S m1 mn ms) (hmn : mn ≤ maxLen) (hp : TouchesAt w S l1 ln ts) (hln : ln ≤ maxLen) (hin : ∀ t ∈ ts, t.2.length ≤ maxLen)
  (a1 a2 a3 a4 a5 a6 a7 a8 a9 a10 a11 : Int) (hru : ∀ x ∈ [a1, a2, a3, a4, a5, a6, a7, a8, a9, a10, a11], u32s x) :
  Calls Tryz.prog 3 #[.agg #[.int .u32 a1, .int .u32 a2, .int .u32 a3, .int .u32 a4, .int .u32 a5, .int .u32 a6, .int .u32 a7, .int .u32 a8, .int .u32 a9, .int .u32 a10, .int .u32 a11], .slice m1 mn mc, .slice l1 ln lc] w fun e w' =>
   ∃ r : Bool, e = .returned (.bool r) ∧ (r = true ∧ Chg [] w w') := by
 have hll := hp.length
 have hml := hM.length
 have hmn' := hmn
 have hln' := hln
 simp only [maxLen] at hmn' hln'
 refine go_pomanderlaw13_PolicyJudges _ _ _ _ _ _ _ _ _ _ _ _ _ _ _ _ _ _ _ ?_
 unfold W_pomanderlaw13_PolicyJudges
 rintro b1 w1 ⟨i1, j1⟩ c1
 have s1 := c1.size
 have N : ∀ {A B : World}, w1.heap.size ≤ A.heap.size → Chg [] A B → Same A B [b1] := fun h hc => Same.chg hc (by simp; omega)
 refine (broad_ok (m1 := m1) (mc := mc) (c := lc) (hp.chg c1 (by simp)) hln hmn).mono ?_
 rintro _ w2 ⟨_, rfl, rfl, hw⟩
 subst w2
 refine ⟨_, rfl, N (Nat.le_refl _) (Chg.refl _ _), fun _ => ?_, fun hb => ?_⟩
 ·refine (known_true w1).mono ?_
  rintro _ w3 ⟨_, rfl, rfl, c3⟩
  exact ⟨_, rfl, N (Nat.le_refl _) c3, rfl, c1.trans0 c3⟩
 have hb' := of_decide_eq_false hb
 have h30 : mn ≤ 30 := by
  apply Classical.byContradiction; intro k; exact hb' (.inl (by omega))
 have h20 : ts.length ≤ 20 := by
  apply Classical.byContradiction; intro k; exact hb' (.inr (.inl (by omega)))
 have hin' : ∀ t ∈ ts, t.2.length ≤ 9223372036854775807 := fun t ht => by have := hin t ht; simp only [maxLen] at this; omega
 refine (pol_of (w := w1) [a1, a2, a3, a4, a5, a6, a7, a8, a9, a10, a11] rfl a1 a2 a3 a4 a5 a6 a7 a8 a9 a10 a11 rfl).mono ?_
 rintro _ w4 ⟨r15, r16, rfl, c4, hof⟩
 have s4 := c4.size
 refine ⟨_, _, rfl, N (Nat.le_refl _) c4, ?_⟩
 refine (ref_mayRules a1 a2 a3 a4 a5 a6 a7 a8 a9 a10 a11).mono ?_
 rintro _ w5 ⟨r17, rfl, hmr, c5⟩
 have s5 := c5.size
 have c05 := (c1.trans0 c4).trans0 c5
 refine ⟨_, rfl, N (by omega) c5, fun hno => ?_, fun hyes => ?_⟩
 ·have hno' : ¬ okR [a1, a2, a3, a4, a5, a6, a7, a8, a9, a10, a11] := fun k => by rw [hmr.2 k] at hno; cases hno
  rw [if_neg hno'] at hof
  obtain ⟨rfl, rfl⟩ := hof
  refine ⟨fun b w' => b = true ∧ Chg [] w w', fun _ _ h => h, fun _ => ?_, fun h => by simp at h⟩
  refine (known_true w5).mono ?_
  rintro _ w7 ⟨_, rfl, rfl, c7⟩
  exact ⟨_, rfl, N (by omega) c7, rfl, c05.trans0 c7⟩
 have hyes' : r17 = true := by simpa using hyes
 have hok := hmr.1 hyes'
 rw [if_pos hok] at hof
 obtain ⟨rfl, b, rfl, hPol, hbl⟩ := hof
 have hu : ∀ x ∈ [a1, a2, a3, a4, a5, a6, a7, a8, a9, a10, a11], u16 x := fun x hx => ⟨(hru x hx).1, hok.2.2 x hx⟩
 refine (made_ok (c := mc) (hM.chg c05 (by simp)) (by omega)).mono ?_
 rintro _ w8 ⟨_, z1, z2, z3, p4, n4, c4', p5, n5, c5', rfl, bf, fp, rfl, hF, y1, y2, y3, hR, c8, hfp, hrf⟩
 obtain rfl := y1.symm
 obtain rfl := y2.symm
 obtain rfl := y3.symm
 have s8 := c8.size
 have c08 := c05.trans0 c8
 refine ⟨_, _, _, _, _, _, _, _, _, _, rfl, N (by omega) c8, ?_⟩
 rintro b3 w10 ⟨i3, j3⟩ c10
 have s10 := c10.size
 have c010 := c08.trans0 c10
 have M : ∀ {A B : World}, w10.heap.size ≤ A.heap.size → Chg [] A B → Same A B [b3, b1] := fun h hc => Same.chg hc (by simp; omega)
 have hF10 := hF.chg c10 (by simp)
 refine (flow_copy hF10).mono ?_
 rintro _ w11 ⟨_, rfl, bc, fc, rfl, hC, c11, hfc⟩
 have s11 := c11.size
 have hPol11 := hPol.chg (((c5.trans0 c8).trans0 c10).trans0 c11) (by simp)
 have hF11 := hF10.chg c11 (by simp)
 have c011 := c010.trans0 c11
 refine ⟨_, rfl, M (by omega) c11, ?_⟩
 refine (pol_stops (c := lc) hPol11 hF11 (hp.chg c011 (by simp)) (by omega) hin' (st := a11) rfl).mono ?_
 rintro _ w12 ⟨_, _, rfl, rfl, rfl, c12⟩
 have s12 := c12.size
 have c012 := c011.trans0 c12
 refine ⟨_, _, rfl, M (by omega) c12, ?_⟩
 refine (pol_alerts (c := lc) (hPol11.chg c12 (by simp)) (hF11.chg c12 (by simp)) (hp.chg c012 (by simp)) (by omega) hin').mono ?_
 rintro _ w13 ⟨r28, r28n, r28c, _, rfl, c13, rfl, hal1, hal2⟩
 have s13 := c13.size
 have c013 := c012.trans0 c13
 refine ⟨_, _, _, _, rfl, M (by omega) c13, ?_⟩
 have hsh := madeR_ok ms
 have hR13 := hR.chg (((c10.trans0 c11).trans0 c12).trans0 c13) (by simp) (by simp)
 have hmay := ref_mayAll (w := w13) (R := madeR ms) (p4 := p4) (n4 := n4) (c4 := c4') (p5 := p5) (n5 := n5) (c5 := c5') (c := lc) (by rw [hsh.1, hsh.2.1]; unfold i64s; omega) (hp.chg c013 (by simp)) (by omega) hin'
 rw [hsh.1, hsh.2.1, hsh.2.2.1] at hmay
 refine hmay.mono ?_
 rintro _ w14 ⟨_, rfl, rfl, c14⟩
 have s14 := c14.size
 have c014 := c013.trans0 c14
 have hfr : (madeF ms).fr = 2 ∧ (madeF ms).se = 2 := by
  have := made_rel ms
  exact ⟨by rw [← this.fr]; exact hsh.1, by rw [← this.se]; exact hsh.2.1⟩
 rw [hfr.1, hfr.2] at hal1 hal2
 refine ⟨_, rfl, M (by omega) c14, fun hno => ?_, fun hyes => ?_⟩
 ·have hno' : ¬ ∀ t ∈ ts, rightT 2 2 t := fun k => by rw [decide_eq_true (show rightAll 2 2 ts from k)] at hno; cases hno
  have e1 : decN (madeF ms) ts = 0 := by unfold decN; rw [hfr.1, hfr.2, if_neg hno']
  have e2 : decE (madeF ms) ts = 2 := by unfold decE; rw [hfr.1, hfr.2, if_neg hno']
  have e3 := hal2 hno'
  have e4 : bits .and .u32 0 a11 = 0 := by
   have := hu a11 (by simp)
   rw [u32_and 0 a11 (by omega) (by omega) this.1 (by have := this.2; omega)]; simp
  refine ⟨fun b w' => b = true ∧ Chg [] w w', fun _ _ h => h, fun _ => ?_, fun h => ?_⟩
  ·refine (known_true w14).mono ?_
   rintro _ w16 ⟨_, rfl, rfl, c16⟩
   exact ⟨_, rfl, M (by omega) c16, rfl, c014.trans0 c16⟩
  ·rw [e1, e2, e3, e4] at h
   simp at h
 have hall : ∀ t ∈ ts, rightT 2 2 t := by
  cases hd : decide (rightAll 2 2 ts) with
  | true => exact of_decide_eq_true hd
  | false => rw [hd] at hyes; cases hyes
 have hrel := made_rel ms
 have hgg : lookPr (madeR ms).pairs = (madeF ms).g := funext hrel.look
 have hgu : ∀ q, u16 (lookPr (madeR ms).pairs q) := fun q => by rw [hgg]; exact hF.each q
 have e1 : decN (madeF ms) ts = decidesP (madeF ms).g ts := by unfold decN; rw [hfr.1, hfr.2, if_pos hall]
 have e2 : decE (madeF ms) ts = 0 := by unfold decE; rw [hfr.1, hfr.2, if_pos hall]
 have hn5 : n5 ≤ 100000000 := by have := hR.n5; have := hsh.2.2.2.1; omega
 intro w17 c17
 have s17 := c17.size
 have c017 := c014.trans0 c17
 have hR17 := hR13.chg (c14.trans0 c17) (by simp) (by simp)
 have hrow17 := (hal1 hall).chg (c14.trans0 c17) (by simp)
 have hF17 := hF11.chg (((c12.trans0 c13).trans0 c14).trans0 c17) (by simp)
 have hC17 := hC.chg (((c12.trans0 c13).trans0 c14).trans0 c17) (by simp)
 have hPol17 := hPol11.chg (((c12.trans0 c13).trans0 c14).trans0 c17) (by simp)
 refine ⟨fun b w' => b = true ∧ Chg [] w17 w', ?_, fun _ => ?_, fun h => by rw [e2] at h; simp at h⟩
 rotate_left
 ·have hst := ref_stops hR17 hn5 hgu (c := lc) (hp.chg c017 (by simp)) (by omega) hin' a1 a2 a3 a4 a5 a6 a7 a8 a9 a10 a11 (hu a11 (by simp))
  rw [hsh.1, hsh.2.1, hsh.2.2.1] at hst
  refine hst.mono ?_
  rintro _ w19 ⟨_, rfl, rfl, c19⟩
  exact ⟨_, rfl, M (by omega) c19, by rw [hgg, e1]; simp, c19⟩
 rintro _ w18 ⟨rfl, c18⟩
 have s18 := c18.size
 refine ⟨fun b w' => b = true ∧ Chg [] w17 w', ?_, fun _ => ?_, fun h => by simp at h⟩
 rotate_left
 ·have hal := ref_alerts (hR17.chg c18 (by simp) (by simp)) hn5 hgu (c := lc) (hp.chg (c017.trans0 c18) (by simp)) (by omega) hin' a1 a2 a3 a4 a5 a6 a7 a8 a9 a10 a11 hu
  rw [hsh.1, hsh.2.1, hsh.2.2.1, hgg] at hal
  refine hal.mono ?_
  rintro _ w21 ⟨r33, r33n, r33c, rfl, hrow21, c21⟩
  have s21 := c21.size
  refine ⟨_, _, _, rfl, M (by omega) c21, ?_⟩
  have hlen := hrow17.length
  rw [flat_length (enc := encPr) (size := 3) (fun _ => rfl)] at hlen
  have := alertsP_len (madeF ms).g [a1, a2, a3, a4, a5, a6, a7, a8, a9, a10, a11] ts
  refine (same_alerts ((hrow17.chg c18 (by simp)).chg c21 (by simp)) hrow21 (by omega)).mono ?_
  rintro _ w22 ⟨_, rfl, rfl, c22⟩
  exact ⟨_, rfl, M (by omega) c22, rfl, (c18.trans0 c21).trans0 c22⟩
 rintro _ w20 ⟨rfl, c20⟩
 have s20 := c20.size
 refine ⟨fun b w' => b = true ∧ Chg [] w17 w', ?_, fun _ => ?_, fun h => by simp at h⟩
 rotate_left
 ·refine (pol_rules (hPol17.chg c20 (by simp)) rfl).mono ?_
  rintro _ w24 ⟨_, _, _, _, _, _, _, _, _, _, _, rfl, rfl, rfl, rfl, rfl, rfl, rfl, rfl, rfl, rfl, rfl, rfl, c24⟩
  exact ⟨_, _, _, _, _, _, _, _, _, _, _, rfl, M (by omega) c24, _, fun w => eq66 _ _ w _ _ _ _ _ _ _ _ _ _ _ _ _ _ _ _ _ _ _ _ _ _, by simp, c20.trans0 c24⟩
 rintro _ w23 ⟨rfl, c23⟩
 have s23 := c23.size
 refine ⟨fun b w' => b = true ∧ Chg [] w17 w', ?_, fun _ => ?_, fun h => by simp at h⟩
 rotate_left
 ·refine (flow_same (hF17.chg c23 (by simp)) (hC17.chg c23 (by simp))).mono ?_
  rintro _ w26 ⟨r46, rfl, hr46, c26⟩
  exact ⟨_, rfl, M (by omega) c26, hr46.2 ⟨rfl, rfl, rfl, rfl, fun _ => rfl⟩, c23.trans0 c26⟩
 rintro _ w25 ⟨rfl, c25⟩
 refine ⟨fun b w' => b = true ∧ Chg [] w17 w', ?_, fun _ => ?_, fun h => by simp at h⟩
 ·rintro _ w27 ⟨rfl, c27⟩
  exact ⟨rfl, c017.trans0 c27⟩
 ·refine (known_true w25).mono ?_
  rintro _ w28 ⟨_, rfl, rfl, c28⟩
  exact ⟨_, rfl, rfl, c25.trans0 c28⟩
end Go.Proofs.YtfcfkhbkkfpehaaGreat
end
section
/- Small lemmas of several laws. -/
namespace Go.Proofs.YtfcfkhbkkfpehaaGreat
open Go Go.RowKit Go.X
theorem add_zero' (q : Addr) : q.add 0 = q := by
 unfold Addr.add
 split <;> simp_all
theorem add_add' (q : Addr) (a b : Nat) : (q.add a).add b = q.add (a + b) := by
 by_cases hb : b = 0
 ·subst hb; rw [add_zero', Nat.add_zero]
 ·by_cases ha : a = 0
  ·subst ha; rw [add_zero', Nat.zero_add]
  ·unfold Addr.add
   simp [ha, hb, Nat.add_assoc]
end Go.Proofs.YtfcfkhbkkfpehaaGreat
end
section
namespace Go.Proofs.YtfcfkhbkkfpehaaGreat
open Go Go.X
/- pomander/pomanderlaw13.PolicySinks -/
def W_pomanderlaw13_PolicySinks (sinks1 : Int) (sinks2 : Int) (sinks3 : Int) (sinks4 : Int) (set1 : Int) (n1 : Int) (w : World) (R : Bool → World → Prop) : Prop :=
 ∀ b1 : Nat, b1 = World.size w → ∀ w1 : World, w1 = World.alloc w (.cells #[.int .u32 sinks1, .int .u32 sinks2, .int .u32 sinks3, .int .u32 sinks4] 59) → (((decide (n1 < 0) || decide (n1 > 100)) = true → Calls Tryz.prog 11 #[] w1 fun e w2 => ∃ (r2 : Bool), e = .returned (.bool r2) ∧ (R r2 w2)) ∧ ((decide (n1 < 0) || decide (n1 > 100)) = false → ∀ b2 : Nat, b2 = World.size w1 → ∀ w3 : World, w3 = World.alloc w1 (.cells #[.int .u32 0, .int .u32 0, .int .u32 0, .int .u32 0, .int .u32 0, .int .u32 0, .int .u32 0, .int .u32 0, .int .u32 0, .int .u32 0, .int .u32 0] 25) → (Has w3 (⟨b2, 0, none⟩ : Addr) 11 ∧ Free w3 (⟨b2, 0, none⟩ : Addr) 11 ∧ ∀ w4 : World, w4 = setCells w3 (⟨b2, 0, none⟩ : Addr) 0 [.int .u32 0, .int .u32 0, .int .u32 0, .int .u32 0, .int .u32 0, .int .u32 0, .int .u32 0, .int .u32 0, .int .u32 0, .int .u32 0, .int .u32 0] → (∃ (I1 : Int → World → Prop) (m1 : Int → World → Nat), I1 0 w4 ∧ ∀ (i1 : Int) (w5 : World), I1 i1 w5 → ((decide (i1 < 4)) = true → (0 : Int) ≤ i1 ∧ (i1 : Int) < 4 ∧ (∃ (t1 : Int), w5.cell? ((⟨b1, 0, none⟩ : Addr).add (Int.toNat i1 * 1)) = some (.int .u32 t1) ∧ ((0 : Int) ≤ IntKind.wrap .i64 (1 + i1) ∧ (IntKind.wrap .i64 (1 + i1) : Int) < 5 ∧ ((∃ o : Value, w5.cell? ((⟨b2, 5, none⟩ : Addr).add (Int.toNat (IntKind.wrap .i64 (1 + i1)) * 1)) = some o) ∧ w5.frozen? ((⟨b2, 5, none⟩ : Addr).add (Int.toNat (IntKind.wrap .i64 (1 + i1)) * 1)) = false ∧ ∀ w6 : World, w6 = World.setCell w5 ((⟨b2, 5, none⟩ : Addr).add (Int.toNat (IntKind.wrap .i64 (1 + i1)) * 1)) (.int .u32 (Int.tmod t1 65536)) → ((I1 (IntKind.wrap .i64 (i1 + 1)) w6 ∧ m1 (IntKind.wrap .i64 (i1 + 1)) w6 < m1 i1 w5)))))) ∧ ((decide (i1 < 4)) = false → ∀ (b3 : Nat) (w8 : World), (w5.heap.size ≤ b3 ∧ b3 < w8.heap.size) → Chg [] w5 w8 → (∃ (I2 : (Option Addr) → Nat → Nat → Int → World → Prop) (m2 : (Option Addr) → Nat → Nat → Int → World → Nat), I2 none 0 0 0 w8 ∧ ∀ (l1 : Option Addr) (l1n : Nat) (l1c : Nat) (k1 : Int) (w9 : World), I2 l1 l1n l1c k1 w9 → ((decide (k1 < 18)) = true → ∀ (b4 : Nat) (w11 : World), (w9.heap.size ≤ b4 ∧ b4 < w11.heap.size) → Chg [] w9 w11 → (∃ J1 : Int → World → Prop, (∀ (c1 : Int) (w12 : World), J1 c1 w12 → ∀ b5 : Nat, b5 = World.size w12 → ∀ w13 : World, w13 = World.alloc w12 (.cells #[.int .i64 1, .int .i64 1] 62) → (∀ b6 : Nat, b6 = World.size w13 → ∀ w14 : World, w14 = World.alloc w13 (.cells #[.int .i64 k1, .int .i64 c1, .slice (some (⟨b5, 0, none⟩ : Addr)) 1 1, .int .i64 k1, .int .i64 c1, .slice none 0 0] 65) → (∃ (l2 : Option Addr) (l2n : Nat) (l2c : Nat) (w15 : World), (Builtin.append_ #[27, 27] 27 #[.slice l1 l1n l1c, .slice (some (⟨b6, 0, none⟩ : Addr)) 2 2]).run Tryz.prog w14 = .ok (.slice l2 l2n l2c) w15 ∧ (Same w14 w15 [b3] ∧ ((I2 l2 l2n l2c (IntKind.wrap .i64 (k1 + 1)) w15 ∧ m2 l2 l2n l2c (IntKind.wrap .i64 (k1 + 1)) w15 < m2 l1 l1n l1c k1 w9)))))) ∧ ((((k1 == 12 || k1 == 14) || k1 == 16) = true → ∀ (w16 : World), Chg [b4] w11 w16 → (J1 n1 w16)) ∧ (((k1 == 12 || k1 == 14) || k1 == 16) = false → J1 0 w11)))) ∧ ((decide (k1 < 18)) = false → ∀ (w17 : World), Chg [] w9 w17 → (∃ (t2 : Int) (t3 : Int) (t4 : Int) (t5 : Int) (t6 : Int) (t7 : Int) (t8 : Int) (t9 : Int) (t10 : Int) (t11 : Int) (t12 : Int), CellsAt w17 (⟨b2, 0, none⟩ : Addr) 0 [.int .u32 t2, .int .u32 t3, .int .u32 t4, .int .u32 t5, .int .u32 t6, .int .u32 t7, .int .u32 t8, .int .u32 t9, .int .u32 t10, .int .u32 t11, .int .u32 t12] ∧ (∃ (l3 : Option Addr) (l3n : Nat) (l3c : Nat), (∀ w : World, (Instr.sliceAt 27 (.slice l1 l1n l1c) (none) (some (.int .i64 20)) (none)).run Tryz.prog w = .ok (.slice l3 l3n l3c) w) ∧ (∀ b7 : Nat, b7 = World.size w17 → ∀ w18 : World, w18 = World.alloc w17 (.cells #[.int .i64 1, .int .i64 1, .int .u32 (Int.tmod set1 65536)] 67) → (Calls Tryz.prog 3 #[.agg #[.int .u32 t2, .int .u32 t3, .int .u32 t4, .int .u32 t5, .int .u32 t6, .int .u32 t7, .int .u32 t8, .int .u32 t9, .int .u32 t10, .int .u32 t11, .int .u32 t12], .slice (some (⟨b7, 0, none⟩ : Addr)) 1 1, .slice l3 l3n l3c] w18 fun e w19 => ∃ (r3 : Bool), e = .returned (.bool r3) ∧ ((CellsAt w19 (⟨b2, 0, none⟩ : Addr) 0 [.int .u32 t2, .int .u32 t3, .int .u32 t4, .int .u32 t5, .int .u32 t6, .int .u32 t7, .int .u32 t8, .int .u32 t9, .int .u32 t10, .int .u32 t11, .int .u32 t12]) ∧ (Same w18 w19 [b3] ∧ (∃ J2 : Bool → World → Prop, (∀ (b8 : Bool) (w20 : World), J2 b8 w20 → R b8 w20) ∧ ((r3 = true → ∃ (l4 : Option Addr) (l4n : Nat) (l4c : Nat), (∀ w : World, (Instr.sliceAt 27 (.slice l1 l1n l1c) (some (.int .i64 20)) (none) (none)).run Tryz.prog w = .ok (.slice l4 l4n l4c) w) ∧ (∀ b9 : Nat, b9 = World.size w19 → ∀ w21 : World, w21 = World.alloc w19 (.cells #[.int .i64 1, .int .i64 1, .int .u32 (Int.tmod set1 65536)] 67) → (Calls Tryz.prog 3 #[.agg #[.int .u32 t2, .int .u32 t3, .int .u32 t4, .int .u32 t5, .int .u32 t6, .int .u32 t7, .int .u32 t8, .int .u32 t9, .int .u32 t10, .int .u32 t11, .int .u32 t12], .slice (some (⟨b9, 0, none⟩ : Addr)) 1 1, .slice l4 l4n l4c] w21 fun e w22 => ∃ (r4 : Bool), e = .returned (.bool r4) ∧ (J2 r4 w22)))) ∧ (r3 = false → J2 false w19))))))))))))))))
set_option maxRecDepth 100000 in
theorem go_pomanderlaw13_PolicySinks (sinks1 : Int) (sinks2 : Int) (sinks3 : Int) (sinks4 : Int) (set1 : Int) (n1 : Int) (w : World) (R : Bool → World → Prop) (h : W_pomanderlaw13_PolicySinks sinks1 sinks2 sinks3 sinks4 set1 n1 w R) : Calls Tryz.prog 4 #[.agg #[.int .u32 sinks1, .int .u32 sinks2, .int .u32 sinks3, .int .u32 sinks4], .int .u32 set1, .int .i64 n1] w (fun e w' => ∃ (r1 : Bool), e = .returned (.bool r1) ∧ R r1 w') := by
 unfold W_pomanderlaw13_PolicySinks at h
 refine enter (N := 81) Tryz.func4 rfl rfl ?_
 refine CW.seq ?_
 refine CW.region fun L hL => ?_
 obtain ⟨b1, hb_b1⟩ : ∃ b1, b1 = World.size w := ⟨_, rfl⟩
 obtain ⟨w1, hw_w1⟩ : ∃ w1, w1 = World.alloc w (.cells #[.int .u32 sinks1, .int .u32 sinks2, .int .u32 sinks3, .int .u32 sinks4] 59) := ⟨_, rfl⟩
 replace h := h b1 hb_b1 w1 hw_w1
 refine LW.val hL rfl (Wants.free rfl) rfl (boxE hb_b1 hw_w1 (Vl.box (v := .agg #[.int .u32 sinks1, .int .u32 sinks2, .int .u32 sinks3, .int .u32 sinks4]) rfl)) ?_
 refine LW.rd hL rfl (Wants.free rfl) rfl (Rd.assign (v := .bool false) rfl) ?_
 refine LW.nil hL rfl ?_
 refine NW.then ?_
 refine CW.seq ?_
 refine CW.seq ?_
 refine CW.region fun L hL => ?_
 refine LW.rd hL rfl (Wants.free rfl) rfl (Rd.move (v := .int .i64 n1) rfl) ?_
 refine LW.rd hL rfl (Wants.free rfl) rfl (Rd.bin (v := .bool (decide (n1 < 0))) rfl rfl (fun w => by kernel_rfl)) ?_
 refine LW.rd hL rfl (Wants.free rfl) rfl (Rd.move (v := .bool (decide (n1 < 0))) rfl) ?_
 suffices K1 : L 6 [(1, .int .u32 set1), (2, .int .i64 n1), (3, .pointer (some (⟨b1, 0, none⟩ : Addr))), (6, .bool false), (18, .bool (decide (n1 < 0) || decide (n1 > 100)))] w1 by
  rcases Bool.eq_false_or_eq_true (decide (n1 < 0)) with hb2 | hb2
  ·skip
   refine LW.skip hL rfl (Skips.on rfl rfl rfl rfl rfl hb2) rfl ?_
   refine LW.skip hL rfl (Skips.on rfl rfl rfl rfl rfl hb2) rfl ?_
   refine LW.rd hL rfl (Wants.free rfl) rfl (Rd.pickT rfl hb2 rfl) ?_
   exact LW.sub hL (by exact ⟨rfl, rfl, rfl, rfl, (by rw [hb2]; rfl), trivial⟩) K1
  ·skip
   refine LW.rd hL rfl (Wants.on rfl rfl rfl rfl rfl hb2) rfl (Rd.move (v := .int .i64 n1) rfl) ?_
   refine LW.rd hL rfl (Wants.on rfl rfl rfl rfl rfl hb2) rfl (Rd.bin (v := .bool (decide (n1 > 100))) rfl rfl (fun w => by kernel_rfl)) ?_
   refine LW.rd hL rfl (Wants.free rfl) rfl (Rd.pickF rfl hb2 rfl) ?_
   exact LW.sub hL (by exact ⟨rfl, rfl, rfl, rfl, (by rw [hb2]; rfl), trivial⟩) K1
 refine LW.nil hL rfl ?_
 refine NW.then ?_
 refine CW.cond rfl (fun hb3 => ?_) (fun hb3 => ?_)
 ·replace h := h.1 hb3
  refine CW.seq ?_
  refine CW.region fun L hL => ?_
  refine LW.call hL rfl (Wants.free rfl) rfl (Cl.fn (f := 11) rfl Tryz.func11 (by kernel_rfl) rfl) h (fun e w2 h_ => ?_)
  clear h
  obtain ⟨r2, rfl, h⟩ := h_
  refine ⟨_, rfl, ?_⟩
  refine LW.rd hL rfl (Wants.free rfl) rfl (Rd.assign (v := .bool r2) rfl) ?_
  refine LW.nil hL rfl ?_
  refine NW.then ?_
  refine CW.ret ?_
  refine RW.then ?_
  exact res1 rfl rfl ⟨r2, rfl, h⟩
 ·replace h := h.2 hb3
  refine CW.skip ?_
  refine NW.then ?_
  refine CW.seq ?_
  refine CW.region fun L hL => ?_
  refine LW.rd hL rfl (Wants.free rfl) rfl (Rd.build (v := .agg #[.int .u32 0, .int .u32 0, .int .u32 0, .int .u32 0, .int .u32 0, .int .u32 0, .int .u32 0, .int .u32 0, .int .u32 0, .int .u32 0, .int .u32 0]) rfl (fun _ => by kernel_rfl)) ?_
  obtain ⟨b2, hb_b2⟩ : ∃ b2, b2 = World.size w1 := ⟨_, rfl⟩
  obtain ⟨w3, hw_w3⟩ : ∃ w3, w3 = World.alloc w1 (.cells #[.int .u32 0, .int .u32 0, .int .u32 0, .int .u32 0, .int .u32 0, .int .u32 0, .int .u32 0, .int .u32 0, .int .u32 0, .int .u32 0, .int .u32 0] 25) := ⟨_, rfl⟩
  replace h := h b2 hb_b2 w3 hw_w3
  refine LW.val hL rfl (Wants.free rfl) rfl (boxE hb_b2 hw_w3 (Vl.alloc (z := .agg #[.int .u32 0, .int .u32 0, .int .u32 0, .int .u32 0, .int .u32 0, .int .u32 0, .int .u32 0, .int .u32 0, .int .u32 0, .int .u32 0, .int .u32 0]) (by kernel_rfl))) ?_
  obtain ⟨ho1, hf1, h⟩ := h
  obtain ⟨w4, hw_w4⟩ : ∃ w4, w4 = setCells w3 (⟨b2, 0, none⟩ : Addr) 0 [.int .u32 0, .int .u32 0, .int .u32 0, .int .u32 0, .int .u32 0, .int .u32 0, .int .u32 0, .int .u32 0, .int .u32 0, .int .u32 0, .int .u32 0] := ⟨_, rfl⟩
  replace h := h w4 hw_w4
  refine LW.eff hL rfl (Wants.free rfl) rfl (stNE hw_w4 (Ef.stN (cs := [.int .u32 0, .int .u32 0, .int .u32 0, .int .u32 0, .int .u32 0, .int .u32 0, .int .u32 0, .int .u32 0, .int .u32 0, .int .u32 0, .int .u32 0]) rfl rfl (by kernel_rfl) (List.forall_mem_cons.2 ⟨rfl, (List.forall_mem_cons.2 ⟨rfl, (List.forall_mem_cons.2 ⟨rfl, (List.forall_mem_cons.2 ⟨rfl, (List.forall_mem_cons.2 ⟨rfl, (List.forall_mem_cons.2 ⟨rfl, (List.forall_mem_cons.2 ⟨rfl, (List.forall_mem_cons.2 ⟨rfl, (List.forall_mem_cons.2 ⟨rfl, (List.forall_mem_cons.2 ⟨rfl, (List.forall_mem_cons.2 ⟨rfl, (List.forall_mem_nil _)⟩)⟩)⟩)⟩)⟩)⟩)⟩)⟩)⟩)⟩)⟩) ho1 hf1)) ?_
  refine LW.nil hL rfl ?_
  refine NW.then ?_
  refine CW.seq ?_
  refine CW.seq ?_
  refine CW.region fun L hL => ?_
  refine LW.rd hL rfl (Wants.free rfl) rfl (Rd.assign (v := .int .i64 0) rfl) ?_
  refine LW.nil hL rfl ?_
  refine NW.then ?_
  refine CW.block ?_
  obtain ⟨I1, m1, hI1, h⟩ := h
  refine CW.loop (S := Int) (fun i1 => [(1, .int .u32 set1), (2, .int .i64 n1), (3, .pointer (some (⟨b1, 0, none⟩ : Addr))), (6, .bool false), (7, .pointer (some (⟨b2, 0, none⟩ : Addr))), (8, .int .i64 i1)]) (fun i1 w5 => I1 i1 w5) (fun i1 w5 => m1 i1 w5) 0 (by exact ⟨rfl, rfl, rfl, rfl, rfl, rfl, trivial⟩) hI1 (fun i1 w5 hI1 => ?_)
  replace h := h i1 w5 hI1
  refine CW.seq ?_
  refine CW.seq ?_
  refine CW.region fun L hL => ?_
  refine LW.rd hL rfl (Wants.free rfl) rfl (Rd.move (v := .int .i64 i1) rfl) ?_
  refine LW.rd hL rfl (Wants.free rfl) rfl (Rd.bin (v := .bool (decide (i1 < 4))) rfl rfl (fun w => by kernel_rfl)) ?_
  refine LW.nil hL rfl ?_
  refine NW.then ?_
  refine CW.cond rfl (fun hb4 => ?_) (fun hb4 => ?_)
  ·replace h := h.1 hb4
   refine CW.skip ?_
   refine NW.then ?_
   refine CW.seq ?_
   refine CW.block ?_
   refine CW.region fun L hL => ?_
   refine LW.rd hL rfl (Wants.free rfl) rfl (Rd.move (v := .int .i64 i1) rfl) ?_
   refine LW.rd hL rfl (Wants.free rfl) rfl (Rd.bin (v := .int .i64 (IntKind.wrap .i64 (1 + i1))) rfl rfl (fun w => by kernel_rfl)) ?_
   refine LW.rd hL rfl (Wants.free rfl) rfl (Rd.move (v := .int .i64 i1) rfl) ?_
   obtain ⟨hi1, hi2, h⟩ := h
   refine LW.rd hL rfl (Wants.free rfl) rfl (Rd.iaA (sz := 1) rfl rfl Tryz.underlying59 (by kernel_rfl) hi1 hi2) ?_
   obtain ⟨t1, hc1, h⟩ := h
   refine LW.rd hL rfl (Wants.free rfl) rfl (Rd.ld (v := .int .u32 t1) rfl (by kernel_rfl) (eqs hc1)) ?_
   refine LW.rd hL rfl (Wants.free rfl) rfl (Rd.bin (v := .int .u32 (Int.tmod t1 65536)) rfl rfl (fun w => by kernel_rfl)) ?_
   refine LW.rd hL rfl (Wants.free rfl) rfl (Rd.fa (v := .pointer (some (⟨b2, 5, none⟩ : Addr))) rfl (fun _ => by kernel_rfl)) ?_
   obtain ⟨hi3, hi4, h⟩ := h
   refine LW.rd hL rfl (Wants.free rfl) rfl (Rd.iaA (sz := 1) rfl rfl Tryz.underlying23 (by kernel_rfl) hi3 hi4) ?_
   obtain ⟨⟨o_w6, ho2⟩, hf2, h⟩ := h
   obtain ⟨w6, hw_w6⟩ : ∃ w6, w6 = World.setCell w5 ((⟨b2, 5, none⟩ : Addr).add (Int.toNat (IntKind.wrap .i64 (1 + i1)) * 1)) (.int .u32 (Int.tmod t1 65536)) := ⟨_, rfl⟩
   replace h := h w6 hw_w6
   refine LW.eff hL rfl (Wants.free rfl) rfl (stE hw_w6 (Ef.st rfl rfl rfl (by kernel_rfl) ho2 hf2)) ?_
   refine LW.nil hL rfl ?_
   refine NW.block ?_
   refine NW.then ?_
   refine CW.region fun L hL => ?_
   refine LW.rd hL rfl (Wants.free rfl) rfl (Rd.move (v := .int .i64 i1) rfl) ?_
   refine LW.rd hL rfl (Wants.free rfl) rfl (Rd.bin (v := .int .i64 (IntKind.wrap .i64 (i1 + 1))) rfl rfl (fun w => by kernel_rfl)) ?_
   refine LW.rd hL rfl (Wants.free rfl) rfl (Rd.assign (v := .int .i64 (IntKind.wrap .i64 (i1 + 1))) rfl) ?_
   refine LW.nil hL rfl ?_
   exact NW.loop (S := Int) (Ek := fun i1 => [(1, .int .u32 set1), (2, .int .i64 n1), (3, .pointer (some (⟨b1, 0, none⟩ : Addr))), (6, .bool false), (7, .pointer (some (⟨b2, 0, none⟩ : Addr))), (8, .int .i64 i1)]) (IntKind.wrap .i64 (i1 + 1)) (by exact ⟨rfl, rfl, rfl, rfl, rfl, rfl, trivial⟩) h
  ·replace h := h.2 hb4
   refine CW.exit ?_
   refine XW.then ?_
   refine XW.then ?_
   refine XW.hit ?_
   refine NW.then ?_
   refine CW.seq ?_
   refine CW.region fun L hL => ?_
   refine LW.rd hL rfl (Wants.free rfl) rfl (Rd.build (v := .agg #[.int .i64 1, .int .i64 1]) rfl (fun _ => by kernel_rfl)) ?_
   obtain ⟨b3, hb_b3⟩ : ∃ b3, b3 = World.size w5 := ⟨_, rfl⟩
   obtain ⟨w7, hw_w7⟩ : ∃ w7, w7 = World.alloc w5 (.cells #[.int .i64 0, .int .i64 0] 62) := ⟨_, rfl⟩
   refine LW.val hL rfl (Wants.free rfl) rfl (boxE hb_b3 hw_w7 (Vl.alloc (z := .agg #[.int .i64 0, .int .i64 0]) (by kernel_rfl))) ?_
   have hB := Boxes.alloc (cs := [.int .i64 0, .int .i64 0]) (T := 62) (Boxes.nil w5) hb_b3 hw_w7
   have hlo_b3 := sil_lo (Chg.refl [] w5) hb_b3
   have hc_w7 := sil_alloc (Chg.refl [] w5) hw_w7
   obtain ⟨w8, hw_w8⟩ : ∃ x, x = setCells w7 (⟨b3, 0, none⟩ : Addr) 0 [.int .i64 1, .int .i64 1] := ⟨_, rfl⟩
   refine LW.eff hL rfl (Wants.free rfl) rfl (stNE hw_w8 (Ef.stN (cs := [.int .i64 1, .int .i64 1]) rfl rfl (by kernel_rfl) (List.forall_mem_cons.2 ⟨rfl, (List.forall_mem_cons.2 ⟨rfl, (List.forall_mem_nil _)⟩)⟩) (has_of (hB.at (i := 0) rfl) (by simp)) (free_of' (hB.at (i := 0) rfl)))) ?_
   replace hB : Boxes w8 [(b3, [.int .i64 1, .int .i64 1], 62)] := Boxes.store (vs := [.int .i64 1, .int .i64 1]) (i := 0) (o := 0) hB rfl rfl rfl rfl hw_w8
   have hc_w8 := sil_new hc_w7 (sil_cN hw_w8) hlo_b3
   refine LW.nil hL rfl ?_
   refine NW.then ?_
   refine CW.seq ?_
   refine CW.region fun L hL => ?_
   refine LW.rd hL rfl (Wants.free rfl) rfl (Rd.assign (v := .slice none 0 0) rfl) ?_
   refine LW.nil hL rfl ?_
   refine NW.then ?_
   refine CW.seq ?_
   refine CW.seq ?_
   refine CW.region fun L hL => ?_
   refine LW.rd hL rfl (Wants.free rfl) rfl (Rd.assign (v := .int .i64 0) rfl) ?_
   refine LW.nil hL rfl ?_
   refine NW.then ?_
   refine CW.block ?_
   replace h := h b3 w8 ⟨hlo_b3, lt_of_heap (hB.at (i := 0) rfl)⟩ hc_w8
   obtain ⟨I2, m2, hI2, h⟩ := h
   refine CW.loop (S := (Option Addr) × Nat × Nat × Int) (fun s1 => [(1, .int .u32 set1), (2, .int .i64 n1), (6, .bool false), (7, .pointer (some (⟨b2, 0, none⟩ : Addr))), (9, .pointer (some (⟨b3, 0, none⟩ : Addr))), (10, .slice s1.1 s1.2.1 s1.2.2.1), (11, .int .i64 s1.2.2.2)]) (fun s1 w9 => I2 s1.1 s1.2.1 s1.2.2.1 s1.2.2.2 w9 ∧ Boxes w9 [(b3, [.int .i64 1, .int .i64 1], 62)]) (fun s1 w9 => m2 s1.1 s1.2.1 s1.2.2.1 s1.2.2.2 w9) (none, 0, 0, 0) (by exact ⟨rfl, rfl, rfl, rfl, rfl, rfl, rfl, trivial⟩) ⟨hI2, hB⟩ (fun s1 w9 hI2 => ?_)
   obtain ⟨hI2, hB⟩ := hI2
   obtain ⟨l1, l1n, l1c, k1⟩ := s1; replace h := h l1 l1n l1c k1 w9 hI2
   refine CW.seq ?_
   refine CW.seq ?_
   refine CW.region fun L hL => ?_
   refine LW.rd hL rfl (Wants.free rfl) rfl (Rd.move (v := .int .i64 k1) rfl) ?_
   refine LW.rd hL rfl (Wants.free rfl) rfl (Rd.bin (v := .bool (decide (k1 < 18))) rfl rfl (fun w => by kernel_rfl)) ?_
   refine LW.nil hL rfl ?_
   refine NW.then ?_
   refine CW.cond rfl (fun hb5 => ?_) (fun hb5 => ?_)
   ·replace h := h.1 hb5
    refine CW.skip ?_
    refine NW.then ?_
    refine CW.seq ?_
    refine CW.block ?_
    refine CW.seq ?_
    refine CW.region fun L hL => ?_
    refine LW.rd hL rfl (Wants.free rfl) rfl (Rd.move (v := .int .i64 k1) rfl) ?_
    refine LW.rd hL rfl (Wants.free rfl) rfl (Rd.build (v := .agg #[.int .i64 k1, .int .i64 0]) rfl (fun _ => by kernel_rfl)) ?_
    obtain ⟨b4, hb_b4⟩ : ∃ b4, b4 = World.size w9 := ⟨_, rfl⟩
    obtain ⟨w10, hw_w10⟩ : ∃ w10, w10 = World.alloc w9 (.cells #[.int .i64 0, .int .i64 0] 62) := ⟨_, rfl⟩
    refine LW.val hL rfl (Wants.free rfl) rfl (boxE hb_b4 hw_w10 (Vl.alloc (z := .agg #[.int .i64 0, .int .i64 0]) (by kernel_rfl))) ?_
    replace hB := Boxes.alloc (cs := [.int .i64 0, .int .i64 0]) (T := 62) hB hb_b4 hw_w10
    have hlo_b4 := sil_lo (Chg.refl [] w9) hb_b4
    have hc_w10 := sil_alloc (Chg.refl [] w9) hw_w10
    obtain ⟨w11, hw_w11⟩ : ∃ x, x = setCells w10 (⟨b4, 0, none⟩ : Addr) 0 [.int .i64 k1, .int .i64 0] := ⟨_, rfl⟩
    refine LW.eff hL rfl (Wants.free rfl) rfl (stNE hw_w11 (Ef.stN (cs := [.int .i64 k1, .int .i64 0]) rfl rfl (by kernel_rfl) (List.forall_mem_cons.2 ⟨rfl, (List.forall_mem_cons.2 ⟨rfl, (List.forall_mem_nil _)⟩)⟩) (has_of (hB.at (i := 0) rfl) (by simp)) (free_of' (hB.at (i := 0) rfl)))) ?_
    replace hB : Boxes w11 [(b4, [.int .i64 k1, .int .i64 0], 62), (b3, [.int .i64 1, .int .i64 1], 62)] := Boxes.store (vs := [.int .i64 k1, .int .i64 0]) (i := 0) (o := 0) hB rfl rfl rfl rfl hw_w11
    have hc_w11 := sil_new hc_w10 (sil_cN hw_w11) hlo_b4
    refine LW.nil hL rfl ?_
    refine NW.then ?_
    replace h := h b4 w11 ⟨hlo_b4, lt_of_heap (hB.at (i := 0) rfl)⟩ hc_w11
    obtain ⟨J1, hJ1, h⟩ := h
    refine CW.cut (S := Int) (fun c1 => [(1, .int .u32 set1), (2, .int .i64 n1), (6, .bool false), (7, .pointer (some (⟨b2, 0, none⟩ : Addr))), (9, .pointer (some (⟨b3, 0, none⟩ : Addr))), (10, .slice l1 l1n l1c), (11, .int .i64 k1), (12, .pointer (some (⟨b4, 0, none⟩ : Addr)))]) (fun c1 w12 => J1 c1 w12 ∧ Boxes w12 [(b3, [.int .i64 1, .int .i64 1], 62), (b4, [.int .i64 k1, .int .i64 c1], 62)]) (fun c1 w12 h_ => ?_) ?_
    ·obtain ⟨h_, hB⟩ := h_; replace h := hJ1 c1 w12 h_; clear h_
     refine CW.region fun L hL => ?_
     refine LW.rd hL rfl (Wants.free rfl) rfl (Rd.move (v := .slice l1 l1n l1c) rfl) ?_
     refine LW.rd hL rfl (Wants.free rfl) rfl (Rd.ldN (cs := [.int .i64 k1, .int .i64 c1]) rfl (by kernel_rfl) (by kernel_rfl) (cellsS (box_cells (hB.at (i := 1) rfl) rfl))) ?_
     refine LW.rd hL rfl (Wants.free rfl) rfl (Rd.ldN (cs := [.int .i64 1, .int .i64 1]) rfl (by kernel_rfl) (by kernel_rfl) (cellsS (box_cells (hB.at (i := 0) rfl) rfl))) ?_
     obtain ⟨b5, hb_b5⟩ : ∃ b5, b5 = World.size w12 := ⟨_, rfl⟩
     obtain ⟨w13, hw_w13⟩ : ∃ w13, w13 = World.alloc w12 (.cells #[.int .i64 1, .int .i64 1] 62) := ⟨_, rfl⟩
     replace h := h b5 hb_b5 w13 hw_w13
     refine LW.val hL rfl (Wants.free rfl) rfl (sliceE (n := 1) hb_b5 hw_w13 (fun w => Vl.buildSlice (vs := [(0, .agg #[.int .i64 1, .int .i64 1])]) rfl (by kernel_rfl))) ?_
     replace hB := hB.grow hw_w13
     refine LW.rd hL rfl (Wants.free rfl) rfl (Rd.build (v := .agg #[.int .i64 k1, .int .i64 c1, .slice (some (⟨b5, 0, none⟩ : Addr)) 1 1]) rfl (fun _ => by kernel_rfl)) ?_
     refine LW.rd hL rfl (Wants.free rfl) rfl (Rd.ldN (cs := [.int .i64 k1, .int .i64 c1]) rfl (by kernel_rfl) (by kernel_rfl) (cellsS (box_cells (hB.at (i := 1) rfl) rfl))) ?_
     refine LW.rd hL rfl (Wants.free rfl) rfl (Rd.build (v := .agg #[.int .i64 k1, .int .i64 c1, .slice none 0 0]) rfl (fun _ => by kernel_rfl)) ?_
     obtain ⟨b6, hb_b6⟩ : ∃ b6, b6 = World.size w13 := ⟨_, rfl⟩
     obtain ⟨w14, hw_w14⟩ : ∃ w14, w14 = World.alloc w13 (.cells #[.int .i64 k1, .int .i64 c1, .slice (some (⟨b5, 0, none⟩ : Addr)) 1 1, .int .i64 k1, .int .i64 c1, .slice none 0 0] 65) := ⟨_, rfl⟩
     replace h := h b6 hb_b6 w14 hw_w14
     refine LW.val hL rfl (Wants.free rfl) rfl (sliceE (n := 2) hb_b6 hw_w14 (fun w => Vl.buildSlice (vs := [(0, .agg #[.int .i64 k1, .int .i64 c1, .slice (some (⟨b5, 0, none⟩ : Addr)) 1 1]), (1, .agg #[.int .i64 k1, .int .i64 c1, .slice none 0 0])]) rfl (by kernel_rfl))) ?_
     replace hB := hB.grow hw_w14
     obtain ⟨l2, l2n, l2c, w15, ha1, h⟩ := h
     refine LW.val hL rfl (Wants.free rfl) rfl (Vl.builtin (v := .slice l2 l2n l2c) rfl (valB ha1)) ?_
     obtain ⟨hsm1, h⟩ := h
     replace hB := Boxes.sameS (hB.sel [0] (by decide) rfl) hsm1 (by simp)
     refine LW.rd hL rfl (Wants.free rfl) rfl (Rd.assign (v := .slice l2 l2n l2c) rfl) ?_
     refine LW.nil hL rfl ?_
     refine NW.block ?_
     refine NW.then ?_
     refine CW.region fun L hL => ?_
     refine LW.rd hL rfl (Wants.free rfl) rfl (Rd.move (v := .int .i64 k1) rfl) ?_
     refine LW.rd hL rfl (Wants.free rfl) rfl (Rd.bin (v := .int .i64 (IntKind.wrap .i64 (k1 + 1))) rfl rfl (fun w => by kernel_rfl)) ?_
     refine LW.rd hL rfl (Wants.free rfl) rfl (Rd.assign (v := .int .i64 (IntKind.wrap .i64 (k1 + 1))) rfl) ?_
     refine LW.nil hL rfl ?_
     exact NW.loop (S := (Option Addr) × Nat × Nat × Int) (Ek := fun s1 => [(1, .int .u32 set1), (2, .int .i64 n1), (6, .bool false), (7, .pointer (some (⟨b2, 0, none⟩ : Addr))), (9, .pointer (some (⟨b3, 0, none⟩ : Addr))), (10, .slice s1.1 s1.2.1 s1.2.2.1), (11, .int .i64 s1.2.2.2)]) (l2, l2n, l2c, IntKind.wrap .i64 (k1 + 1)) (by exact ⟨rfl, rfl, rfl, rfl, rfl, rfl, rfl, trivial⟩) ⟨⟨h.1, hB⟩, h.2⟩
    ·skip
     refine CW.seq ?_
     refine CW.region fun L hL => ?_
     refine LW.rd hL rfl (Wants.free rfl) rfl (Rd.move (v := .int .i64 k1) rfl) ?_
     refine LW.rd hL rfl (Wants.free rfl) rfl (Rd.bin (v := .bool (k1 == 12)) rfl rfl (fun w => by kernel_rfl)) ?_
     refine LW.rd hL rfl (Wants.free rfl) rfl (Rd.move (v := .bool (k1 == 12)) rfl) ?_
     suffices K2 : L 6 [(1, .int .u32 set1), (2, .int .i64 n1), (6, .bool false), (7, .pointer (some (⟨b2, 0, none⟩ : Addr))), (9, .pointer (some (⟨b3, 0, none⟩ : Addr))), (10, .slice l1 l1n l1c), (11, .int .i64 k1), (12, .pointer (some (⟨b4, 0, none⟩ : Addr))), (45, .bool (k1 == 12 || k1 == 14))] w11 by
      rcases Bool.eq_false_or_eq_true (k1 == 12) with hb7 | hb7
      ·skip
       refine LW.skip hL rfl (Skips.on rfl rfl rfl rfl rfl hb7) rfl ?_
       refine LW.skip hL rfl (Skips.on rfl rfl rfl rfl rfl hb7) rfl ?_
       refine LW.rd hL rfl (Wants.free rfl) rfl (Rd.pickT rfl hb7 rfl) ?_
       exact LW.sub hL (by exact ⟨rfl, rfl, rfl, rfl, rfl, rfl, rfl, rfl, (by rw [hb7]; rfl), trivial⟩) K2
      ·skip
       refine LW.rd hL rfl (Wants.on rfl rfl rfl rfl rfl hb7) rfl (Rd.move (v := .int .i64 k1) rfl) ?_
       refine LW.rd hL rfl (Wants.on rfl rfl rfl rfl rfl hb7) rfl (Rd.bin (v := .bool (k1 == 14)) rfl rfl (fun w => by kernel_rfl)) ?_
       refine LW.rd hL rfl (Wants.free rfl) rfl (Rd.pickF rfl hb7 rfl) ?_
       exact LW.sub hL (by exact ⟨rfl, rfl, rfl, rfl, rfl, rfl, rfl, rfl, (by rw [hb7]; rfl), trivial⟩) K2
     refine LW.rd hL rfl (Wants.free rfl) rfl (Rd.move (v := .bool (k1 == 12 || k1 == 14)) rfl) ?_
     suffices K3 : L 10 [(1, .int .u32 set1), (2, .int .i64 n1), (6, .bool false), (7, .pointer (some (⟨b2, 0, none⟩ : Addr))), (9, .pointer (some (⟨b3, 0, none⟩ : Addr))), (10, .slice l1 l1n l1c), (11, .int .i64 k1), (12, .pointer (some (⟨b4, 0, none⟩ : Addr))), (49, .bool ((k1 == 12 || k1 == 14) || k1 == 16))] w11 by
      rcases Bool.eq_false_or_eq_true (k1 == 12 || k1 == 14) with hb9 | hb9
      ·skip
       refine LW.skip hL rfl (Skips.on rfl rfl rfl rfl rfl hb9) rfl ?_
       refine LW.skip hL rfl (Skips.on rfl rfl rfl rfl rfl hb9) rfl ?_
       refine LW.rd hL rfl (Wants.free rfl) rfl (Rd.pickT rfl hb9 rfl) ?_
       exact LW.sub hL (by exact ⟨rfl, rfl, rfl, rfl, rfl, rfl, rfl, rfl, (by rw [hb9]; rfl), trivial⟩) K3
      ·skip
       refine LW.rd hL rfl (Wants.on rfl rfl rfl rfl rfl hb9) rfl (Rd.move (v := .int .i64 k1) rfl) ?_
       refine LW.rd hL rfl (Wants.on rfl rfl rfl rfl rfl hb9) rfl (Rd.bin (v := .bool (k1 == 16)) rfl rfl (fun w => by kernel_rfl)) ?_
       refine LW.rd hL rfl (Wants.free rfl) rfl (Rd.pickF rfl hb9 rfl) ?_
       exact LW.sub hL (by exact ⟨rfl, rfl, rfl, rfl, rfl, rfl, rfl, rfl, (by rw [hb9]; rfl), trivial⟩) K3
     refine LW.nil hL rfl ?_
     refine NW.then ?_
     refine CW.cond rfl (fun hb10 => ?_) (fun hb10 => ?_)
     ·replace h := h.1 hb10
      refine CW.region fun L hL => ?_
      refine LW.rd hL rfl (Wants.free rfl) rfl (Rd.move (v := .int .i64 n1) rfl) ?_
      refine LW.rd hL rfl (Wants.free rfl) rfl (Rd.fa (v := .pointer (some (⟨b4, 1, none⟩ : Addr))) rfl (fun _ => by kernel_rfl)) ?_
      obtain ⟨w16, hw_w16⟩ : ∃ x, x = World.setCell w11 (⟨b4, 1, none⟩ : Addr) (.int .i64 n1) := ⟨_, rfl⟩
      refine LW.eff hL rfl (Wants.free rfl) rfl (stE hw_w16 (Ef.st rfl rfl rfl (by kernel_rfl) (box_cell (v := .int .i64 0) (hB.at (i := 0) rfl) rfl) (free_of (hB.at (i := 0) rfl) 1))) ?_
      replace hB : Boxes w16 [(b4, [.int .i64 k1, .int .i64 n1], 62), (b3, [.int .i64 1, .int .i64 1], 62)] := Boxes.store1  (i := 0) (o := 1) hB rfl rfl rfl rfl hw_w16
      have hc_w16 : Chg [b4] w11 w16 := sil_more (Chg.refl [] w11) (sil_c1 hw_w16)
      refine LW.nil hL rfl ?_
      replace h := h  w16  hc_w16
      exact NW.cut (S := Int) (Ek := fun c1 => [(1, .int .u32 set1), (2, .int .i64 n1), (6, .bool false), (7, .pointer (some (⟨b2, 0, none⟩ : Addr))), (9, .pointer (some (⟨b3, 0, none⟩ : Addr))), (10, .slice l1 l1n l1c), (11, .int .i64 k1), (12, .pointer (some (⟨b4, 0, none⟩ : Addr)))]) n1 (by exact ⟨rfl, rfl, rfl, rfl, rfl, rfl, rfl, rfl, trivial⟩) ⟨h, (hB.sel [1, 0] (by decide) rfl)⟩
     ·replace h := h.2 hb10
      refine CW.skip ?_
      exact NW.cut (S := Int) (Ek := fun c1 => [(1, .int .u32 set1), (2, .int .i64 n1), (6, .bool false), (7, .pointer (some (⟨b2, 0, none⟩ : Addr))), (9, .pointer (some (⟨b3, 0, none⟩ : Addr))), (10, .slice l1 l1n l1c), (11, .int .i64 k1), (12, .pointer (some (⟨b4, 0, none⟩ : Addr)))]) 0 (by exact ⟨rfl, rfl, rfl, rfl, rfl, rfl, rfl, rfl, trivial⟩) ⟨h, (hB.sel [1, 0] (by decide) rfl)⟩
   ·replace h := h.2 hb5
    refine CW.exit ?_
    refine XW.then ?_
    refine XW.then ?_
    refine XW.hit ?_
    refine NW.then ?_
    refine CW.seq ?_
    obtain ⟨w17, hw_w17⟩ : ∃ x, x = World.drew w9 := ⟨_, rfl⟩
    have hc_w17 := sil_drew (Chg.refl [] w9) hw_w17
    replace hB := hB.drew hw_w17
    replace h := h  w17  hc_w17
    obtain ⟨t2, t3, t4, t5, t6, t7, t8, t9, t10, t11, t12, hc2, h⟩ := h
    obtain ⟨l3, l3n, l3c, hx1, h⟩ := h
    refine CW.drawn (fun w => CellsAt w (⟨b2, 0, none⟩ : Addr) 0 [.int .u32 t2, .int .u32 t3, .int .u32 t4, .int .u32 t5, .int .u32 t6, .int .u32 t7, .int .u32 t8, .int .u32 t9, .int .u32 t10, .int .u32 t11, .int .u32 t12] ∧ Boxes w [(b3, [.int .i64 1, .int .i64 1], 62)]) 18 (by kernel_rfl) fun H hH => ?_
    rw [← hw_w17]
    have hS1 : CellsAt w17 (⟨b2, 0, none⟩ : Addr) 0 [.int .u32 t2, .int .u32 t3, .int .u32 t4, .int .u32 t5, .int .u32 t6, .int .u32 t7, .int .u32 t8, .int .u32 t9, .int .u32 t10, .int .u32 t11, .int .u32 t12] ∧ Boxes w17 [(b3, [.int .i64 1, .int .i64 1], 62)] := ⟨hc2, hB⟩
    refine HW.take (i := 0) hH rfl (by kernel_rfl) (by kernel_rfl) (Wants.free rfl) rfl (fun _ => hS1) (Rd.ldN (cs := [.int .u32 t2, .int .u32 t3, .int .u32 t4, .int .u32 t5, .int .u32 t6, .int .u32 t7, .int .u32 t8, .int .u32 t9, .int .u32 t10, .int .u32 t11, .int .u32 t12]) rfl (by kernel_rfl) (by kernel_rfl) (fun w h => cellsAt_get h.1)) ?_
    refine HW.take (i := 1) hH rfl (by kernel_rfl) (by kernel_rfl) (Wants.free rfl) rfl (fun _ => hS1) (Rd.ldN (cs := [.int .i64 1, .int .i64 1]) rfl (by kernel_rfl) (by kernel_rfl) (fun w h => cellsAt_get (box_cells (Boxes.at (i := 0) h.2 rfl) rfl))) ?_
    refine HW.pure (i := 2) hH rfl (by kernel_rfl) (Wants.free rfl) rfl (fun _ => hS1) (Rd.move (v := .int .u32 set1) rfl) ?_
    refine HW.pure (i := 3) hH rfl (by kernel_rfl) (Wants.free rfl) rfl (fun _ => hS1) (Rd.bin (v := .int .u32 (Int.tmod set1 65536)) rfl rfl (fun w => by kernel_rfl)) ?_
    refine HW.pure (i := 4) hH rfl (by kernel_rfl) (Wants.free rfl) rfl (fun _ => hS1) (Rd.build (v := .agg #[.int .i64 1, .int .i64 1, .int .u32 (Int.tmod set1 65536)]) rfl (fun _ => by kernel_rfl)) ?_
    refine HW.pure (i := 6) hH rfl (by kernel_rfl) (Wants.free rfl) rfl (fun _ => hS1) (Rd.move (v := .slice l1 l1n l1c) rfl) ?_
    refine HW.pure (i := 7) hH rfl (by kernel_rfl) (Wants.free rfl) rfl (fun _ => hS1) (Rd.slice (v := .slice l3 l3n l3c) rfl rfl rfl rfl hx1) ?_
    obtain ⟨b7, hb_b7⟩ : ∃ b7, b7 = World.size w17 := ⟨_, rfl⟩
    obtain ⟨w18, hw_w18⟩ : ∃ w18, w18 = World.alloc w17 (.cells #[.int .i64 1, .int .i64 1, .int .u32 (Int.tmod set1 65536)] 67) := ⟨_, rfl⟩
    replace h := h b7 hb_b7 w18 hw_w18
    have hS2 := (⟨cellsAlloc hw_w18 hS1.1, ((hS1.2).grow hw_w18)⟩ : CellsAt w18 (⟨b2, 0, none⟩ : Addr) 0 [.int .u32 t2, .int .u32 t3, .int .u32 t4, .int .u32 t5, .int .u32 t6, .int .u32 t7, .int .u32 t8, .int .u32 t9, .int .u32 t10, .int .u32 t11, .int .u32 t12] ∧ Boxes w18 [(b3, [.int .i64 1, .int .i64 1], 62)])
    refine HW.val (i := 5) hH (by kernel_rfl) rfl (Wants.free rfl) rfl (sliceE (n := 1) hb_b7 hw_w18 (fun w => Vl.buildSlice (vs := [(0, .agg #[.int .i64 1, .int .i64 1, .int .u32 (Int.tmod set1 65536)])]) rfl (by kernel_rfl))) (fun _ => hS2) ?_
    replace hB := hB.grow hw_w18
    refine HW.call (i := 8) hH (by kernel_rfl) rfl (Wants.free rfl) rfl (Cl.fn (f := 3) rfl Tryz.func3 (by kernel_rfl) rfl) h (fun e w19 h_ => ?_)
    clear h
    obtain ⟨r3, rfl, hS3, h⟩ := h_
    obtain ⟨hsm2, h⟩ := h
    replace hB := Boxes.sameS hB hsm2 (by simp)
    have hS4 := (⟨hS3, hB⟩ : CellsAt w19 (⟨b2, 0, none⟩ : Addr) 0 [.int .u32 t2, .int .u32 t3, .int .u32 t4, .int .u32 t5, .int .u32 t6, .int .u32 t7, .int .u32 t8, .int .u32 t9, .int .u32 t10, .int .u32 t11, .int .u32 t12] ∧ Boxes w19 [(b3, [.int .i64 1, .int .i64 1], 62)])
    refine ⟨_, rfl, (fun _ => hS4), ?_⟩
    refine HW.pure (i := 9) hH rfl (by kernel_rfl) (Wants.free rfl) rfl (fun _ => hS4) (Rd.move (v := .bool r3) rfl) ?_
    obtain ⟨J2, hJ2, h1_J2, h0_J2⟩ := h
    suffices K4 : ∀ (b8 : Bool) (w20 : World), J2 b8 w20 → H 1 #[true, true, true, true, true, true, true, true, true, true, true, true, true, true, true, true, true, true, true, true, false] [(6, .bool false), (80, .bool b8)] w20 by
     rcases Bool.eq_false_or_eq_true r3 with hb11 | hb11
     ·have h := h1_J2 hb11
      refine HW.take (i := 10) hH rfl (by kernel_rfl) (by kernel_rfl) (Wants.on rfl rfl rfl rfl rfl hb11) rfl (fun _ => hS4) (Rd.ldN (cs := [.int .u32 t2, .int .u32 t3, .int .u32 t4, .int .u32 t5, .int .u32 t6, .int .u32 t7, .int .u32 t8, .int .u32 t9, .int .u32 t10, .int .u32 t11, .int .u32 t12]) rfl (by kernel_rfl) (by kernel_rfl) (fun w h => cellsAt_get h.1)) ?_
      refine HW.take (i := 11) hH rfl (by kernel_rfl) (by kernel_rfl) (Wants.on rfl rfl rfl rfl rfl hb11) rfl (fun _ => hS4) (Rd.ldN (cs := [.int .i64 1, .int .i64 1]) rfl (by kernel_rfl) (by kernel_rfl) (fun w h => cellsAt_get (box_cells (Boxes.at (i := 0) h.2 rfl) rfl))) ?_
      refine HW.pure (i := 12) hH rfl (by kernel_rfl) (Wants.on rfl rfl rfl rfl rfl hb11) rfl (fun _ => hS4) (Rd.move (v := .int .u32 set1) rfl) ?_
      refine HW.pure (i := 13) hH rfl (by kernel_rfl) (Wants.on rfl rfl rfl rfl rfl hb11) rfl (fun _ => hS4) (Rd.bin (v := .int .u32 (Int.tmod set1 65536)) rfl rfl (fun w => by kernel_rfl)) ?_
      refine HW.pure (i := 14) hH rfl (by kernel_rfl) (Wants.on rfl rfl rfl rfl rfl hb11) rfl (fun _ => hS4) (Rd.build (v := .agg #[.int .i64 1, .int .i64 1, .int .u32 (Int.tmod set1 65536)]) rfl (fun _ => by kernel_rfl)) ?_
      refine HW.pure (i := 16) hH rfl (by kernel_rfl) (Wants.on rfl rfl rfl rfl rfl hb11) rfl (fun _ => hS4) (Rd.move (v := .slice l1 l1n l1c) rfl) ?_
      obtain ⟨l4, l4n, l4c, hx2, h⟩ := h
      refine HW.pure (i := 17) hH rfl (by kernel_rfl) (Wants.on rfl rfl rfl rfl rfl hb11) rfl (fun _ => hS4) (Rd.slice (v := .slice l4 l4n l4c) rfl rfl rfl rfl hx2) ?_
      obtain ⟨b9, hb_b9⟩ : ∃ b9, b9 = World.size w19 := ⟨_, rfl⟩
      obtain ⟨w21, hw_w21⟩ : ∃ w21, w21 = World.alloc w19 (.cells #[.int .i64 1, .int .i64 1, .int .u32 (Int.tmod set1 65536)] 67) := ⟨_, rfl⟩
      replace h := h b9 hb_b9 w21 hw_w21
      have hS5 := (⟨cellsAlloc hw_w21 hS4.1, ((hS4.2).grow hw_w21)⟩ : CellsAt w21 (⟨b2, 0, none⟩ : Addr) 0 [.int .u32 t2, .int .u32 t3, .int .u32 t4, .int .u32 t5, .int .u32 t6, .int .u32 t7, .int .u32 t8, .int .u32 t9, .int .u32 t10, .int .u32 t11, .int .u32 t12] ∧ Boxes w21 [(b3, [.int .i64 1, .int .i64 1], 62)])
      refine HW.val (i := 15) hH (by kernel_rfl) rfl (Wants.on rfl rfl rfl rfl rfl hb11) rfl (sliceE (n := 1) hb_b9 hw_w21 (fun w => Vl.buildSlice (vs := [(0, .agg #[.int .i64 1, .int .i64 1, .int .u32 (Int.tmod set1 65536)])]) rfl (by kernel_rfl))) (fun _ => hS5) ?_
      replace hB := hB.grow hw_w21
      refine HW.call (i := 18) hH (by kernel_rfl) rfl (Wants.on rfl rfl rfl rfl rfl hb11) rfl (Cl.fn (f := 3) rfl Tryz.func3 (by kernel_rfl) rfl) h (fun e w22 h_ => ?_)
      clear h
      obtain ⟨r4, rfl, h⟩ := h_
      refine ⟨_, rfl, (fun hc => by cases hc), ?_⟩
      refine HW.pure (i := 19) hH rfl (by kernel_rfl) (Wants.free rfl) rfl (fun hc => by cases hc) (Rd.pickT rfl hb11 rfl) ?_
      exact HW.sub hH (by exact ⟨rfl, rfl, trivial⟩) (K4 r4 w22 h)
     ·have h := h0_J2 hb11
      refine HW.skip (i := 10) hH rfl (by kernel_rfl) (Skips.on rfl rfl rfl rfl rfl hb11) rfl (fun _ => hS4) ?_
      refine HW.skip (i := 11) hH rfl (by kernel_rfl) (Skips.on rfl rfl rfl rfl rfl hb11) rfl (fun _ => hS4) ?_
      refine HW.skip (i := 12) hH rfl (by kernel_rfl) (Skips.on rfl rfl rfl rfl rfl hb11) rfl (fun _ => hS4) ?_
      refine HW.skip (i := 13) hH rfl (by kernel_rfl) (Skips.on rfl rfl rfl rfl rfl hb11) rfl (fun _ => hS4) ?_
      refine HW.skip (i := 14) hH rfl (by kernel_rfl) (Skips.on rfl rfl rfl rfl rfl hb11) rfl (fun _ => hS4) ?_
      refine HW.skip (i := 15) hH rfl (by kernel_rfl) (Skips.on rfl rfl rfl rfl rfl hb11) rfl (fun _ => hS4) ?_
      refine HW.skip (i := 16) hH rfl (by kernel_rfl) (Skips.on rfl rfl rfl rfl rfl hb11) rfl (fun _ => hS4) ?_
      refine HW.skip (i := 17) hH rfl (by kernel_rfl) (Skips.on rfl rfl rfl rfl rfl hb11) rfl (fun _ => hS4) ?_
      refine HW.skip1 (i := 18) hH (by kernel_rfl) rfl (Skips.on rfl rfl rfl rfl rfl hb11) rfl (fun hc => by cases hc) ?_
      refine HW.pure (i := 19) hH rfl (by kernel_rfl) (Wants.free rfl) rfl (fun hc => by cases hc) (Rd.pickF rfl hb11 rfl) ?_
      exact HW.sub hH (by exact ⟨rfl, rfl, trivial⟩) (K4 false w19 h)
    intro b8 w20 h_
    have h := hJ2 b8 w20 h_; clear h_
    refine HW.pure (i := 20) hH rfl (by kernel_rfl) (Wants.free rfl) rfl (fun hc => by cases hc) (Rd.assign (v := .bool b8) rfl) ?_
    refine HW.done hH (by kernel_rfl) ?_
    refine NW.then ?_
    refine CW.ret ?_
    exact res1 rfl rfl ⟨b8, rfl, h⟩
end Go.Proofs.YtfcfkhbkkfpehaaGreat
end
section
/- PolicySinks' walk: rules, marks and touches of its own. -/
namespace Go.Proofs.YtfcfkhbkkfpehaaGreat
open Go Go.RowKit Go.X Go.XR
abbrev TEnc := Int × Int × Option Nat
def encT (e : TEnc) : List Value := [.int .i64 e.1, .int .i64 e.2.1, match e.2.2 with | some b => .slice (some ⟨b, 0, none⟩) 1 1 | none => .slice none 0 0]
def tchT (e : TEnc) : Tch := ((e.1, e.2.1), match e.2.2 with | some _ => [(1, 1)] | none => [])
theorem append_t2 {w : World} {p : Option Addr} {n c : Nat} {out : List TEnc} (h : RowAt w 65 3 p n c (out.flatMap encT)) {b : Nat} {x y : TEnc} (hb : w.heap[b]? = some (.cells (encT x ++ encT y).toArray 65 (0, 0))) (hn : n ≤ 1000000000) :
  ∃ p' c' w', (Builtin.append_ #[27, 27] 27 #[.slice p n c, .slice (some (⟨b, 0, none⟩ : Addr)) 2 2]).run Tryz.prog w = .ok (.slice p' (n + 2) c') w' ∧ RowAt w' 65 3 p' (n + 2) c' ((out ++ [x, y]).flatMap encT) ∧ Chg (rowB p) w w' ∧
   (∀ i ∈ rowB p', i ∈ rowB p ∨ w.heap.size ≤ i) := by
 have one : ∀ (z : TEnc), ∀ u ∈ encT z, u.oneCell' = true := fun z u hu => by
  obtain ⟨z1, z2, z3⟩ := z
  simp [encT] at hu
  rcases hu with rfl | rfl | rfl
  ·rfl
  ·rfl
  ·cases z3 <;> rfl
 obtain ⟨p', c', w', h1, h2, h3, h4⟩ := h.append (P := Tryz.prog) (t := 27) (ty := 27) (i := Tryz.t65) (z := .agg #[.int .i64 0, .int .i64 0, .slice none 0 0]) (bytes := 40) (by kernel_rfl) (by kernel_rfl) (by kernel_rfl) (by kernel_rfl) (by kernel_rfl) rfl (by omega)
  (a := ⟨b, 0, none⟩) (m := 2) (mc := 2) (news := encT x ++ encT y) rfl (fun i u hi => by
   rw [add_at, cell_of hb, Nat.zero_add]; simpa using hi) (fun u hu => (List.mem_append.1 hu).elim (one x u) (one y u)) (by simp only [maxLen]; omega) (by omega)
 exact ⟨p', c', w', h1, by simpa [List.flatMap_append] using h2, h3, h4⟩
theorem row_touches {w : World} {p : Option Addr} {n c : Nat} {es : List TEnc} (h : RowAt w 65 3 p n c (es.flatMap encT)) (hk : ∀ e ∈ es, i64s e.1 ∧ i64s e.2.1 ∧ ∀ b, e.2.2 = some b → w.heap[b]? = some (.cells #[.int .i64 1, .int .i64 1] 62 (0, 0))) {o k : Nat} (hok : o + k ≤ n) {q : Option Addr} (hq : q = p.map fun a => a.add (o * 3)) :
  TouchesAt w (fun _ => True) q k ((es.drop o).take k |>.map tchT) := by
 have hlen := h.length
 rw [flat_length (enc := encT) (size := 3) (fun _ => rfl)] at hlen
 refine ⟨by simp; omega, fun j t hj => ?_⟩
 rw [List.getElem?_map] at hj
 obtain ⟨e, he, rfl⟩ := Option.map_eq_some_iff.1 hj
 rw [List.getElem?_take] at he
 split at he
 ·rw [List.getElem?_drop] at he
  obtain ⟨k1, k2, k3⟩ := hk e (List.mem_of_getElem? he)
  obtain ⟨a, rfl, hc⟩ := RowAt.elem (size := 3) (enc := encT) (fun _ => rfl) h he (by omega)
  subst hq
  obtain ⟨e1, e2, e3⟩ := e
  have hc' : CellsAt w ((a.add (o * 3)).add (j * 3)) 0 (encT (e1, e2, e3)) := by rw [add_add', ← Nat.add_mul]; exact hc
  cases e3 with
  | none => exact ⟨k1, k2, _, none, 0, 0, rfl, trivial, hc', rfl, fun i x hx => by simp [tchT] at hx⟩
  | some b =>
   refine ⟨k1, k2, _, some ⟨b, 0, none⟩, 1, 1, rfl, trivial, hc', rfl, fun i x hx => ?_⟩
   cases i with
   | succ i => simp [tchT] at hx
   | zero =>
    simp [tchT] at hx
    subst hx
    exact ⟨by simp only [i64s]; omega, by simp only [i64s]; omega, _, rfl, trivial, by rw [Nat.zero_mul, add_at]; exact cellsAt_of (k3 b rfl)⟩
 ·cases he
theorem slice_to {a : Addr} {n c : Nat} {k : Nat} (hc : k ≤ c) (w : World) : (Instr.sliceAt 27 (.slice (some a) n c) none (some (.int .i64 (k : Int))) none).run Tryz.prog w = .ok (.slice (some a) k c) w := by
 have h0 : Tryz.prog.underlying 27 = some (.slice (Tryz.prog.elem 27)) := by kernel_rfl
 have hs : (sizeOf (Tryz.prog.elem 27)).run Tryz.prog w = .ok 3 w := by kernel_rfl
 rw [run_sliceAt_slice w _ _ _ _ _ h0, run_slice_h w _ (some a) n c h0 .i64 k (by omega) (by omega), hs]
 simp only [Result.andThen, sliced]
 by_cases h : c = 0
 ·subst h; simp
 ·simp [h, add_zero']
theorem slice_from {a : Addr} {n c : Nat} {k : Nat} (hk : k ≤ n) (hkc : k < c) (w : World) : (Instr.sliceAt 27 (.slice (some a) n c) (some (.int .i64 (k : Int))) none none).run Tryz.prog w = .ok (.slice (some (a.add (k * 3))) (n - k) (c - k)) w := by
 have h0 : Tryz.prog.underlying 27 = some (.slice (Tryz.prog.elem 27)) := by kernel_rfl
 have hs : (sizeOf (Tryz.prog.elem 27)).run Tryz.prog w = .ok 3 w := by kernel_rfl
 rw [run_sliceAt_slice w _ _ _ _ _ h0, run_slice_l w _ (some a) n c h0 .i64 k (by omega) (by omega), hs]
 simp only [Result.andThen, sliced]
 rw [if_neg (by omega)]
 simp
theorem sinks_walk {w : World} (s1 s2 s3 s4 set n1 : Int) (hu : u32s s1 ∧ u32s s2 ∧ u32s s3 ∧ u32s s4) (hset : u32s set) :
  Calls Tryz.prog 4 #[.agg #[.int .u32 s1, .int .u32 s2, .int .u32 s3, .int .u32 s4], .int .u32 set, .int .i64 n1] w fun e w' => ∃ r : Bool, e = .returned (.bool r) ∧ (r = true ∧ Chg [] w w') := by
 refine go_pomanderlaw13_PolicySinks _ _ _ _ _ _ _ _ ?_
 unfold W_pomanderlaw13_PolicySinks
 refine v_alloc fun b1 w1 e1 h1 c1 => ?_
 have s1' := c1.size
 have l1' := lt_of_heap h1
 refine ⟨fun _ => ?_, fun hn => ?_⟩
 ·refine (known_true w1).mono ?_
  rintro _ w2 ⟨_, rfl, rfl, c2⟩
  exact ⟨_, rfl, rfl, c1.trans0 c2⟩
 have hn1 : 0 ≤ n1 ∧ n1 ≤ 100 := by
  rw [Bool.or_eq_false_iff] at hn
  have a := of_decide_eq_false hn.1
  have b := of_decide_eq_false hn.2
  omega
 refine v_box (by rfl) (by rfl) fun b2 w4 e2 h4 c4 => ?_
 have s4' := c4.size
 have l4' := lt_of_heap h4
 have h14 := c4.obj (by simp) h1
 have hcell1 : ∀ (k : Nat), k < 4 → ∃ t : Int, u32s t ∧ [Value.int .u32 s1, .int .u32 s2, .int .u32 s3, .int .u32 s4][k]? = some (.int .u32 t) := fun k hk => by
  rcases k with _ | _ | _ | _ | k
  ·exact ⟨s1, hu.1, rfl⟩
  ·exact ⟨s2, hu.2.1, rfl⟩
  ·exact ⟨s3, hu.2.2.1, rfl⟩
  ·exact ⟨s4, hu.2.2.2, rfl⟩
  ·omega
 refine ⟨fun i w' => ∃ j : Nat, i = j ∧ j ≤ 4 ∧ ∃ r : List Int, r.length = 11 ∧ (∀ x ∈ r, u32s x) ∧ w'.heap[b2]? = some (.cells (r.map (Value.int .u32)).toArray 25 (0, 0)) ∧ w'.heap[b1]? = some (.cells #[.int .u32 s1, .int .u32 s2, .int .u32 s3, .int .u32 s4] 59 (0, 0)) ∧ Chg [] w w',
  fun i _ => 4 - i.toNat, ⟨0, rfl, by omega, List.replicate 11 0, rfl, fun x hx => by rw [(List.mem_replicate.1 hx).2]; unfold u32s; omega, h4, h14, c1.trans0 c4⟩, ?_⟩
 rintro _ w5 ⟨j, rfl, hj, r, hr, hru, h5, h51, c5⟩
 refine ⟨fun hlt => ?_, fun hge => ?_⟩
 ·have hj4 : j < 4 := by have := of_decide_eq_true hlt; omega
  obtain ⟨t, htu, ht⟩ := hcell1 j hj4
  have ew : IntKind.wrap .i64 (1 + (j : Int)) = ((1 + j : Nat) : Int) := by rw [wr (by omega) (by omega)]; omega
  rw [ew]
  rw [show Int.toNat (j : Int) = j by omega, show Int.toNat ((1 + j : Nat) : Int) = 1 + j by omega]
  refine ⟨by omega, by omega, t, ?_, by omega, by omega, ?_⟩
  ·rw [add_at, cell_of h51, Nat.mul_one, Nat.zero_add]; simpa using ht
  rw [Nat.mul_one]
  refine v_set h5 (by simp [hr]; omega) fun w6 h6 c6 s6 => ?_
  rw [wr (by omega) (by omega)]
  refine ⟨⟨j + 1, by omega, by omega, r.set (5 + (1 + j)) (Int.tmod t 65536), by simpa using hr, fun x hx => ?_, ?_, c6.obj (by simp; omega) h51, c5.trans c6 (fun i hi hlt => by simp at hi; omega)⟩, by simp only []; omega⟩
  ·rcases List.mem_or_eq_of_mem_set hx with k | k
   ·exact hru x k
   ·subst k
    unfold u32s at htu ⊢
    rw [Int.tmod_eq_emod_of_nonneg htu.1]; omega
  ·rw [h6, List.setIfInBounds_toArray, List.map_set]
 ·have hsz5 := c5.size
  rintro b3 w8 ⟨i3, j3⟩ c8
  have s8 := c8.size
  have h8 := c8.obj (by simp) h5
  have l8 := lt_of_heap h8
  refine ⟨fun l n c k w' => ∃ m : Nat, k = m ∧ m ≤ 18 ∧ n = 2 * m ∧ ∃ es : List TEnc, RowAt w' 65 3 l n c (es.flatMap encT) ∧ (∀ e ∈ es, i64s e.1 ∧ i64s e.2.1 ∧ ∀ b, e.2.2 = some b → w'.heap[b]? = some (.cells #[.int .i64 1, .int .i64 1] 62 (0, 0)) ∧ b ∉ rowB l) ∧ (∀ b ∈ rowB l, w8.heap.size ≤ b) ∧ Chg [] w8 w',
   fun _ _ _ k _ => 18 - k.toNat, ⟨0, rfl, by omega, rfl, [], RowAt.nil, by simp, by simp [rowB], Chg.refl _ _⟩, ?_⟩
  rintro l n c _ w9 ⟨m, rfl, hm, rfl, es, hrow, hes, hfr, c9⟩
  have s9 := c9.size
  refine ⟨fun hlt => ?_, fun hge2 => ?_⟩
  ·have hm18 : m < 18 := by have := of_decide_eq_true hlt; omega
   rintro b4 w11 ⟨i4, j4⟩ c11
   have s11 := c11.size
   have hrl := hrow.lt
   refine ⟨fun c1 w' => i64s c1 ∧ Chg [b4] w11 w', ?_, fun _ w16 c16 => ⟨by unfold i64s; omega, c16⟩, fun _ => ⟨by simp only [i64s]; omega, Chg.refl _ _⟩⟩
   rintro c1 w12 ⟨hc1, c12⟩
   have s12 := c12.size
   have c912 : Chg [] w9 w12 := c11.trans c12 (fun i hi hlt => by simp at hi; omega)
   refine v_alloc fun b5 w13 e5 h13 c13 => ?_
   have s13 := c13.size
   refine v_alloc fun b6 w14 e6 h14 c14 => ?_
   have s14 := c14.size
   have l13 := lt_of_heap h13
   have c914 := (c912.trans0 c13).trans0 c14
   obtain ⟨p', c', w15, hap, hrow15, c15, hf15⟩ := append_t2 (x := ((m : Int), c1, some b5)) (y := ((m : Int), c1, none)) (hrow.chg c914 (by simp)) h14 (by omega)
   have s15 := c15.size
   refine ⟨p', _, c', w15, hap, Same.of c15 (fun i hi => ⟨by simp at hi; omega, fun hmm => by have := hfr i hmm; simp at hi; omega⟩), ?_⟩
   rw [wr (by omega) (by omega)]
   refine ⟨⟨m + 1, by omega, by omega, by omega, es ++ [((m : Int), c1, some b5), ((m : Int), c1, none)], hrow15, fun e he => ?_, fun b hb => ?_, (c9.trans0 c914).trans c15 (fun i hi hlt => by have := hfr i hi; omega)⟩, by simp only []; omega⟩
   ·have hm64 : i64s (m : Int) := by unfold i64s; omega
    rcases List.mem_append.1 he with he | he
    ·obtain ⟨k1, k2, k3⟩ := hes e he
     refine ⟨k1, k2, fun b hb => ?_⟩
     obtain ⟨k4, k5⟩ := k3 b hb
     have hlt := lt_of_heap k4
     refine ⟨c15.obj k5 (c914.obj (by simp) k4), fun hmm => ?_⟩
     rcases hf15 b hmm with q | q
     ·exact k5 q
     ·have := c914.size; omega
    ·simp at he
     rcases he with rfl | rfl
     ·refine ⟨hm64, hc1, fun b hb => ?_⟩
      cases hb
      have hnr : b5 ∉ rowB l := fun hmm => by have := hrl b5 hmm; have := c912.size; omega
      refine ⟨c15.obj hnr (c14.obj (by simp) h13), fun hmm => ?_⟩
      rcases hf15 b5 hmm with q | q
      ·exact hnr q
      ·omega
     ·exact ⟨hm64, hc1, fun b hb => by cases hb⟩
   ·rcases hf15 b hb with q | q
    ·exact hfr b q
    ·have := c914.size; omega
  ·obtain rfl : m = 18 := by have := of_decide_eq_false hge2; omega
   intro w17 c17
   have s17 := c17.size
   have c817 := c9.trans0 c17
   obtain ⟨t2, t3, t4, t5, t6, t7, t8, t9, t10, t11, t12, rfl⟩ := len11 hr
   have h17 := c817.obj (by simp) h8
   have hrow17 := hrow.chg c17 (by simp)
   have hes17 : ∀ e ∈ es, i64s e.1 ∧ i64s e.2.1 ∧ ∀ b, e.2.2 = some b → w17.heap[b]? = some (.cells #[.int .i64 1, .int .i64 1] 62 (0, 0)) := fun e he => by
    obtain ⟨k1, k2, k3⟩ := hes e he
    exact ⟨k1, k2, fun b hb => c17.obj (by simp) (k3 b hb).1⟩
   obtain ⟨a, rfl, hcap⟩ : ∃ a, l = some a ∧ 36 ≤ c := by
    rcases hrow17.2 with ⟨hv, hz⟩ | ⟨g, cap, cur, hv, hb, hg, k1, _⟩
    ·omega
    ·cases hv; exact ⟨_, rfl, by omega⟩
   have mk : ∀ (W : World) (b : Nat), W.heap[b]? = some (.cells #[.int .i64 1, .int .i64 1, .int .u32 (Int.tmod set 65536)] 67 (0, 0)) → MarksAt W (fun _ => True) (some ⟨b, 0, none⟩) 1 [((1, 1), Int.tmod set 65536)] := fun W b hb => by
    refine ⟨rfl, fun j x hx => ?_⟩
    cases j with
    | succ j => simp at hx
    | zero =>
     simp at hx; subst hx
     unfold u32s at hset
     refine ⟨by simp only [i64s]; omega, ?_, ?_, _, rfl, trivial, by rw [Nat.zero_mul, add_at]; exact cellsAt_of hb⟩
     ·simp only []; rw [Int.tmod_eq_emod_of_nonneg hset.1]; omega
     ·simp only []; rw [Int.tmod_eq_emod_of_nonneg hset.1]; omega
   have inn : ∀ (l : List TEnc), ∀ t ∈ l.map tchT, t.2.length ≤ maxLen := fun l t ht => by
    obtain ⟨e, _, rfl⟩ := List.mem_map.1 ht
    obtain ⟨e1, e2, e3⟩ := e
    cases e3 <;> simp [tchT, maxLen]
   refine ⟨t2, t3, t4, t5, t6, t7, t8, t9, t10, t11, t12, cellsAt_of h17, some a, 20, c, fun W => slice_to (k := 20) (by omega) W, ?_⟩
   refine v_alloc fun b7 w18 e7 h18 c18 => ?_
   have s18 := c18.size
   refine (judges_walk (mc := 1) (lc := c) (mk w18 b7 h18) (by simp [maxLen]) ((row_touches (o := 0) (k := 20) (q := some a) hrow17 hes17 (by omega) (by simp [add_zero'])).chg c18 (by simp)) (by simp [maxLen]) (inn _) t2 t3 t4 t5 t6 t7 t8 t9 t10 t11 t12 hru).mono ?_
   rintro _ w19 ⟨_, rfl, rfl, c19⟩
   have s19 := c19.size
   have c1719 := c18.trans0 c19
   refine ⟨_, rfl, cellsAt_of (c1719.obj (by simp) h17), Same.chg c19 (by simp; omega), fun b w' => b = true ∧ Chg [] w w', fun _ _ h => h, fun _ => ?_, fun h => by simp at h⟩
   refine ⟨some (a.add (20 * 3)), 36 - 20, c - 20, fun W => slice_from (k := 20) (by omega) (by omega) W, ?_⟩
   refine v_alloc fun b9 w21 e9 h21 c21 => ?_
   refine (judges_walk (mc := 1) (lc := c - 20) (mk w21 b9 h21) (by simp [maxLen]) ((row_touches (o := 20) (k := 36 - 20) (q := some (a.add (20 * 3))) hrow17 hes17 (by omega) rfl).chg (c1719.trans0 c21) (by simp)) (by simp [maxLen]) (inn _) t2 t3 t4 t5 t6 t7 t8 t9 t10 t11 t12 hru).mono ?_
   rintro _ w22 ⟨_, rfl, rfl, c22⟩
   exact ⟨_, rfl, rfl, ((((c5.trans0 c8).trans0 c817).trans0 c1719).trans0 c21).trans0 c22⟩
end Go.Proofs.YtfcfkhbkkfpehaaGreat
end
section
/- Arguments that came in, opened: four sets. -/
namespace Go.Proofs.YtfcfkhbkkfpehaaGreat
open Go Go.RowKit Go.X Go.ChangeShapes Go.WideShapes Go.ChangeAt
section
variable {H : Type} {enc : TypeId × Value → H} {w : World} {base : Nat} {spare : Nat → Bool} {held : Bool} {fuel : Nat} {cs : List Value} {x : DataW H × List MemPlace}
theorem len4 {α : Type} {l : List α} (h : l.length = 4) : ∃ a b c d, l = [a, b, c, d] := by
 match l, h with
 | [a, b, c, d], _ => exact ⟨a, b, c, d, rfl⟩
theorem open_four (h : DataW.trod enc Tryz.prog w base spare held fuel 59 cs = some x) : ∃ a b c d : Int, cs = [.int .u32 a, .int .u32 b, .int .u32 c, .int .u32 d] ∧ u32s a ∧ u32s b ∧ u32s c ∧ u32s d := by
 obtain ⟨xs, n, _, _, hl, hlen, hf⟩ := DataW.trod_array Tryz.underlying59 h
 have h0 := hf 0 (by omega)
 have h1 := hf 1 (by omega)
 have h2 := hf 2 (by omega)
 have h3 := hf 3 (by omega)
 simp only [cells22] at h0 h1 h2 h3
 rw [show Tryz.prog.cellsOf 59 = 4 by kernel_rfl] at hl
 rw [List.getElem?_eq_getElem (by omega)] at h0 h1 h2 h3
 obtain ⟨a, e0, _, w0⟩ := DataW.trod_int un22 h0
 obtain ⟨b, e1, _, w1⟩ := DataW.trod_int un22 h1
 obtain ⟨c, e2, _, w2⟩ := DataW.trod_int un22 h2
 obtain ⟨d, e3, _, w3⟩ := DataW.trod_int un22 h3
 obtain ⟨c0, c1, c2, c3, rfl⟩ := len4 hl
 simp at e0 e1 e2 e3
 subst e0 e1 e2 e3
 exact ⟨a, b, c, d, rfl, wf_u32 w0, wf_u32 w1, wf_u32 w2, wf_u32 w3⟩
end
end Go.Proofs.YtfcfkhbkkfpehaaGreat
end
section
/- What every row's step needs. -/
namespace Go.Proofs.YtfcfkhbkkfpehaaGreat
open Go Go.RowKit Go.X
theorem ownX : ownKnob Tryz.prog.godebug = none := by kernel_rfl
theorem laidOutX : laidOutB Tryz.prog = true := by kernel_rfl
end Go.Proofs.YtfcfkhbkkfpehaaGreat
end
