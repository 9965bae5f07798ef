/- Texts of the claim, merged: XHjudges XOpen3 XJudgesW XStep. -/
import Derived.Test.YtfcfkhbkkfpehaaGreatXMpj5
import Derived.Test.YtfcfkhbkkfpehaaGreatProg
import Derived.Test.YtfcfkhbkkfpehaaGreatRows
set_option linter.unusedSimpArgs false
set_option linter.unusedVariables false
set_option maxRecDepth 100000
section
namespace Go.Proofs.YtfcfkhbkkfpehaaGreat
open Go Go.X
/- pomander/pomanderlaw13.PolicyJudges -/
def W_pomanderlaw13_PolicyJudges (r1 : Int) (r2 : Int) (r3 : Int) (r4 : Int) (r5 : Int) (r6 : Int) (r7 : Int) (r8 : Int) (r9 : Int) (r10 : Int) (r11 : Int) (m1 : Option Addr) (m1n : Nat) (m1c : Nat) (l1 : Option Addr) (l1n : Nat) (l1c : Nat) (w : World) (R : Bool → World → Prop) : Prop :=
 ∀ (b1 : Nat) (w1 : World), (w.heap.size ≤ b1 ∧ b1 < w1.heap.size) → Chg [] w w1 → (Calls Tryz.prog 10 #[.slice m1 m1n m1c, .slice l1 l1n l1c] w1 fun e w2 => ∃ (r13 : Bool), e = .returned (.bool r13) ∧ (Same w1 w2 [b1] ∧ ((r13 = true → Calls Tryz.prog 11 #[] w2 fun e w3 => ∃ (r14 : Bool), e = .returned (.bool r14) ∧ (Same w2 w3 [b1] ∧ (R r14 w3))) ∧ (r13 = false → Calls Tryz.prog 12 #[.agg #[.int .u32 r1, .int .u32 r2, .int .u32 r3, .int .u32 r4, .int .u32 r5, .int .u32 r6, .int .u32 r7, .int .u32 r8, .int .u32 r9, .int .u32 r10, .int .u32 r11]] w2 fun e w4 => ∃ (r15 : Option Addr) (r16 : Int), e = .returned (.tuple #[.pointer r15, .int .i64 r16]) ∧ (Same w2 w4 [b1] ∧ (Calls Tryz.prog 13 #[.agg #[.int .u32 r1, .int .u32 r2, .int .u32 r3, .int .u32 r4, .int .u32 r5, .int .u32 r6, .int .u32 r7, .int .u32 r8, .int .u32 r9, .int .u32 r10, .int .u32 r11]] w4 fun e w5 => ∃ (r17 : Bool), e = .returned (.bool r17) ∧ (Same w4 w5 [b1] ∧ (((!r17) = true → ∃ J1 : Bool → World → Prop, (∀ (b2 : Bool) (w6 : World), J1 b2 w6 → R b2 w6) ∧ (((Option.isNone r15 && r16 == 2) = true → Calls Tryz.prog 11 #[] w5 fun e w7 => ∃ (r18 : Bool), e = .returned (.bool r18) ∧ (Same w5 w7 [b1] ∧ (J1 r18 w7))) ∧ ((Option.isNone r15 && r16 == 2) = false → J1 false w5))) ∧ ((!r17) = false → Calls Tryz.prog 14 #[.slice m1 m1n m1c] w5 fun e w8 => ∃ (r19 : Option Addr) (r20 : Int) (r21 : Int) (r22 : Int) (r23 : Option Addr) (r23n : Nat) (r23c : Nat) (r24 : Option Addr) (r24n : Nat) (r24c : Nat), e = .returned (.tuple #[.pointer r19, .agg #[.int .i64 r20, .int .i64 r21, .int .i64 r22, .slice r23 r23n r23c, .slice r24 r24n r24c]]) ∧ (Same w5 w8 [b1] ∧ (∀ (b3 : Nat) (w10 : World), (w8.heap.size ≤ b3 ∧ b3 < w10.heap.size) → Chg [] w8 w10 → (Calls Tryz.prog 15 #[.pointer r19] w10 fun e w11 => ∃ (r25 : Option Addr), e = .returned (.pointer r25) ∧ (Same w10 w11 [b3, b1] ∧ (Calls Tryz.prog 16 #[.pointer r15, .pointer r19, .slice l1 l1n l1c] w11 fun e w12 => ∃ (r26 : Bool) (r27 : Int), e = .returned (.tuple #[.bool r26, .int .i64 r27]) ∧ (Same w11 w12 [b3, b1] ∧ (Calls Tryz.prog 17 #[.pointer r15, .pointer r19, .slice l1 l1n l1c] w12 fun e w13 => ∃ (r28 : Option Addr) (r28n : Nat) (r28c : Nat) (r29 : Int), e = .returned (.tuple #[.slice r28 r28n r28c, .int .i64 r29]) ∧ (Same w12 w13 [b3, b1] ∧ (Calls Tryz.prog 18 #[.agg #[.int .i64 r20, .int .i64 r21, .int .i64 r22, .slice r23 r23n r23c, .slice r24 r24n r24c], .slice l1 l1n l1c] w13 fun e w14 => ∃ (r30 : Bool), e = .returned (.bool r30) ∧ (Same w13 w14 [b3, b1] ∧ (((!r30) = true → ∃ J2 : Bool → World → Prop, (∀ (b4 : Bool) (w15 : World), J2 b4 w15 → R b4 w15) ∧ (((((!r26 && r27 == 2) && (r28n : Int) == 0) && r29 == 2) = true → Calls Tryz.prog 11 #[] w14 fun e w16 => ∃ (r31 : Bool), e = .returned (.bool r31) ∧ (Same w14 w16 [b3, b1] ∧ (J2 r31 w16))) ∧ ((((!r26 && r27 == 2) && (r28n : Int) == 0) && r29 == 2) = false → J2 false w14))) ∧ ((!r30) = false → ∀ (w17 : World), Chg [] w14 w17 → (∃ J3 : Bool → World → Prop, (∀ (b5 : Bool) (w18 : World), J3 b5 w18 → ∃ J4 : Bool → World → Prop, (∀ (b6 : Bool) (w20 : World), J4 b6 w20 → ∃ J5 : Bool → World → Prop, (∀ (b7 : Bool) (w23 : World), J5 b7 w23 → ∃ J6 : Bool → World → Prop, (∀ (b8 : Bool) (w25 : World), J6 b8 w25 → ∃ J7 : Bool → World → Prop, (∀ (b9 : Bool) (w27 : World), J7 b9 w27 → R b9 w27) ∧ ((b8 = true → Calls Tryz.prog 11 #[] w25 fun e w28 => ∃ (r47 : Bool), e = .returned (.bool r47) ∧ (J7 r47 w28)) ∧ (b8 = false → J7 false w25))) ∧ ((b7 = true → Calls Tryz.prog 23 #[.pointer r19, .pointer r25] w23 fun e w26 => ∃ (r46 : Bool), e = .returned (.bool r46) ∧ (Same w23 w26 [b3, b1] ∧ (J6 r46 w26))) ∧ (b7 = false → J6 false w23))) ∧ ((b6 = true → Calls Tryz.prog 22 #[.pointer r15] w20 fun e w24 => ∃ (r35 : Int) (r36 : Int) (r37 : Int) (r38 : Int) (r39 : Int) (r40 : Int) (r41 : Int) (r42 : Int) (r43 : Int) (r44 : Int) (r45 : Int), e = .returned (.agg #[.int .u32 r35, .int .u32 r36, .int .u32 r37, .int .u32 r38, .int .u32 r39, .int .u32 r40, .int .u32 r41, .int .u32 r42, .int .u32 r43, .int .u32 r44, .int .u32 r45]) ∧ (Same w20 w24 [b3, b1] ∧ (∃ (t1 : Bool), (∀ w : World, ((do eqGuard .eql 25 (.tmp 108) (.tmp 109) (.agg #[.int .u32 r35, .int .u32 r36, .int .u32 r37, .int .u32 r38, .int .u32 r39, .int .u32 r40, .int .u32 r41, .int .u32 r42, .int .u32 r43, .int .u32 r44, .int .u32 r45]) (.agg #[.int .u32 r1, .int .u32 r2, .int .u32 r3, .int .u32 r4, .int .u32 r5, .int .u32 r6, .int .u32 r7, .int .u32 r8, .int .u32 r9, .int .u32 r10, .int .u32 r11]); binOp .eql 25 (.agg #[.int .u32 r35, .int .u32 r36, .int .u32 r37, .int .u32 r38, .int .u32 r39, .int .u32 r40, .int .u32 r41, .int .u32 r42, .int .u32 r43, .int .u32 r44, .int .u32 r45]) (.agg #[.int .u32 r1, .int .u32 r2, .int .u32 r3, .int .u32 r4, .int .u32 r5, .int .u32 r6, .int .u32 r7, .int .u32 r8, .int .u32 r9, .int .u32 r10, .int .u32 r11]) : Sem Value)).run Tryz.prog w = .ok (.bool t1) w) ∧ (J5 t1 w24)))) ∧ (b6 = false → J5 false w20))) ∧ ((b5 = true → Calls Tryz.prog 21 #[.agg #[.int .u32 r1, .int .u32 r2, .int .u32 r3, .int .u32 r4, .int .u32 r5, .int .u32 r6, .int .u32 r7, .int .u32 r8, .int .u32 r9, .int .u32 r10, .int .u32 r11], .agg #[.int .i64 r20, .int .i64 r21, .int .i64 r22, .slice r23 r23n r23c, .slice r24 r24n r24c], .slice l1 l1n l1c] w18 fun e w21 => ∃ (r33 : Option Addr) (r33n : Nat) (r33c : Nat), e = .returned (.slice r33 r33n r33c) ∧ (Same w18 w21 [b3, b1] ∧ (Calls Tryz.prog 20 #[.slice r28 r28n r28c, .slice r33 r33n r33c] w21 fun e w22 => ∃ (r34 : Bool), e = .returned (.bool r34) ∧ (Same w21 w22 [b3, b1] ∧ (J4 r34 w22))))) ∧ (b5 = false → J4 false w18))) ∧ ((((r16 == 0 && r27 == 0) && r29 == 0) = true → Calls Tryz.prog 19 #[.agg #[.int .u32 r1, .int .u32 r2, .int .u32 r3, .int .u32 r4, .int .u32 r5, .int .u32 r6, .int .u32 r7, .int .u32 r8, .int .u32 r9, .int .u32 r10, .int .u32 r11], .agg #[.int .i64 r20, .int .i64 r21, .int .i64 r22, .slice r23 r23n r23c, .slice r24 r24n r24c], .slice l1 l1n l1c] w17 fun e w19 => ∃ (r32 : Bool), e = .returned (.bool r32) ∧ (Same w17 w19 [b3, b1] ∧ (J3 (r26 == r32) w19))) ∧ (((r16 == 0 && r27 == 0) && r29 == 0) = false → J3 false w17))))))))))))))))))))))))
set_option maxRecDepth 100000 in
theorem go_pomanderlaw13_PolicyJudges (r1 : Int) (r2 : Int) (r3 : Int) (r4 : Int) (r5 : Int) (r6 : Int) (r7 : Int) (r8 : Int) (r9 : Int) (r10 : Int) (r11 : Int) (m1 : Option Addr) (m1n : Nat) (m1c : Nat) (l1 : Option Addr) (l1n : Nat) (l1c : Nat) (w : World) (R : Bool → World → Prop) (h : W_pomanderlaw13_PolicyJudges r1 r2 r3 r4 r5 r6 r7 r8 r9 r10 r11 m1 m1n m1c l1 l1n l1c w R) : Calls Tryz.prog 3 #[.agg #[.int .u32 r1, .int .u32 r2, .int .u32 r3, .int .u32 r4, .int .u32 r5, .int .u32 r6, .int .u32 r7, .int .u32 r8, .int .u32 r9, .int .u32 r10, .int .u32 r11], .slice m1 m1n m1c, .slice l1 l1n l1c] w (fun e w' => ∃ (r12 : Bool), e = .returned (.bool r12) ∧ R r12 w') := by
 unfold W_pomanderlaw13_PolicyJudges at h
 refine enter (N := 120) Tryz.func3 rfl rfl ?_
 refine CW.seq ?_
 refine CW.region fun L hL => ?_
 obtain ⟨b1, hb_b1⟩ : ∃ b1, b1 = World.size w := ⟨_, rfl⟩
 obtain ⟨w1, hw_w1⟩ : ∃ w1, w1 = World.alloc w (.cells #[.int .u32 r1, .int .u32 r2, .int .u32 r3, .int .u32 r4, .int .u32 r5, .int .u32 r6, .int .u32 r7, .int .u32 r8, .int .u32 r9, .int .u32 r10, .int .u32 r11] 25) := ⟨_, rfl⟩
 refine LW.val hL rfl (Wants.free rfl) rfl (boxE hb_b1 hw_w1 (Vl.box (v := .agg #[.int .u32 r1, .int .u32 r2, .int .u32 r3, .int .u32 r4, .int .u32 r5, .int .u32 r6, .int .u32 r7, .int .u32 r8, .int .u32 r9, .int .u32 r10, .int .u32 r11]) rfl)) ?_
 have hB := Boxes.alloc (cs := [.int .u32 r1, .int .u32 r2, .int .u32 r3, .int .u32 r4, .int .u32 r5, .int .u32 r6, .int .u32 r7, .int .u32 r8, .int .u32 r9, .int .u32 r10, .int .u32 r11]) (T := 25) (Boxes.nil w) hb_b1 hw_w1
 have hlo_b1 := sil_lo (Chg.refl [] w) hb_b1
 have hc_w1 := sil_alloc (Chg.refl [] w) hw_w1
 refine LW.rd hL rfl (Wants.free rfl) rfl (Rd.assign (v := .bool false) rfl) ?_
 refine LW.nil hL rfl ?_
 refine NW.then ?_
 refine CW.seq ?_
 refine CW.seq ?_
 refine CW.region fun L hL => ?_
 refine LW.rd hL rfl (Wants.free rfl) rfl (Rd.move (v := .slice m1 m1n m1c) rfl) ?_
 refine LW.rd hL rfl (Wants.free rfl) rfl (Rd.move (v := .slice l1 l1n l1c) rfl) ?_
 replace h := h b1 w1 ⟨hlo_b1, lt_of_heap (hB.at (i := 0) rfl)⟩ hc_w1
 refine LW.call hL rfl (Wants.free rfl) rfl (Cl.fn (f := 10) rfl Tryz.func10 (by kernel_rfl) rfl) h (fun e w2 h_ => ?_)
 clear h
 obtain ⟨r13, rfl, h⟩ := h_
 obtain ⟨hsm1, h⟩ := h
 replace hB := Boxes.sameS hB hsm1 (by simp)
 refine ⟨_, rfl, ?_⟩
 refine LW.nil hL rfl ?_
 refine NW.then ?_
 refine CW.cond rfl (fun hb1 => ?_) (fun hb1 => ?_)
 ·replace h := h.1 hb1
  refine CW.seq ?_
  refine CW.region fun L hL => ?_
  refine LW.call hL rfl (Wants.free rfl) rfl (Cl.fn (f := 11) rfl Tryz.func11 (by kernel_rfl) rfl) h (fun e w3 h_ => ?_)
  clear h
  obtain ⟨r14, rfl, h⟩ := h_
  obtain ⟨hsm2, h⟩ := h
  replace hB := Boxes.sameS hB hsm2 (by simp)
  refine ⟨_, rfl, ?_⟩
  refine LW.rd hL rfl (Wants.free rfl) rfl (Rd.assign (v := .bool r14) rfl) ?_
  refine LW.nil hL rfl ?_
  refine NW.then ?_
  refine CW.ret ?_
  refine RW.then ?_
  exact res1 rfl rfl ⟨r14, rfl, h⟩
 ·replace h := h.2 hb1
  refine CW.skip ?_
  refine NW.then ?_
  refine CW.seq ?_
  refine CW.region fun L hL => ?_
  refine LW.rd hL rfl (Wants.free rfl) rfl (Rd.ldN (cs := [.int .u32 r1, .int .u32 r2, .int .u32 r3, .int .u32 r4, .int .u32 r5, .int .u32 r6, .int .u32 r7, .int .u32 r8, .int .u32 r9, .int .u32 r10, .int .u32 r11]) rfl (by kernel_rfl) (by kernel_rfl) (cellsS (box_cells (hB.at (i := 0) rfl) rfl))) ?_
  refine LW.call hL rfl (Wants.free rfl) rfl (Cl.fn (f := 12) rfl Tryz.func12 (by kernel_rfl) rfl) h (fun e w4 h_ => ?_)
  clear h
  obtain ⟨r15, r16, rfl, h⟩ := h_
  obtain ⟨hsm3, h⟩ := h
  replace hB := Boxes.sameS hB hsm3 (by simp)
  refine ⟨_, rfl, ?_⟩
  refine LW.rd hL rfl (Wants.free rfl) rfl (Rd.move (v := .tuple #[.pointer r15, .int .i64 r16]) rfl) ?_
  refine LW.rd hL rfl (Wants.free rfl) rfl (Rd.extract (v := .pointer r15) rfl rfl) ?_
  refine LW.rd hL rfl (Wants.free rfl) rfl (Rd.extract (v := .int .i64 r16) rfl rfl) ?_
  refine LW.rd hL rfl (Wants.free rfl) rfl (Rd.assign (v := .pointer r15) rfl) ?_
  refine LW.rd hL rfl (Wants.free rfl) rfl (Rd.assign (v := .int .i64 r16) rfl) ?_
  refine LW.nil hL rfl ?_
  refine NW.then ?_
  refine CW.seq ?_
  refine CW.seq ?_
  refine CW.region fun L hL => ?_
  refine LW.rd hL rfl (Wants.free rfl) rfl (Rd.ldN (cs := [.int .u32 r1, .int .u32 r2, .int .u32 r3, .int .u32 r4, .int .u32 r5, .int .u32 r6, .int .u32 r7, .int .u32 r8, .int .u32 r9, .int .u32 r10, .int .u32 r11]) rfl (by kernel_rfl) (by kernel_rfl) (cellsS (box_cells (hB.at (i := 0) rfl) rfl))) ?_
  refine LW.call hL rfl (Wants.free rfl) rfl (Cl.fn (f := 13) rfl Tryz.func13 (by kernel_rfl) rfl) h (fun e w5 h_ => ?_)
  clear h
  obtain ⟨r17, rfl, h⟩ := h_
  obtain ⟨hsm4, h⟩ := h
  replace hB := Boxes.sameS hB hsm4 (by simp)
  refine ⟨_, rfl, ?_⟩
  refine LW.rd hL rfl (Wants.free rfl) rfl (Rd.un (v := .bool (!r17)) rfl (fun _ => by kernel_rfl)) ?_
  refine LW.nil hL rfl ?_
  refine NW.then ?_
  refine CW.cond rfl (fun hb2 => ?_) (fun hb2 => ?_)
  ·replace h := h.1 hb2
   refine CW.seq ?_
   refine CW.region fun L hL => ?_
   refine LW.rd hL rfl (Wants.free rfl) rfl (Rd.move (v := .pointer r15) rfl) ?_
   refine LW.rd hL rfl (Wants.free rfl) rfl (Rd.bin (v := .bool (Option.isNone r15)) rfl rfl (fun w => ptr_nil_eq (by kernel_rfl) r15 w)) ?_
   refine LW.rd hL rfl (Wants.free rfl) rfl (Rd.move (v := .bool (Option.isNone r15)) rfl) ?_
   suffices K1 : L 6 [(1, .slice m1 m1n m1c), (2, .slice l1 l1n l1c), (3, .pointer (some (⟨b1, 0, none⟩ : Addr))), (6, .bool false), (7, .pointer r15), (8, .int .i64 r16), (33, .bool (Option.isNone r15 && r16 == 2))] w5 by
    rcases Bool.eq_false_or_eq_true (Option.isNone r15) with hb4 | hb4
    ·skip
     refine LW.rd hL rfl (Wants.on rfl rfl rfl rfl rfl hb4) rfl (Rd.move (v := .int .i64 r16) rfl) ?_
     refine LW.rd hL rfl (Wants.on rfl rfl rfl rfl rfl hb4) rfl (Rd.bin (v := .bool (r16 == 2)) rfl rfl (fun w => by kernel_rfl)) ?_
     refine LW.rd hL rfl (Wants.free rfl) rfl (Rd.pickT rfl hb4 rfl) ?_
     exact LW.sub hL (by exact ⟨rfl, rfl, rfl, rfl, rfl, rfl, (by rw [hb4]; rfl), trivial⟩) K1
    ·skip
     refine LW.skip hL rfl (Skips.on rfl rfl rfl rfl rfl hb4) rfl ?_
     refine LW.skip hL rfl (Skips.on rfl rfl rfl rfl rfl hb4) rfl ?_
     refine LW.rd hL rfl (Wants.free rfl) rfl (Rd.pickF rfl hb4 rfl) ?_
     exact LW.sub hL (by exact ⟨rfl, rfl, rfl, rfl, rfl, rfl, (by rw [hb4]; rfl), trivial⟩) K1
   refine LW.rd hL rfl (Wants.free rfl) rfl (Rd.move (v := .bool (Option.isNone r15 && r16 == 2)) rfl) ?_
   obtain ⟨J1, hJ1, h1_J1, h0_J1⟩ := h
   suffices K2 : ∀ (b2 : Bool) (w6 : World), Boxes w6 [(b1, [.int .u32 r1, .int .u32 r2, .int .u32 r3, .int .u32 r4, .int .u32 r5, .int .u32 r6, .int .u32 r7, .int .u32 r8, .int .u32 r9, .int .u32 r10, .int .u32 r11], 25)] → J1 b2 w6 → L 9 [(1, .slice m1 m1n m1c), (2, .slice l1 l1n l1c), (3, .pointer (some (⟨b1, 0, none⟩ : Addr))), (6, .bool false), (7, .pointer r15), (8, .int .i64 r16), (36, .bool b2)] w6 by
    rcases Bool.eq_false_or_eq_true (Option.isNone r15 && r16 == 2) with hb5 | hb5
    ·have h := h1_J1 hb5
     refine LW.call hL rfl (Wants.on rfl rfl rfl rfl rfl hb5) rfl (Cl.fn (f := 11) rfl Tryz.func11 (by kernel_rfl) rfl) h (fun e w7 h_ => ?_)
     clear h
     obtain ⟨r18, rfl, h⟩ := h_
     obtain ⟨hsm5, h⟩ := h
     replace hB := Boxes.sameS hB hsm5 (by simp)
     refine ⟨_, rfl, ?_⟩
     refine LW.rd hL rfl (Wants.free rfl) rfl (Rd.pickT rfl hb5 rfl) ?_
     exact LW.sub hL (by exact ⟨rfl, rfl, rfl, rfl, rfl, rfl, rfl, trivial⟩) (K2 r18 w7 (by exact hB) h)
    ·have h := h0_J1 hb5
     refine LW.skip hL rfl (Skips.on rfl rfl rfl rfl rfl hb5) rfl ?_
     refine LW.rd hL rfl (Wants.free rfl) rfl (Rd.pickF rfl hb5 rfl) ?_
     exact LW.sub hL (by exact ⟨rfl, rfl, rfl, rfl, rfl, rfl, rfl, trivial⟩) (K2 false w5 (by exact hB) h)
   intro b2 w6 hB h_
   have h := hJ1 b2 w6 h_; clear h_
   refine LW.rd hL rfl (Wants.free rfl) rfl (Rd.assign (v := .bool b2) rfl) ?_
   refine LW.nil hL rfl ?_
   refine NW.then ?_
   refine CW.ret ?_
   refine RW.then ?_
   exact res1 rfl rfl ⟨b2, rfl, h⟩
  ·replace h := h.2 hb2
   refine CW.skip ?_
   refine NW.then ?_
   refine CW.seq ?_
   refine CW.region fun L hL => ?_
   refine LW.rd hL rfl (Wants.free rfl) rfl (Rd.move (v := .slice m1 m1n m1c) rfl) ?_
   refine LW.call hL rfl (Wants.free rfl) rfl (Cl.fn (f := 14) rfl Tryz.func14 (by kernel_rfl) rfl) h (fun e w8 h_ => ?_)
   clear h
   obtain ⟨r19, r20, r21, r22, r23, r23n, r23c, r24, r24n, r24c, rfl, h⟩ := h_
   obtain ⟨hsm6, h⟩ := h
   replace hB := Boxes.sameS hB hsm6 (by simp)
   refine ⟨_, rfl, ?_⟩
   refine LW.rd hL rfl (Wants.free rfl) rfl (Rd.move (v := .tuple #[.pointer r19, .agg #[.int .i64 r20, .int .i64 r21, .int .i64 r22, .slice r23 r23n r23c, .slice r24 r24n r24c]]) rfl) ?_
   refine LW.rd hL rfl (Wants.free rfl) rfl (Rd.extract (v := .pointer r19) rfl rfl) ?_
   refine LW.rd hL rfl (Wants.free rfl) rfl (Rd.extract (v := .agg #[.int .i64 r20, .int .i64 r21, .int .i64 r22, .slice r23 r23n r23c, .slice r24 r24n r24c]) rfl rfl) ?_
   obtain ⟨b3, hb_b3⟩ : ∃ b3, b3 = World.size w8 := ⟨_, rfl⟩
   obtain ⟨w9, hw_w9⟩ : ∃ w9, w9 = World.alloc w8 (.cells #[.int .i64 0, .int .i64 0, .int .i64 0, .slice none 0 0, .slice none 0 0] 43) := ⟨_, rfl⟩
   refine LW.val hL rfl (Wants.free rfl) rfl (boxE hb_b3 hw_w9 (Vl.alloc (z := .agg #[.int .i64 0, .int .i64 0, .int .i64 0, .slice none 0 0, .slice none 0 0]) (by kernel_rfl))) ?_
   replace hB := Boxes.alloc (cs := [.int .i64 0, .int .i64 0, .int .i64 0, .slice none 0 0, .slice none 0 0]) (T := 43) hB hb_b3 hw_w9
   have hlo_b3 := sil_lo (Chg.refl [] w8) hb_b3
   have hc_w9 := sil_alloc (Chg.refl [] w8) hw_w9
   refine LW.rd hL rfl (Wants.free rfl) rfl (Rd.assign (v := .pointer r19) rfl) ?_
   obtain ⟨w10, hw_w10⟩ : ∃ x, x = setCells w9 (⟨b3, 0, none⟩ : Addr) 0 [.int .i64 r20, .int .i64 r21, .int .i64 r22, .slice r23 r23n r23c, .slice r24 r24n r24c] := ⟨_, rfl⟩
   refine LW.eff hL rfl (Wants.free rfl) rfl (stNE hw_w10 (Ef.stN (cs := [.int .i64 r20, .int .i64 r21, .int .i64 r22, .slice r23 r23n r23c, .slice r24 r24n r24c]) rfl rfl (by kernel_rfl) (List.forall_mem_cons.2 ⟨rfl, (List.forall_mem_cons.2 ⟨rfl, (List.forall_mem_cons.2 ⟨rfl, (List.forall_mem_cons.2 ⟨rfl, (List.forall_mem_cons.2 ⟨rfl, (List.forall_mem_nil _)⟩)⟩)⟩)⟩)⟩) (has_of (hB.at (i := 0) rfl) (by simp)) (free_of' (hB.at (i := 0) rfl)))) ?_
   replace hB : Boxes w10 [(b3, [.int .i64 r20, .int .i64 r21, .int .i64 r22, .slice r23 r23n r23c, .slice r24 r24n r24c], 43), (b1, [.int .u32 r1, .int .u32 r2, .int .u32 r3, .int .u32 r4, .int .u32 r5, .int .u32 r6, .int .u32 r7, .int .u32 r8, .int .u32 r9, .int .u32 r10, .int .u32 r11], 25)] := Boxes.store (vs := [.int .i64 r20, .int .i64 r21, .int .i64 r22, .slice r23 r23n r23c, .slice r24 r24n r24c]) (i := 0) (o := 0) hB rfl rfl rfl rfl hw_w10
   have hc_w10 := sil_new hc_w9 (sil_cN hw_w10) hlo_b3
   refine LW.nil hL rfl ?_
   refine NW.then ?_
   refine CW.seq ?_
   refine CW.region fun L hL => ?_
   refine LW.rd hL rfl (Wants.free rfl) rfl (Rd.move (v := .pointer r19) rfl) ?_
   replace h := h b3 w10 ⟨hlo_b3, lt_of_heap (hB.at (i := 0) rfl)⟩ hc_w10
   refine LW.call hL rfl (Wants.free rfl) rfl (Cl.fn (f := 15) rfl Tryz.func15 (by kernel_rfl) rfl) h (fun e w11 h_ => ?_)
   clear h
   obtain ⟨r25, rfl, h⟩ := h_
   obtain ⟨hsm7, h⟩ := h
   replace hB := Boxes.sameS hB hsm7 (by simp)
   refine ⟨_, rfl, ?_⟩
   refine LW.rd hL rfl (Wants.free rfl) rfl (Rd.assign (v := .pointer r25) rfl) ?_
   refine LW.nil hL rfl ?_
   refine NW.then ?_
   refine CW.seq ?_
   refine CW.region fun L hL => ?_
   refine LW.rd hL rfl (Wants.free rfl) rfl (Rd.move (v := .pointer r15) rfl) ?_
   refine LW.rd hL rfl (Wants.free rfl) rfl (Rd.move (v := .pointer r19) rfl) ?_
   refine LW.rd hL rfl (Wants.free rfl) rfl (Rd.move (v := .slice l1 l1n l1c) rfl) ?_
   refine LW.call hL rfl (Wants.free rfl) rfl (Cl.fn (f := 16) rfl Tryz.func16 (by kernel_rfl) rfl) h (fun e w12 h_ => ?_)
   clear h
   obtain ⟨r26, r27, rfl, h⟩ := h_
   obtain ⟨hsm8, h⟩ := h
   replace hB := Boxes.sameS hB hsm8 (by simp)
   refine ⟨_, rfl, ?_⟩
   refine LW.rd hL rfl (Wants.free rfl) rfl (Rd.move (v := .tuple #[.bool r26, .int .i64 r27]) rfl) ?_
   refine LW.rd hL rfl (Wants.free rfl) rfl (Rd.extract (v := .bool r26) rfl rfl) ?_
   refine LW.rd hL rfl (Wants.free rfl) rfl (Rd.extract (v := .int .i64 r27) rfl rfl) ?_
   refine LW.rd hL rfl (Wants.free rfl) rfl (Rd.assign (v := .bool r26) rfl) ?_
   refine LW.rd hL rfl (Wants.free rfl) rfl (Rd.assign (v := .int .i64 r27) rfl) ?_
   refine LW.nil hL rfl ?_
   refine NW.then ?_
   refine CW.seq ?_
   refine CW.region fun L hL => ?_
   refine LW.rd hL rfl (Wants.free rfl) rfl (Rd.move (v := .pointer r15) rfl) ?_
   refine LW.rd hL rfl (Wants.free rfl) rfl (Rd.move (v := .pointer r19) rfl) ?_
   refine LW.rd hL rfl (Wants.free rfl) rfl (Rd.move (v := .slice l1 l1n l1c) rfl) ?_
   refine LW.call hL rfl (Wants.free rfl) rfl (Cl.fn (f := 17) rfl Tryz.func17 (by kernel_rfl) rfl) h (fun e w13 h_ => ?_)
   clear h
   obtain ⟨r28, r28n, r28c, r29, rfl, h⟩ := h_
   obtain ⟨hsm9, h⟩ := h
   replace hB := Boxes.sameS hB hsm9 (by simp)
   refine ⟨_, rfl, ?_⟩
   refine LW.rd hL rfl (Wants.free rfl) rfl (Rd.move (v := .tuple #[.slice r28 r28n r28c, .int .i64 r29]) rfl) ?_
   refine LW.rd hL rfl (Wants.free rfl) rfl (Rd.extract (v := .slice r28 r28n r28c) rfl rfl) ?_
   refine LW.rd hL rfl (Wants.free rfl) rfl (Rd.extract (v := .int .i64 r29) rfl rfl) ?_
   refine LW.rd hL rfl (Wants.free rfl) rfl (Rd.assign (v := .slice r28 r28n r28c) rfl) ?_
   refine LW.rd hL rfl (Wants.free rfl) rfl (Rd.assign (v := .int .i64 r29) rfl) ?_
   refine LW.nil hL rfl ?_
   refine NW.then ?_
   refine CW.seq ?_
   refine CW.seq ?_
   refine CW.region fun L hL => ?_
   refine LW.rd hL rfl (Wants.free rfl) rfl (Rd.ldN (cs := [.int .i64 r20, .int .i64 r21, .int .i64 r22, .slice r23 r23n r23c, .slice r24 r24n r24c]) rfl (by kernel_rfl) (by kernel_rfl) (cellsS (box_cells (hB.at (i := 0) rfl) rfl))) ?_
   refine LW.rd hL rfl (Wants.free rfl) rfl (Rd.move (v := .slice l1 l1n l1c) rfl) ?_
   refine LW.call hL rfl (Wants.free rfl) rfl (Cl.fn (f := 18) rfl Tryz.func18 (by kernel_rfl) rfl) h (fun e w14 h_ => ?_)
   clear h
   obtain ⟨r30, rfl, h⟩ := h_
   obtain ⟨hsm10, h⟩ := h
   replace hB := Boxes.sameS hB hsm10 (by simp)
   refine ⟨_, rfl, ?_⟩
   refine LW.rd hL rfl (Wants.free rfl) rfl (Rd.un (v := .bool (!r30)) rfl (fun _ => by kernel_rfl)) ?_
   refine LW.nil hL rfl ?_
   refine NW.then ?_
   refine CW.cond rfl (fun hb6 => ?_) (fun hb6 => ?_)
   ·replace h := h.1 hb6
    refine CW.seq ?_
    refine CW.region fun L hL => ?_
    refine LW.rd hL rfl (Wants.free rfl) rfl (Rd.move (v := .bool r26) rfl) ?_
    refine LW.rd hL rfl (Wants.free rfl) rfl (Rd.un (v := .bool (!r26)) rfl (fun _ => by kernel_rfl)) ?_
    refine LW.rd hL rfl (Wants.free rfl) rfl (Rd.move (v := .bool (!r26)) rfl) ?_
    suffices K3 : L 6 [(2, .slice l1 l1n l1c), (3, .pointer (some (⟨b1, 0, none⟩ : Addr))), (6, .bool false), (7, .pointer r15), (8, .int .i64 r16), (9, .pointer r19), (10, .pointer (some (⟨b3, 0, none⟩ : Addr))), (11, .pointer r25), (12, .bool r26), (13, .int .i64 r27), (14, .slice r28 r28n r28c), (15, .int .i64 r29), (67, .bool (!r26 && r27 == 2))] w14 by
     rcases Bool.eq_false_or_eq_true (!r26) with hb8 | hb8
     ·skip
      refine LW.rd hL rfl (Wants.on rfl rfl rfl rfl rfl hb8) rfl (Rd.move (v := .int .i64 r27) rfl) ?_
      refine LW.rd hL rfl (Wants.on rfl rfl rfl rfl rfl hb8) rfl (Rd.bin (v := .bool (r27 == 2)) rfl rfl (fun w => by kernel_rfl)) ?_
      refine LW.rd hL rfl (Wants.free rfl) rfl (Rd.pickT rfl hb8 rfl) ?_
      exact LW.sub hL (by exact ⟨rfl, rfl, rfl, rfl, rfl, rfl, rfl, rfl, rfl, rfl, rfl, rfl, (by rw [hb8]; rfl), trivial⟩) K3
     ·skip
      refine LW.skip hL rfl (Skips.on rfl rfl rfl rfl rfl hb8) rfl ?_
      refine LW.skip hL rfl (Skips.on rfl rfl rfl rfl rfl hb8) rfl ?_
      refine LW.rd hL rfl (Wants.free rfl) rfl (Rd.pickF rfl hb8 rfl) ?_
      exact LW.sub hL (by exact ⟨rfl, rfl, rfl, rfl, rfl, rfl, rfl, rfl, rfl, rfl, rfl, rfl, (by rw [hb8]; rfl), trivial⟩) K3
    refine LW.rd hL rfl (Wants.free rfl) rfl (Rd.move (v := .bool (!r26 && r27 == 2)) rfl) ?_
    suffices K4 : L 11 [(2, .slice l1 l1n l1c), (3, .pointer (some (⟨b1, 0, none⟩ : Addr))), (6, .bool false), (7, .pointer r15), (8, .int .i64 r16), (9, .pointer r19), (10, .pointer (some (⟨b3, 0, none⟩ : Addr))), (11, .pointer r25), (12, .bool r26), (13, .int .i64 r27), (14, .slice r28 r28n r28c), (15, .int .i64 r29), (72, .bool ((!r26 && r27 == 2) && (r28n : Int) == 0))] w14 by
     rcases Bool.eq_false_or_eq_true (!r26 && r27 == 2) with hb10 | hb10
     ·skip
      refine LW.rd hL rfl (Wants.on rfl rfl rfl rfl rfl hb10) rfl (Rd.move (v := .slice r28 r28n r28c) rfl) ?_
      refine LW.rd hL rfl (Wants.on rfl rfl rfl rfl rfl hb10) rfl (Rd.builtin (v := .int .i64 (r28n : Int)) rfl (fun _ _ => by kernel_rfl)) ?_
      refine LW.rd hL rfl (Wants.on rfl rfl rfl rfl rfl hb10) rfl (Rd.bin (v := .bool ((r28n : Int) == 0)) rfl rfl (fun w => by kernel_rfl)) ?_
      refine LW.rd hL rfl (Wants.free rfl) rfl (Rd.pickT rfl hb10 rfl) ?_
      exact LW.sub hL (by exact ⟨rfl, rfl, rfl, rfl, rfl, rfl, rfl, rfl, rfl, rfl, rfl, rfl, (by rw [hb10]; rfl), trivial⟩) K4
     ·skip
      refine LW.skip hL rfl (Skips.on rfl rfl rfl rfl rfl hb10) rfl ?_
      refine LW.skip hL rfl (Skips.on rfl rfl rfl rfl rfl hb10) rfl ?_
      refine LW.skip hL rfl (Skips.on rfl rfl rfl rfl rfl hb10) rfl ?_
      refine LW.rd hL rfl (Wants.free rfl) rfl (Rd.pickF rfl hb10 rfl) ?_
      exact LW.sub hL (by exact ⟨rfl, rfl, rfl, rfl, rfl, rfl, rfl, rfl, rfl, rfl, rfl, rfl, (by rw [hb10]; rfl), trivial⟩) K4
    refine LW.rd hL rfl (Wants.free rfl) rfl (Rd.move (v := .bool ((!r26 && r27 == 2) && (r28n : Int) == 0)) rfl) ?_
    suffices K5 : L 15 [(2, .slice l1 l1n l1c), (3, .pointer (some (⟨b1, 0, none⟩ : Addr))), (6, .bool false), (7, .pointer r15), (8, .int .i64 r16), (9, .pointer r19), (10, .pointer (some (⟨b3, 0, none⟩ : Addr))), (11, .pointer r25), (12, .bool r26), (13, .int .i64 r27), (14, .slice r28 r28n r28c), (15, .int .i64 r29), (76, .bool (((!r26 && r27 == 2) && (r28n : Int) == 0) && r29 == 2))] w14 by
     rcases Bool.eq_false_or_eq_true ((!r26 && r27 == 2) && (r28n : Int) == 0) with hb12 | hb12
     ·skip
      refine LW.rd hL rfl (Wants.on rfl rfl rfl rfl rfl hb12) rfl (Rd.move (v := .int .i64 r29) rfl) ?_
      refine LW.rd hL rfl (Wants.on rfl rfl rfl rfl rfl hb12) rfl (Rd.bin (v := .bool (r29 == 2)) rfl rfl (fun w => by kernel_rfl)) ?_
      refine LW.rd hL rfl (Wants.free rfl) rfl (Rd.pickT rfl hb12 rfl) ?_
      exact LW.sub hL (by exact ⟨rfl, rfl, rfl, rfl, rfl, rfl, rfl, rfl, rfl, rfl, rfl, rfl, (by rw [hb12]; rfl), trivial⟩) K5
     ·skip
      refine LW.skip hL rfl (Skips.on rfl rfl rfl rfl rfl hb12) rfl ?_
      refine LW.skip hL rfl (Skips.on rfl rfl rfl rfl rfl hb12) rfl ?_
      refine LW.rd hL rfl (Wants.free rfl) rfl (Rd.pickF rfl hb12 rfl) ?_
      exact LW.sub hL (by exact ⟨rfl, rfl, rfl, rfl, rfl, rfl, rfl, rfl, rfl, rfl, rfl, rfl, (by rw [hb12]; rfl), trivial⟩) K5
    refine LW.rd hL rfl (Wants.free rfl) rfl (Rd.move (v := .bool (((!r26 && r27 == 2) && (r28n : Int) == 0) && r29 == 2)) rfl) ?_
    obtain ⟨J2, hJ2, h1_J2, h0_J2⟩ := h
    suffices K6 : ∀ (b4 : Bool) (w15 : World), Boxes w15 [(b3, [.int .i64 r20, .int .i64 r21, .int .i64 r22, .slice r23 r23n r23c, .slice r24 r24n r24c], 43), (b1, [.int .u32 r1, .int .u32 r2, .int .u32 r3, .int .u32 r4, .int .u32 r5, .int .u32 r6, .int .u32 r7, .int .u32 r8, .int .u32 r9, .int .u32 r10, .int .u32 r11], 25)] → J2 b4 w15 → L 18 [(2, .slice l1 l1n l1c), (3, .pointer (some (⟨b1, 0, none⟩ : Addr))), (6, .bool false), (7, .pointer r15), (8, .int .i64 r16), (9, .pointer r19), (10, .pointer (some (⟨b3, 0, none⟩ : Addr))), (11, .pointer r25), (12, .bool r26), (13, .int .i64 r27), (14, .slice r28 r28n r28c), (15, .int .i64 r29), (79, .bool b4)] w15 by
     rcases Bool.eq_false_or_eq_true (((!r26 && r27 == 2) && (r28n : Int) == 0) && r29 == 2) with hb13 | hb13
     ·have h := h1_J2 hb13
      refine LW.call hL rfl (Wants.on rfl rfl rfl rfl rfl hb13) rfl (Cl.fn (f := 11) rfl Tryz.func11 (by kernel_rfl) rfl) h (fun e w16 h_ => ?_)
      clear h
      obtain ⟨r31, rfl, h⟩ := h_
      obtain ⟨hsm11, h⟩ := h
      replace hB := Boxes.sameS hB hsm11 (by simp)
      refine ⟨_, rfl, ?_⟩
      refine LW.rd hL rfl (Wants.free rfl) rfl (Rd.pickT rfl hb13 rfl) ?_
      exact LW.sub hL (by exact ⟨rfl, rfl, rfl, rfl, rfl, rfl, rfl, rfl, rfl, rfl, rfl, rfl, rfl, trivial⟩) (K6 r31 w16 (by exact hB) h)
     ·have h := h0_J2 hb13
      refine LW.skip hL rfl (Skips.on rfl rfl rfl rfl rfl hb13) rfl ?_
      refine LW.rd hL rfl (Wants.free rfl) rfl (Rd.pickF rfl hb13 rfl) ?_
      exact LW.sub hL (by exact ⟨rfl, rfl, rfl, rfl, rfl, rfl, rfl, rfl, rfl, rfl, rfl, rfl, rfl, trivial⟩) (K6 false w14 (by exact hB) h)
    intro b4 w15 hB h_
    have h := hJ2 b4 w15 h_; clear h_
    refine LW.rd hL rfl (Wants.free rfl) rfl (Rd.assign (v := .bool b4) rfl) ?_
    refine LW.nil hL rfl ?_
    refine NW.then ?_
    refine CW.ret ?_
    refine RW.then ?_
    exact res1 rfl rfl ⟨b4, rfl, h⟩
   ·replace h := h.2 hb6
    refine CW.skip ?_
    refine NW.then ?_
    refine CW.seq ?_
    obtain ⟨w17, hw_w17⟩ : ∃ x, x = World.drew w14 := ⟨_, rfl⟩
    have hc_w17 := sil_drew (Chg.refl [] w14) hw_w17
    replace hB := hB.drew hw_w17
    refine CW.drawn (fun w => Boxes w [(b1, [.int .u32 r1, .int .u32 r2, .int .u32 r3, .int .u32 r4, .int .u32 r5, .int .u32 r6, .int .u32 r7, .int .u32 r8, .int .u32 r9, .int .u32 r10, .int .u32 r11], 25), (b3, [.int .i64 r20, .int .i64 r21, .int .i64 r22, .slice r23 r23n r23c, .slice r24 r24n r24c], 43)]) 38 (by kernel_rfl) fun H hH => ?_
    rw [← hw_w17]
    have hS1 : Boxes w17 [(b1, [.int .u32 r1, .int .u32 r2, .int .u32 r3, .int .u32 r4, .int .u32 r5, .int .u32 r6, .int .u32 r7, .int .u32 r8, .int .u32 r9, .int .u32 r10, .int .u32 r11], 25), (b3, [.int .i64 r20, .int .i64 r21, .int .i64 r22, .slice r23 r23n r23c, .slice r24 r24n r24c], 43)] := (hB.sel [1, 0] (by decide) rfl)
    refine HW.pure (i := 0) hH rfl (by kernel_rfl) (Wants.free rfl) rfl (fun _ => hS1) (Rd.move (v := .int .i64 r16) rfl) ?_
    refine HW.pure (i := 1) hH rfl (by kernel_rfl) (Wants.free rfl) rfl (fun _ => hS1) (Rd.bin (v := .bool (r16 == 0)) rfl rfl (fun w => by kernel_rfl)) ?_
    refine HW.pure (i := 2) hH rfl (by kernel_rfl) (Wants.free rfl) rfl (fun _ => hS1) (Rd.move (v := .bool (r16 == 0)) rfl) ?_
    suffices K7 : H 35 #[true, true, true, true, true, true, false, false, false, false, false, false, false, false, false, false, false, false, false, false, false, false, false, false, false, false, false, false, false, false, false, false, false, false, false, false, false, false, false, false, false] [(2, .slice l1 l1n l1c), (3, .pointer (some (⟨b1, 0, none⟩ : Addr))), (6, .bool false), (7, .pointer r15), (9, .pointer r19), (10, .pointer (some (⟨b3, 0, none⟩ : Addr))), (11, .pointer r25), (12, .bool r26), (14, .slice r28 r28n r28c), (15, .int .i64 r29), (85, .bool (r16 == 0 && r27 == 0))] w17 by
     rcases Bool.eq_false_or_eq_true (r16 == 0) with hb15 | hb15
     ·skip
      refine HW.pure (i := 3) hH rfl (by kernel_rfl) (Wants.on rfl rfl rfl rfl rfl hb15) rfl (fun _ => hS1) (Rd.move (v := .int .i64 r27) rfl) ?_
      refine HW.pure (i := 4) hH rfl (by kernel_rfl) (Wants.on rfl rfl rfl rfl rfl hb15) rfl (fun _ => hS1) (Rd.bin (v := .bool (r27 == 0)) rfl rfl (fun w => by kernel_rfl)) ?_
      refine HW.pure (i := 5) hH rfl (by kernel_rfl) (Wants.free rfl) rfl (fun _ => hS1) (Rd.pickT rfl hb15 rfl) ?_
      exact HW.sub hH (by exact ⟨rfl, rfl, rfl, rfl, rfl, rfl, rfl, rfl, rfl, rfl, (by rw [hb15]; rfl), trivial⟩) K7
     ·skip
      refine HW.skip (i := 3) hH rfl (by kernel_rfl) (Skips.on rfl rfl rfl rfl rfl hb15) rfl (fun _ => hS1) ?_
      refine HW.skip (i := 4) hH rfl (by kernel_rfl) (Skips.on rfl rfl rfl rfl rfl hb15) rfl (fun _ => hS1) ?_
      refine HW.pure (i := 5) hH rfl (by kernel_rfl) (Wants.free rfl) rfl (fun _ => hS1) (Rd.pickF rfl hb15 rfl) ?_
      exact HW.sub hH (by exact ⟨rfl, rfl, rfl, rfl, rfl, rfl, rfl, rfl, rfl, rfl, (by rw [hb15]; rfl), trivial⟩) K7
    refine HW.pure (i := 6) hH rfl (by kernel_rfl) (Wants.free rfl) rfl (fun _ => hS1) (Rd.move (v := .bool (r16 == 0 && r27 == 0)) rfl) ?_
    suffices K8 : H 31 #[true, true, true, true, true, true, true, true, true, true, false, false, false, false, false, false, false, false, false, false, false, false, false, false, false, false, false, false, false, false, false, false, false, false, false, false, false, false, false, false, false] [(2, .slice l1 l1n l1c), (3, .pointer (some (⟨b1, 0, none⟩ : Addr))), (6, .bool false), (7, .pointer r15), (9, .pointer r19), (10, .pointer (some (⟨b3, 0, none⟩ : Addr))), (11, .pointer r25), (12, .bool r26), (14, .slice r28 r28n r28c), (89, .bool ((r16 == 0 && r27 == 0) && r29 == 0))] w17 by
     rcases Bool.eq_false_or_eq_true (r16 == 0 && r27 == 0) with hb17 | hb17
     ·skip
      refine HW.pure (i := 7) hH rfl (by kernel_rfl) (Wants.on rfl rfl rfl rfl rfl hb17) rfl (fun _ => hS1) (Rd.move (v := .int .i64 r29) rfl) ?_
      refine HW.pure (i := 8) hH rfl (by kernel_rfl) (Wants.on rfl rfl rfl rfl rfl hb17) rfl (fun _ => hS1) (Rd.bin (v := .bool (r29 == 0)) rfl rfl (fun w => by kernel_rfl)) ?_
      refine HW.pure (i := 9) hH rfl (by kernel_rfl) (Wants.free rfl) rfl (fun _ => hS1) (Rd.pickT rfl hb17 rfl) ?_
      exact HW.sub hH (by exact ⟨rfl, rfl, rfl, rfl, rfl, rfl, rfl, rfl, rfl, (by rw [hb17]; rfl), trivial⟩) K8
     ·skip
      refine HW.skip (i := 7) hH rfl (by kernel_rfl) (Skips.on rfl rfl rfl rfl rfl hb17) rfl (fun _ => hS1) ?_
      refine HW.skip (i := 8) hH rfl (by kernel_rfl) (Skips.on rfl rfl rfl rfl rfl hb17) rfl (fun _ => hS1) ?_
      refine HW.pure (i := 9) hH rfl (by kernel_rfl) (Wants.free rfl) rfl (fun _ => hS1) (Rd.pickF rfl hb17 rfl) ?_
      exact HW.sub hH (by exact ⟨rfl, rfl, rfl, rfl, rfl, rfl, rfl, rfl, rfl, (by rw [hb17]; rfl), trivial⟩) K8
    refine HW.pure (i := 10) hH rfl (by kernel_rfl) (Wants.free rfl) rfl (fun _ => hS1) (Rd.move (v := .bool ((r16 == 0 && r27 == 0) && r29 == 0)) rfl) ?_
    replace h := h  w17  hc_w17
    obtain ⟨J3, hJ3, h1_J3, h0_J3⟩ := h
    suffices K9 : ∀ (b5 : Bool) (w18 : World), (Boxes w18 [(b1, [.int .u32 r1, .int .u32 r2, .int .u32 r3, .int .u32 r4, .int .u32 r5, .int .u32 r6, .int .u32 r7, .int .u32 r8, .int .u32 r9, .int .u32 r10, .int .u32 r11], 25), (b3, [.int .i64 r20, .int .i64 r21, .int .i64 r22, .slice r23 r23n r23c, .slice r24 r24n r24c], 43)]) → Boxes w18 [(b3, [.int .i64 r20, .int .i64 r21, .int .i64 r22, .slice r23 r23n r23c, .slice r24 r24n r24c], 43), (b1, [.int .u32 r1, .int .u32 r2, .int .u32 r3, .int .u32 r4, .int .u32 r5, .int .u32 r6, .int .u32 r7, .int .u32 r8, .int .u32 r9, .int .u32 r10, .int .u32 r11], 25)] → J3 b5 w18 → H 23 #[true, true, true, true, true, true, true, true, true, true, true, true, true, true, true, true, true, true, false, false, false, false, false, false, false, false, false, false, false, false, false, false, false, false, false, false, false, false, false, false, false] [(2, .slice l1 l1n l1c), (3, .pointer (some (⟨b1, 0, none⟩ : Addr))), (6, .bool false), (7, .pointer r15), (9, .pointer r19), (10, .pointer (some (⟨b3, 0, none⟩ : Addr))), (11, .pointer r25), (14, .slice r28 r28n r28c), (97, .bool b5)] w18 by
     rcases Bool.eq_false_or_eq_true ((r16 == 0 && r27 == 0) && r29 == 0) with hb18 | hb18
     ·have h := h1_J3 hb18
      refine HW.pure (i := 11) hH rfl (by kernel_rfl) (Wants.on rfl rfl rfl rfl rfl hb18) rfl (fun _ => hS1) (Rd.move (v := .bool r26) rfl) ?_
      refine HW.take (i := 12) hH rfl (by kernel_rfl) (by kernel_rfl) (Wants.on rfl rfl rfl rfl rfl hb18) rfl (fun _ => hS1) (Rd.ldN (cs := [.int .u32 r1, .int .u32 r2, .int .u32 r3, .int .u32 r4, .int .u32 r5, .int .u32 r6, .int .u32 r7, .int .u32 r8, .int .u32 r9, .int .u32 r10, .int .u32 r11]) rfl (by kernel_rfl) (by kernel_rfl) (fun w h => cellsAt_get (box_cells (Boxes.at (i := 0) h rfl) rfl))) ?_
      refine HW.take (i := 13) hH rfl (by kernel_rfl) (by kernel_rfl) (Wants.on rfl rfl rfl rfl rfl hb18) rfl (fun _ => hS1) (Rd.ldN (cs := [.int .i64 r20, .int .i64 r21, .int .i64 r22, .slice r23 r23n r23c, .slice r24 r24n r24c]) rfl (by kernel_rfl) (by kernel_rfl) (fun w h => cellsAt_get (box_cells (Boxes.at (i := 1) h rfl) rfl))) ?_
      refine HW.pure (i := 14) hH rfl (by kernel_rfl) (Wants.on rfl rfl rfl rfl rfl hb18) rfl (fun _ => hS1) (Rd.move (v := .slice l1 l1n l1c) rfl) ?_
      refine HW.call (i := 15) hH (by kernel_rfl) rfl (Wants.on rfl rfl rfl rfl rfl hb18) rfl (Cl.fn (f := 19) rfl Tryz.func19 (by kernel_rfl) rfl) h (fun e w19 h_ => ?_)
      clear h
      obtain ⟨r32, rfl, h⟩ := h_
      obtain ⟨hsm12, h⟩ := h
      replace hB := Boxes.sameS hB hsm12 (by simp)
      have hS2 : Boxes w19 [(b1, [.int .u32 r1, .int .u32 r2, .int .u32 r3, .int .u32 r4, .int .u32 r5, .int .u32 r6, .int .u32 r7, .int .u32 r8, .int .u32 r9, .int .u32 r10, .int .u32 r11], 25), (b3, [.int .i64 r20, .int .i64 r21, .int .i64 r22, .slice r23 r23n r23c, .slice r24 r24n r24c], 43)] := (hB.sel [1, 0] (by decide) rfl)
      refine ⟨_, rfl, (fun _ => hS2), ?_⟩
      refine HW.pure (i := 16) hH rfl (by kernel_rfl) (Wants.on rfl rfl rfl rfl rfl hb18) rfl (fun _ => hS2) (Rd.bin (v := .bool (r26 == r32)) rfl rfl (fun w => by kernel_rfl)) ?_
      refine HW.pure (i := 17) hH rfl (by kernel_rfl) (Wants.free rfl) rfl (fun _ => hS2) (Rd.pickT rfl hb18 rfl) ?_
      exact HW.sub hH (by exact ⟨rfl, rfl, rfl, rfl, rfl, rfl, rfl, rfl, rfl, trivial⟩) (K9 (r26 == r32) w19 hS2 (by exact hB) h)
     ·have h := h0_J3 hb18
      refine HW.skip (i := 11) hH rfl (by kernel_rfl) (Skips.on rfl rfl rfl rfl rfl hb18) rfl (fun _ => hS1) ?_
      refine HW.skip (i := 12) hH rfl (by kernel_rfl) (Skips.on rfl rfl rfl rfl rfl hb18) rfl (fun _ => hS1) ?_
      refine HW.skip (i := 13) hH rfl (by kernel_rfl) (Skips.on rfl rfl rfl rfl rfl hb18) rfl (fun _ => hS1) ?_
      refine HW.skip (i := 14) hH rfl (by kernel_rfl) (Skips.on rfl rfl rfl rfl rfl hb18) rfl (fun _ => hS1) ?_
      refine HW.skip (i := 15) hH rfl (by kernel_rfl) (Skips.on rfl rfl rfl rfl rfl hb18) rfl (fun _ => hS1) ?_
      refine HW.skip (i := 16) hH rfl (by kernel_rfl) (Skips.on rfl rfl rfl rfl rfl hb18) rfl (fun _ => hS1) ?_
      refine HW.pure (i := 17) hH rfl (by kernel_rfl) (Wants.free rfl) rfl (fun _ => hS1) (Rd.pickF rfl hb18 rfl) ?_
      exact HW.sub hH (by exact ⟨rfl, rfl, rfl, rfl, rfl, rfl, rfl, rfl, rfl, trivial⟩) (K9 false w17 hS1 (by exact hB) h)
    clear hB
    intro b5 w18 hS3 hB h_
    have h := hJ3 b5 w18 h_; clear h_
    refine HW.pure (i := 18) hH rfl (by kernel_rfl) (Wants.free rfl) rfl (fun _ => hS3) (Rd.move (v := .bool b5) rfl) ?_
    obtain ⟨J4, hJ4, h1_J4, h0_J4⟩ := h
    suffices K10 : ∀ (b6 : Bool) (w20 : World), (Boxes w20 [(b1, [.int .u32 r1, .int .u32 r2, .int .u32 r3, .int .u32 r4, .int .u32 r5, .int .u32 r6, .int .u32 r7, .int .u32 r8, .int .u32 r9, .int .u32 r10, .int .u32 r11], 25), (b3, [.int .i64 r20, .int .i64 r21, .int .i64 r22, .slice r23 r23n r23c, .slice r24 r24n r24c], 43)]) → Boxes w20 [(b3, [.int .i64 r20, .int .i64 r21, .int .i64 r22, .slice r23 r23n r23c, .slice r24 r24n r24c], 43), (b1, [.int .u32 r1, .int .u32 r2, .int .u32 r3, .int .u32 r4, .int .u32 r5, .int .u32 r6, .int .u32 r7, .int .u32 r8, .int .u32 r9, .int .u32 r10, .int .u32 r11], 25)] → J4 b6 w20 → H 15 #[true, true, true, true, true, true, true, true, true, true, true, true, true, true, true, true, true, true, true, true, true, true, true, true, true, true, false, false, false, false, false, false, false, false, false, false, false, false, false, false, false] [(3, .pointer (some (⟨b1, 0, none⟩ : Addr))), (6, .bool false), (7, .pointer r15), (9, .pointer r19), (11, .pointer r25), (105, .bool b6)] w20 by
     rcases Bool.eq_false_or_eq_true b5 with hb19 | hb19
     ·have h := h1_J4 hb19
      refine HW.pure (i := 19) hH rfl (by kernel_rfl) (Wants.on rfl rfl rfl rfl rfl hb19) rfl (fun _ => hS3) (Rd.move (v := .slice r28 r28n r28c) rfl) ?_
      refine HW.take (i := 20) hH rfl (by kernel_rfl) (by kernel_rfl) (Wants.on rfl rfl rfl rfl rfl hb19) rfl (fun _ => hS3) (Rd.ldN (cs := [.int .u32 r1, .int .u32 r2, .int .u32 r3, .int .u32 r4, .int .u32 r5, .int .u32 r6, .int .u32 r7, .int .u32 r8, .int .u32 r9, .int .u32 r10, .int .u32 r11]) rfl (by kernel_rfl) (by kernel_rfl) (fun w h => cellsAt_get (box_cells (Boxes.at (i := 0) h rfl) rfl))) ?_
      refine HW.take (i := 21) hH rfl (by kernel_rfl) (by kernel_rfl) (Wants.on rfl rfl rfl rfl rfl hb19) rfl (fun _ => hS3) (Rd.ldN (cs := [.int .i64 r20, .int .i64 r21, .int .i64 r22, .slice r23 r23n r23c, .slice r24 r24n r24c]) rfl (by kernel_rfl) (by kernel_rfl) (fun w h => cellsAt_get (box_cells (Boxes.at (i := 1) h rfl) rfl))) ?_
      refine HW.pure (i := 22) hH rfl (by kernel_rfl) (Wants.on rfl rfl rfl rfl rfl hb19) rfl (fun _ => hS3) (Rd.move (v := .slice l1 l1n l1c) rfl) ?_
      refine HW.call (i := 23) hH (by kernel_rfl) rfl (Wants.on rfl rfl rfl rfl rfl hb19) rfl (Cl.fn (f := 21) rfl Tryz.func21 (by kernel_rfl) rfl) h (fun e w21 h_ => ?_)
      clear h
      obtain ⟨r33, r33n, r33c, rfl, h⟩ := h_
      obtain ⟨hsm13, h⟩ := h
      replace hB := Boxes.sameS hB hsm13 (by simp)
      have hS4 : Boxes w21 [(b1, [.int .u32 r1, .int .u32 r2, .int .u32 r3, .int .u32 r4, .int .u32 r5, .int .u32 r6, .int .u32 r7, .int .u32 r8, .int .u32 r9, .int .u32 r10, .int .u32 r11], 25), (b3, [.int .i64 r20, .int .i64 r21, .int .i64 r22, .slice r23 r23n r23c, .slice r24 r24n r24c], 43)] := (hB.sel [1, 0] (by decide) rfl)
      refine ⟨_, rfl, (fun _ => hS4), ?_⟩
      refine HW.call (i := 24) hH (by kernel_rfl) rfl (Wants.on rfl rfl rfl rfl rfl hb19) rfl (Cl.fn (f := 20) rfl Tryz.func20 (by kernel_rfl) rfl) h (fun e w22 h_ => ?_)
      clear h
      obtain ⟨r34, rfl, h⟩ := h_
      obtain ⟨hsm14, h⟩ := h
      replace hB := Boxes.sameS hB hsm14 (by simp)
      have hS5 : Boxes w22 [(b1, [.int .u32 r1, .int .u32 r2, .int .u32 r3, .int .u32 r4, .int .u32 r5, .int .u32 r6, .int .u32 r7, .int .u32 r8, .int .u32 r9, .int .u32 r10, .int .u32 r11], 25), (b3, [.int .i64 r20, .int .i64 r21, .int .i64 r22, .slice r23 r23n r23c, .slice r24 r24n r24c], 43)] := (hB.sel [1, 0] (by decide) rfl)
      refine ⟨_, rfl, (fun _ => hS5), ?_⟩
      refine HW.pure (i := 25) hH rfl (by kernel_rfl) (Wants.free rfl) rfl (fun _ => hS5) (Rd.pickT rfl hb19 rfl) ?_
      exact HW.sub hH (by exact ⟨rfl, rfl, rfl, rfl, rfl, rfl, trivial⟩) (K10 r34 w22 hS5 (by exact hB) h)
     ·have h := h0_J4 hb19
      refine HW.skip (i := 19) hH rfl (by kernel_rfl) (Skips.on rfl rfl rfl rfl rfl hb19) rfl (fun _ => hS3) ?_
      refine HW.skip (i := 20) hH rfl (by kernel_rfl) (Skips.on rfl rfl rfl rfl rfl hb19) rfl (fun _ => hS3) ?_
      refine HW.skip (i := 21) hH rfl (by kernel_rfl) (Skips.on rfl rfl rfl rfl rfl hb19) rfl (fun _ => hS3) ?_
      refine HW.skip (i := 22) hH rfl (by kernel_rfl) (Skips.on rfl rfl rfl rfl rfl hb19) rfl (fun _ => hS3) ?_
      refine HW.skip (i := 23) hH rfl (by kernel_rfl) (Skips.on rfl rfl rfl rfl rfl hb19) rfl (fun _ => hS3) ?_
      refine HW.skip (i := 24) hH rfl (by kernel_rfl) (Skips.on rfl rfl rfl rfl rfl hb19) rfl (fun _ => hS3) ?_
      refine HW.pure (i := 25) hH rfl (by kernel_rfl) (Wants.free rfl) rfl (fun _ => hS3) (Rd.pickF rfl hb19 rfl) ?_
      exact HW.sub hH (by exact ⟨rfl, rfl, rfl, rfl, rfl, rfl, trivial⟩) (K10 false w18 hS3 (by exact hB) h)
    clear hB
    intro b6 w20 hS6 hB h_
    have h := hJ4 b6 w20 h_; clear h_
    refine HW.pure (i := 26) hH rfl (by kernel_rfl) (Wants.free rfl) rfl (fun _ => hS6) (Rd.move (v := .bool b6) rfl) ?_
    obtain ⟨J5, hJ5, h1_J5, h0_J5⟩ := h
    suffices K11 : ∀ (b7 : Bool) (w23 : World), (Boxes w23 [(b1, [.int .u32 r1, .int .u32 r2, .int .u32 r3, .int .u32 r4, .int .u32 r5, .int .u32 r6, .int .u32 r7, .int .u32 r8, .int .u32 r9, .int .u32 r10, .int .u32 r11], 25), (b3, [.int .i64 r20, .int .i64 r21, .int .i64 r22, .slice r23 r23n r23c, .slice r24 r24n r24c], 43)]) → Boxes w23 [(b3, [.int .i64 r20, .int .i64 r21, .int .i64 r22, .slice r23 r23n r23c, .slice r24 r24n r24c], 43), (b1, [.int .u32 r1, .int .u32 r2, .int .u32 r3, .int .u32 r4, .int .u32 r5, .int .u32 r6, .int .u32 r7, .int .u32 r8, .int .u32 r9, .int .u32 r10, .int .u32 r11], 25)] → J5 b7 w23 → H 9 #[true, true, true, true, true, true, true, true, true, true, true, true, true, true, true, true, true, true, true, true, true, true, true, true, true, true, true, true, true, true, true, true, false, false, false, false, false, false, false, false, false] [(6, .bool false), (9, .pointer r19), (11, .pointer r25), (111, .bool b7)] w23 by
     rcases Bool.eq_false_or_eq_true b6 with hb20 | hb20
     ·have h := h1_J5 hb20
      refine HW.pure (i := 27) hH rfl (by kernel_rfl) (Wants.on rfl rfl rfl rfl rfl hb20) rfl (fun _ => hS6) (Rd.move (v := .pointer r15) rfl) ?_
      refine HW.take (i := 29) hH rfl (by kernel_rfl) (by kernel_rfl) (Wants.on rfl rfl rfl rfl rfl hb20) rfl (fun _ => hS6) (Rd.ldN (cs := [.int .u32 r1, .int .u32 r2, .int .u32 r3, .int .u32 r4, .int .u32 r5, .int .u32 r6, .int .u32 r7, .int .u32 r8, .int .u32 r9, .int .u32 r10, .int .u32 r11]) rfl (by kernel_rfl) (by kernel_rfl) (fun w h => cellsAt_get (box_cells (Boxes.at (i := 0) h rfl) rfl))) ?_
      refine HW.call (i := 28) hH (by kernel_rfl) rfl (Wants.on rfl rfl rfl rfl rfl hb20) rfl (Cl.fn (f := 22) rfl Tryz.func22 (by kernel_rfl) rfl) h (fun e w24 h_ => ?_)
      clear h
      obtain ⟨r35, r36, r37, r38, r39, r40, r41, r42, r43, r44, r45, rfl, h⟩ := h_
      obtain ⟨hsm15, h⟩ := h
      replace hB := Boxes.sameS hB hsm15 (by simp)
      have hS7 : Boxes w24 [(b1, [.int .u32 r1, .int .u32 r2, .int .u32 r3, .int .u32 r4, .int .u32 r5, .int .u32 r6, .int .u32 r7, .int .u32 r8, .int .u32 r9, .int .u32 r10, .int .u32 r11], 25), (b3, [.int .i64 r20, .int .i64 r21, .int .i64 r22, .slice r23 r23n r23c, .slice r24 r24n r24c], 43)] := (hB.sel [1, 0] (by decide) rfl)
      refine ⟨_, rfl, (fun _ => hS7), ?_⟩
      obtain ⟨t1, hx1, h⟩ := h
      refine HW.pure (i := 30) hH rfl (by kernel_rfl) (Wants.on rfl rfl rfl rfl rfl hb20) rfl (fun _ => hS7) (Rd.bin (v := .bool t1) rfl rfl hx1) ?_
      refine HW.pure (i := 31) hH rfl (by kernel_rfl) (Wants.free rfl) rfl (fun _ => hS7) (Rd.pickT rfl hb20 rfl) ?_
      exact HW.sub hH (by exact ⟨rfl, rfl, rfl, rfl, trivial⟩) (K11 t1 w24 hS7 (by exact hB) h)
     ·have h := h0_J5 hb20
      refine HW.skip (i := 27) hH rfl (by kernel_rfl) (Skips.on rfl rfl rfl rfl rfl hb20) rfl (fun _ => hS6) ?_
      refine HW.skip (i := 28) hH rfl (by kernel_rfl) (Skips.on rfl rfl rfl rfl rfl hb20) rfl (fun _ => hS6) ?_
      refine HW.skip (i := 29) hH rfl (by kernel_rfl) (Skips.on rfl rfl rfl rfl rfl hb20) rfl (fun _ => hS6) ?_
      refine HW.skip (i := 30) hH rfl (by kernel_rfl) (Skips.on rfl rfl rfl rfl rfl hb20) rfl (fun _ => hS6) ?_
      refine HW.pure (i := 31) hH rfl (by kernel_rfl) (Wants.free rfl) rfl (fun _ => hS6) (Rd.pickF rfl hb20 rfl) ?_
      exact HW.sub hH (by exact ⟨rfl, rfl, rfl, rfl, trivial⟩) (K11 false w20 hS6 (by exact hB) h)
    clear hB
    intro b7 w23 hS8 hB h_
    have h := hJ5 b7 w23 h_; clear h_
    refine HW.pure (i := 32) hH rfl (by kernel_rfl) (Wants.free rfl) rfl (fun _ => hS8) (Rd.move (v := .bool b7) rfl) ?_
    obtain ⟨J6, hJ6, h1_J6, h0_J6⟩ := h
    suffices K12 : ∀ (b8 : Bool) (w25 : World), (Boxes w25 [(b1, [.int .u32 r1, .int .u32 r2, .int .u32 r3, .int .u32 r4, .int .u32 r5, .int .u32 r6, .int .u32 r7, .int .u32 r8, .int .u32 r9, .int .u32 r10, .int .u32 r11], 25), (b3, [.int .i64 r20, .int .i64 r21, .int .i64 r22, .slice r23 r23n r23c, .slice r24 r24n r24c], 43)]) → Boxes w25 [(b3, [.int .i64 r20, .int .i64 r21, .int .i64 r22, .slice r23 r23n r23c, .slice r24 r24n r24c], 43), (b1, [.int .u32 r1, .int .u32 r2, .int .u32 r3, .int .u32 r4, .int .u32 r5, .int .u32 r6, .int .u32 r7, .int .u32 r8, .int .u32 r9, .int .u32 r10, .int .u32 r11], 25)] → J6 b8 w25 → H 4 #[true, true, true, true, true, true, true, true, true, true, true, true, true, true, true, true, true, true, true, true, true, true, true, true, true, true, true, true, true, true, true, true, true, true, true, true, true, false, false, false, false] [(6, .bool false), (116, .bool b8)] w25 by
     rcases Bool.eq_false_or_eq_true b7 with hb21 | hb21
     ·have h := h1_J6 hb21
      refine HW.pure (i := 33) hH rfl (by kernel_rfl) (Wants.on rfl rfl rfl rfl rfl hb21) rfl (fun _ => hS8) (Rd.move (v := .pointer r19) rfl) ?_
      refine HW.pure (i := 34) hH rfl (by kernel_rfl) (Wants.on rfl rfl rfl rfl rfl hb21) rfl (fun _ => hS8) (Rd.move (v := .pointer r25) rfl) ?_
      refine HW.call (i := 35) hH (by kernel_rfl) rfl (Wants.on rfl rfl rfl rfl rfl hb21) rfl (Cl.fn (f := 23) rfl Tryz.func23 (by kernel_rfl) rfl) h (fun e w26 h_ => ?_)
      clear h
      obtain ⟨r46, rfl, h⟩ := h_
      obtain ⟨hsm16, h⟩ := h
      replace hB := Boxes.sameS hB hsm16 (by simp)
      have hS9 : Boxes w26 [(b1, [.int .u32 r1, .int .u32 r2, .int .u32 r3, .int .u32 r4, .int .u32 r5, .int .u32 r6, .int .u32 r7, .int .u32 r8, .int .u32 r9, .int .u32 r10, .int .u32 r11], 25), (b3, [.int .i64 r20, .int .i64 r21, .int .i64 r22, .slice r23 r23n r23c, .slice r24 r24n r24c], 43)] := (hB.sel [1, 0] (by decide) rfl)
      refine ⟨_, rfl, (fun _ => hS9), ?_⟩
      refine HW.pure (i := 36) hH rfl (by kernel_rfl) (Wants.free rfl) rfl (fun _ => hS9) (Rd.pickT rfl hb21 rfl) ?_
      exact HW.sub hH (by exact ⟨rfl, rfl, trivial⟩) (K12 r46 w26 hS9 (by exact hB) h)
     ·have h := h0_J6 hb21
      refine HW.skip (i := 33) hH rfl (by kernel_rfl) (Skips.on rfl rfl rfl rfl rfl hb21) rfl (fun _ => hS8) ?_
      refine HW.skip (i := 34) hH rfl (by kernel_rfl) (Skips.on rfl rfl rfl rfl rfl hb21) rfl (fun _ => hS8) ?_
      refine HW.skip (i := 35) hH rfl (by kernel_rfl) (Skips.on rfl rfl rfl rfl rfl hb21) rfl (fun _ => hS8) ?_
      refine HW.pure (i := 36) hH rfl (by kernel_rfl) (Wants.free rfl) rfl (fun _ => hS8) (Rd.pickF rfl hb21 rfl) ?_
      exact HW.sub hH (by exact ⟨rfl, rfl, trivial⟩) (K12 false w23 hS8 (by exact hB) h)
    clear hB
    intro b8 w25 hS10 hB h_
    have h := hJ6 b8 w25 h_; clear h_
    refine HW.pure (i := 37) hH rfl (by kernel_rfl) (Wants.free rfl) rfl (fun _ => hS10) (Rd.move (v := .bool b8) rfl) ?_
    obtain ⟨J7, hJ7, h1_J7, h0_J7⟩ := h
    suffices K13 : ∀ (b9 : Bool) (w27 : World), J7 b9 w27 → H 1 #[true, true, true, true, true, true, true, true, true, true, true, true, true, true, true, true, true, true, true, true, true, true, true, true, true, true, true, true, true, true, true, true, true, true, true, true, true, true, true, true, false] [(6, .bool false), (119, .bool b9)] w27 by
     rcases Bool.eq_false_or_eq_true b8 with hb22 | hb22
     ·have h := h1_J7 hb22
      refine HW.call (i := 38) hH (by kernel_rfl) rfl (Wants.on rfl rfl rfl rfl rfl hb22) rfl (Cl.fn (f := 11) rfl Tryz.func11 (by kernel_rfl) rfl) h (fun e w28 h_ => ?_)
      clear h
      obtain ⟨r47, rfl, h⟩ := h_
      refine ⟨_, rfl, (fun hc => by cases hc), ?_⟩
      refine HW.pure (i := 39) hH rfl (by kernel_rfl) (Wants.free rfl) rfl (fun hc => by cases hc) (Rd.pickT rfl hb22 rfl) ?_
      exact HW.sub hH (by exact ⟨rfl, rfl, trivial⟩) (K13 r47 w28 h)
     ·have h := h0_J7 hb22
      refine HW.skip1 (i := 38) hH (by kernel_rfl) rfl (Skips.on rfl rfl rfl rfl rfl hb22) rfl (fun hc => by cases hc) ?_
      refine HW.pure (i := 39) hH rfl (by kernel_rfl) (Wants.free rfl) rfl (fun hc => by cases hc) (Rd.pickF rfl hb22 rfl) ?_
      exact HW.sub hH (by exact ⟨rfl, rfl, trivial⟩) (K13 false w25 h)
    intro b9 w27 h_
    have h := hJ7 b9 w27 h_; clear h_
    refine HW.pure (i := 40) hH rfl (by kernel_rfl) (Wants.free rfl) rfl (fun hc => by cases hc) (Rd.assign (v := .bool b9) rfl) ?_
    refine HW.done hH (by kernel_rfl) ?_
    refine NW.then ?_
    refine CW.ret ?_
    exact res1 rfl rfl ⟨b9, rfl, h⟩
end Go.Proofs.YtfcfkhbkkfpehaaGreat
end
section
/- Arguments that came in, opened: rules. -/
namespace Go.Proofs.YtfcfkhbkkfpehaaGreat
open Go Go.RowKit Go.X
theorem len5 {α : Type} {l : List α} (h : l.length = 5) : ∃ a b c d e, l = [a, b, c, d, e] := by
 obtain ⟨a1, l, rfl⟩ := List.exists_cons_of_length_eq_add_one h
 obtain ⟨a2, l, rfl⟩ := List.exists_cons_of_length_eq_add_one (by simpa using h)
 obtain ⟨a9, a10, a11, rfl⟩ := len3 (l := l) (by simpa using h)
 exact ⟨a1, a2, a9, a10, a11, rfl⟩
section
variable {H : Type} {enc : TypeId × Value → H} {w : World} {base : Nat} {spare : Nat → Bool} {held : Bool} {fuel : Nat} {x : DataW H × List MemPlace} {cs : List Value}
theorem cells64 : Tryz.prog.cellsOf 23 = 5 := by kernel_rfl
def u32s (n : Int) : Prop := 0 ≤ n ∧ n < 4294967296
theorem open_five (h : DataW.trod enc Tryz.prog w base spare held fuel 23 cs = some x) : ∃ a b c d e : Int, cs = [.int .u32 a, .int .u32 b, .int .u32 c, .int .u32 d, .int .u32 e] ∧ u32s a ∧ u32s b ∧ u32s c ∧ u32s d ∧ u32s e := by
 obtain ⟨xs, n, _, _, hl, hlen, hf⟩ := DataW.trod_array (n := 5) (e := 22) (by kernel_rfl) h
 have h0 := hf 0 (by omega)
 have h1 := hf 1 (by omega)
 have h2 := hf 2 (by omega)
 have h3 := hf 3 (by omega)
 have h4 := hf 4 (by omega)
 simp only [cells22] at h0 h1 h2 h3 h4
 rw [cells64] at hl
 rw [List.getElem?_eq_getElem (by omega)] at h0 h1 h2 h3 h4
 obtain ⟨a, e0, _, w0⟩ := DataW.trod_int un22 h0
 obtain ⟨b, e1, _, w1⟩ := DataW.trod_int un22 h1
 obtain ⟨c, e2, _, w2⟩ := DataW.trod_int un22 h2
 obtain ⟨d, e3, _, w3⟩ := DataW.trod_int un22 h3
 obtain ⟨e, e4, _, w4⟩ := DataW.trod_int un22 h4
 obtain ⟨c0, c1, c2, c3, c4, rfl⟩ := len5 hl
 simp at e0 e1 e2 e3 e4
 subst e0 e1 e2 e3 e4
 exact ⟨a, b, c, d, e, rfl, wf_u32 w0, wf_u32 w1, wf_u32 w2, wf_u32 w3, wf_u32 w4⟩
theorem open_rules (h : DataW.trod enc Tryz.prog w base spare held fuel 25 cs = some x) : ∃ a1 a2 a3 a4 a5 a6 a7 a8 a9 a10 a11 : Int, cs = [.int .u32 a1, .int .u32 a2, .int .u32 a3, .int .u32 a4, .int .u32 a5, .int .u32 a6, .int .u32 a7, .int .u32 a8, .int .u32 a9, .int .u32 a10, .int .u32 a11] ∧
  ∀ n ∈ [a1, a2, a3, a4, a5, a6, a7, a8, a9, a10, a11], u32s n := by
 obtain ⟨xs, n, _, _, hl, hlen, hf⟩ := DataW.trod_struct Tryz.underlying25 h
 have h0 : DataW.trod enc Tryz.prog w base spare held n 23 ((cs.drop 0).take (Tryz.prog.cellsOf 23)) = xs[0]? := hf 0 _ rfl
 have h1 : DataW.trod enc Tryz.prog w base spare held n 23 ((cs.drop 5).take (Tryz.prog.cellsOf 23)) = xs[1]? := hf 1 _ rfl
 have h2 : DataW.trod enc Tryz.prog w base spare held n 22 ((cs.drop 10).take (Tryz.prog.cellsOf 22)) = xs[2]? := hf 2 _ rfl
 simp only [cells64, cells22] at h0 h1 h2
 rw [show Tryz.prog.cellsOf 25 = 11 by kernel_rfl] at hl
 rw [List.getElem?_eq_getElem (by rw [hlen]; decide)] at h0 h1 h2
 obtain ⟨a1, a2, a3, a4, a5, e0, k1, k2, k3, k4, k5⟩ := open_five h0
 obtain ⟨a6, a7, a8, a9, a10, e1, k6, k7, k8, k9, k10⟩ := open_five h1
 obtain ⟨a11, e2, _, w2⟩ := DataW.trod_int un22 h2
 refine ⟨a1, a2, a3, a4, a5, a6, a7, a8, a9, a10, a11, ?_, ?_⟩
 ·have hs : cs = cs.take 5 ++ ((cs.drop 5).take 5 ++ (cs.drop 10).take 1) := by
   have t1 := (List.take_append_drop 5 cs).symm
   have t2 := (List.take_append_drop 5 (cs.drop 5)).symm
   rw [List.drop_drop] at t2
   have t3 : (cs.drop 10).take 1 = cs.drop 10 := List.take_of_length_le (by rw [List.length_drop, hl]; omega)
   rw [t3]
   calc cs = cs.take 5 ++ cs.drop 5 := t1
    _ = cs.take 5 ++ ((cs.drop 5).take 5 ++ cs.drop 10) := by rw [← t2]
  rw [hs, e2, e1]
  rw [List.drop_zero] at e0
  rw [e0]
  rfl
 ·have := wf_u32 w2
  simp only [List.mem_cons, List.not_mem_nil, or_false]
  rintro n (rfl | rfl | rfl | rfl | rfl | rfl | rfl | rfl | rfl | rfl | rfl) <;> assumption
end
end Go.Proofs.YtfcfkhbkkfpehaaGreat
end
section
/- PolicyJudges' walk. -/
namespace Go.Proofs.YtfcfkhbkkfpehaaGreat
open Go Go.RowKit Go.X Go.XR
theorem made_rel (ms : List Pr) : RelF (madeF ms) (madeR ms) := by
 have : ∀ (ms : List Pr) (F : Fl) (R : Rf), RelF F R → RelF (ms.foldl (fun F m => markF F m.1 1 m.2) F) (ms.foldl (fun R m => refMark R m.1 1 m.2) R) := by
  intro ms
  induction ms with
  | nil => intro F R h; exact h
  | cons m ms ih => intro F R h; exact ih _ _ (h.mark m.1 1 m.2)
 exact this ms _ _ (RelF.new 2 2 65536)
theorem judges_walk {w : World} {S : Nat → Prop} {m1 l1 : Option Addr} {mn mc ln lc : Nat} {ms : List Pr} {ts : List Tch} (hM : MarksAt w S m1 mn ms) (hmn : mn ≤ maxLen) (hp : TouchesAt w S l1 ln ts) (hln : ln ≤ maxLen) (hin : ∀ t ∈ ts, t.2.length ≤ maxLen)
  (a1 a2 a3 a4 a5 a6 a7 a8 a9 a10 a11 : Int) (hru : ∀ x ∈ [a1, a2, a3, a4, a5, a6, a7, a8, a9, a10, a11], u32s x) :
  Calls Tryz.prog 3 #[.agg #[.int .u32 a1, .int .u32 a2, .int .u32 a3, .int .u32 a4, .int .u32 a5, .int .u32 a6, .int .u32 a7, .int .u32 a8, .int .u32 a9, .int .u32 a10, .int .u32 a11], .slice m1 mn mc, .slice l1 ln lc] w fun e w' =>
   ∃ r : Bool, e = .returned (.bool r) ∧ (r = true ∧ Chg [] w w') := by
 have hll := hp.length
 have hml := hM.length
 have hmn' := hmn
 have hln' := hln
 simp only [maxLen] at hmn' hln'
 refine go_pomanderlaw13_PolicyJudges _ _ _ _ _ _ _ _ _ _ _ _ _ _ _ _ _ _ _ ?_
 unfold W_pomanderlaw13_PolicyJudges
 rintro b1 w1 ⟨i1, j1⟩ c1
 have s1 := c1.size
 have N : ∀ {A B : World}, w1.heap.size ≤ A.heap.size → Chg [] A B → Same A B [b1] := fun h hc => Same.chg hc (by simp; omega)
 refine (broad_ok (m1 := m1) (mc := mc) (c := lc) (hp.chg c1 (by simp)) hln hmn).mono ?_
 rintro _ w2 ⟨_, rfl, rfl, hw⟩
 subst w2
 refine ⟨_, rfl, N (Nat.le_refl _) (Chg.refl _ _), fun _ => ?_, fun hb => ?_⟩
 ·refine (known_true w1).mono ?_
  rintro _ w3 ⟨_, rfl, rfl, c3⟩
  exact ⟨_, rfl, N (Nat.le_refl _) c3, rfl, c1.trans0 c3⟩
 have hb' := of_decide_eq_false hb
 have h30 : mn ≤ 30 := by
  apply Classical.byContradiction; intro k; exact hb' (.inl (by omega))
 have h20 : ts.length ≤ 20 := by
  apply Classical.byContradiction; intro k; exact hb' (.inr (.inl (by omega)))
 have hin' : ∀ t ∈ ts, t.2.length ≤ 9223372036854775807 := fun t ht => by have := hin t ht; simp only [maxLen] at this; omega
 refine (pol_of (w := w1) [a1, a2, a3, a4, a5, a6, a7, a8, a9, a10, a11] rfl a1 a2 a3 a4 a5 a6 a7 a8 a9 a10 a11 rfl).mono ?_
 rintro _ w4 ⟨r15, r16, rfl, c4, hof⟩
 have s4 := c4.size
 refine ⟨_, _, rfl, N (Nat.le_refl _) c4, ?_⟩
 refine (ref_mayRules a1 a2 a3 a4 a5 a6 a7 a8 a9 a10 a11).mono ?_
 rintro _ w5 ⟨r17, rfl, hmr, c5⟩
 have s5 := c5.size
 have c05 := (c1.trans0 c4).trans0 c5
 refine ⟨_, rfl, N (by omega) c5, fun hno => ?_, fun hyes => ?_⟩
 ·have hno' : ¬ okR [a1, a2, a3, a4, a5, a6, a7, a8, a9, a10, a11] := fun k => by rw [hmr.2 k] at hno; cases hno
  rw [if_neg hno'] at hof
  obtain ⟨rfl, rfl⟩ := hof
  refine ⟨fun b w' => b = true ∧ Chg [] w w', fun _ _ h => h, fun _ => ?_, fun h => by simp at h⟩
  refine (known_true w5).mono ?_
  rintro _ w7 ⟨_, rfl, rfl, c7⟩
  exact ⟨_, rfl, N (by omega) c7, rfl, c05.trans0 c7⟩
 have hyes' : r17 = true := by simpa using hyes
 have hok := hmr.1 hyes'
 rw [if_pos hok] at hof
 obtain ⟨rfl, b, rfl, hPol, hbl⟩ := hof
 have hu : ∀ x ∈ [a1, a2, a3, a4, a5, a6, a7, a8, a9, a10, a11], u16 x := fun x hx => ⟨(hru x hx).1, hok.2.2 x hx⟩
 refine (made_ok (c := mc) (hM.chg c05 (by simp)) (by omega)).mono ?_
 rintro _ w8 ⟨_, z1, z2, z3, p4, n4, c4', p5, n5, c5', rfl, bf, fp, rfl, hF, y1, y2, y3, hR, c8, hfp, hrf⟩
 obtain rfl := y1.symm
 obtain rfl := y2.symm
 obtain rfl := y3.symm
 have s8 := c8.size
 have c08 := c05.trans0 c8
 refine ⟨_, _, _, _, _, _, _, _, _, _, rfl, N (by omega) c8, ?_⟩
 rintro b3 w10 ⟨i3, j3⟩ c10
 have s10 := c10.size
 have c010 := c08.trans0 c10
 have M : ∀ {A B : World}, w10.heap.size ≤ A.heap.size → Chg [] A B → Same A B [b3, b1] := fun h hc => Same.chg hc (by simp; omega)
 have hF10 := hF.chg c10 (by simp)
 refine (flow_copy hF10).mono ?_
 rintro _ w11 ⟨_, rfl, bc, fc, rfl, hC, c11, hfc⟩
 have s11 := c11.size
 have hPol11 := hPol.chg (((c5.trans0 c8).trans0 c10).trans0 c11) (by simp)
 have hF11 := hF10.chg c11 (by simp)
 have c011 := c010.trans0 c11
 refine ⟨_, rfl, M (by omega) c11, ?_⟩
 refine (pol_stops (c := lc) hPol11 hF11 (hp.chg c011 (by simp)) (by omega) hin' (st := a11) rfl).mono ?_
 rintro _ w12 ⟨_, _, rfl, rfl, rfl, c12⟩
 have s12 := c12.size
 have c012 := c011.trans0 c12
 refine ⟨_, _, rfl, M (by omega) c12, ?_⟩
 refine (pol_alerts (c := lc) (hPol11.chg c12 (by simp)) (hF11.chg c12 (by simp)) (hp.chg c012 (by simp)) (by omega) hin').mono ?_
 rintro _ w13 ⟨r28, r28n, r28c, _, rfl, c13, rfl, hal1, hal2⟩
 have s13 := c13.size
 have c013 := c012.trans0 c13
 refine ⟨_, _, _, _, rfl, M (by omega) c13, ?_⟩
 have hsh := madeR_ok ms
 have hR13 := hR.chg (((c10.trans0 c11).trans0 c12).trans0 c13) (by simp) (by simp)
 have hmay := ref_mayAll (w := w13) (R := madeR ms) (p4 := p4) (n4 := n4) (c4 := c4') (p5 := p5) (n5 := n5) (c5 := c5') (c := lc) (by rw [hsh.1, hsh.2.1]; unfold i64s; omega) (hp.chg c013 (by simp)) (by omega) hin'
 rw [hsh.1, hsh.2.1, hsh.2.2.1] at hmay
 refine hmay.mono ?_
 rintro _ w14 ⟨_, rfl, rfl, c14⟩
 have s14 := c14.size
 have c014 := c013.trans0 c14
 have hfr : (madeF ms).fr = 2 ∧ (madeF ms).se = 2 := by
  have := made_rel ms
  exact ⟨by rw [← this.fr]; exact hsh.1, by rw [← this.se]; exact hsh.2.1⟩
 rw [hfr.1, hfr.2] at hal1 hal2
 refine ⟨_, rfl, M (by omega) c14, fun hno => ?_, fun hyes => ?_⟩
 ·have hno' : ¬ ∀ t ∈ ts, rightT 2 2 t := fun k => by rw [decide_eq_true (show rightAll 2 2 ts from k)] at hno; cases hno
  have e1 : decN (madeF ms) ts = 0 := by unfold decN; rw [hfr.1, hfr.2, if_neg hno']
  have e2 : decE (madeF ms) ts = 2 := by unfold decE; rw [hfr.1, hfr.2, if_neg hno']
  have e3 := hal2 hno'
  have e4 : bits .and .u32 0 a11 = 0 := by
   have := hu a11 (by simp)
   rw [u32_and 0 a11 (by omega) (by omega) this.1 (by have := this.2; omega)]; simp
  refine ⟨fun b w' => b = true ∧ Chg [] w w', fun _ _ h => h, fun _ => ?_, fun h => ?_⟩
  ·refine (known_true w14).mono ?_
   rintro _ w16 ⟨_, rfl, rfl, c16⟩
   exact ⟨_, rfl, M (by omega) c16, rfl, c014.trans0 c16⟩
  ·rw [e1, e2, e3, e4] at h
   simp at h
 have hall : ∀ t ∈ ts, rightT 2 2 t := by
  cases hd : decide (rightAll 2 2 ts) with
  | true => exact of_decide_eq_true hd
  | false => rw [hd] at hyes; cases hyes
 have hrel := made_rel ms
 have hgg : lookPr (madeR ms).pairs = (madeF ms).g := funext hrel.look
 have hgu : ∀ q, u16 (lookPr (madeR ms).pairs q) := fun q => by rw [hgg]; exact hF.each q
 have e1 : decN (madeF ms) ts = decidesP (madeF ms).g ts := by unfold decN; rw [hfr.1, hfr.2, if_pos hall]
 have e2 : decE (madeF ms) ts = 0 := by unfold decE; rw [hfr.1, hfr.2, if_pos hall]
 have hn5 : n5 ≤ 100000000 := by have := hR.n5; have := hsh.2.2.2.1; omega
 intro w17 c17
 have s17 := c17.size
 have c017 := c014.trans0 c17
 have hR17 := hR13.chg (c14.trans0 c17) (by simp) (by simp)
 have hrow17 := (hal1 hall).chg (c14.trans0 c17) (by simp)
 have hF17 := hF11.chg (((c12.trans0 c13).trans0 c14).trans0 c17) (by simp)
 have hC17 := hC.chg (((c12.trans0 c13).trans0 c14).trans0 c17) (by simp)
 have hPol17 := hPol11.chg (((c12.trans0 c13).trans0 c14).trans0 c17) (by simp)
 refine ⟨fun b w' => b = true ∧ Chg [] w17 w', ?_, fun _ => ?_, fun h => by rw [e2] at h; simp at h⟩
 rotate_left
 ·have hst := ref_stops hR17 hn5 hgu (c := lc) (hp.chg c017 (by simp)) (by omega) hin' a1 a2 a3 a4 a5 a6 a7 a8 a9 a10 a11 (hu a11 (by simp))
  rw [hsh.1, hsh.2.1, hsh.2.2.1] at hst
  refine hst.mono ?_
  rintro _ w19 ⟨_, rfl, rfl, c19⟩
  exact ⟨_, rfl, M (by omega) c19, by rw [hgg, e1]; simp, c19⟩
 rintro _ w18 ⟨rfl, c18⟩
 have s18 := c18.size
 refine ⟨fun b w' => b = true ∧ Chg [] w17 w', ?_, fun _ => ?_, fun h => by simp at h⟩
 rotate_left
 ·have hal := ref_alerts (hR17.chg c18 (by simp) (by simp)) hn5 hgu (c := lc) (hp.chg (c017.trans0 c18) (by simp)) (by omega) hin' a1 a2 a3 a4 a5 a6 a7 a8 a9 a10 a11 hu
  rw [hsh.1, hsh.2.1, hsh.2.2.1, hgg] at hal
  refine hal.mono ?_
  rintro _ w21 ⟨r33, r33n, r33c, rfl, hrow21, c21⟩
  have s21 := c21.size
  refine ⟨_, _, _, rfl, M (by omega) c21, ?_⟩
  have hlen := hrow17.length
  rw [flat_length (enc := encPr) (size := 3) (fun _ => rfl)] at hlen
  have := alertsP_len (madeF ms).g [a1, a2, a3, a4, a5, a6, a7, a8, a9, a10, a11] ts
  refine (same_alerts ((hrow17.chg c18 (by simp)).chg c21 (by simp)) hrow21 (by omega)).mono ?_
  rintro _ w22 ⟨_, rfl, rfl, c22⟩
  exact ⟨_, rfl, M (by omega) c22, rfl, (c18.trans0 c21).trans0 c22⟩
 rintro _ w20 ⟨rfl, c20⟩
 have s20 := c20.size
 refine ⟨fun b w' => b = true ∧ Chg [] w17 w', ?_, fun _ => ?_, fun h => by simp at h⟩
 rotate_left
 ·refine (pol_rules (hPol17.chg c20 (by simp)) rfl).mono ?_
  rintro _ w24 ⟨_, _, _, _, _, _, _, _, _, _, _, rfl, rfl, rfl, rfl, rfl, rfl, rfl, rfl, rfl, rfl, rfl, rfl, c24⟩
  exact ⟨_, _, _, _, _, _, _, _, _, _, _, rfl, M (by omega) c24, _, fun w => eq66 _ _ w _ _ _ _ _ _ _ _ _ _ _ _ _ _ _ _ _ _ _ _ _ _, by simp, c20.trans0 c24⟩
 rintro _ w23 ⟨rfl, c23⟩
 have s23 := c23.size
 refine ⟨fun b w' => b = true ∧ Chg [] w17 w', ?_, fun _ => ?_, fun h => by simp at h⟩
 rotate_left
 ·refine (flow_same (hF17.chg c23 (by simp)) (hC17.chg c23 (by simp))).mono ?_
  rintro _ w26 ⟨r46, rfl, hr46, c26⟩
  exact ⟨_, rfl, M (by omega) c26, hr46.2 ⟨rfl, rfl, rfl, rfl, fun _ => rfl⟩, c23.trans0 c26⟩
 rintro _ w25 ⟨rfl, c25⟩
 refine ⟨fun b w' => b = true ∧ Chg [] w17 w', ?_, fun _ => ?_, fun h => by simp at h⟩
 ·rintro _ w27 ⟨rfl, c27⟩
  exact ⟨rfl, c017.trans0 c27⟩
 ·refine (known_true w25).mono ?_
  rintro _ w28 ⟨_, rfl, rfl, c28⟩
  exact ⟨_, rfl, rfl, c25.trans0 c28⟩
end Go.Proofs.YtfcfkhbkkfpehaaGreat
end
section
/- What every row's step needs. -/
namespace Go.Proofs.YtfcfkhbkkfpehaaGreat
open Go Go.RowKit Go.X
theorem ownX : ownKnob Tryz.prog.godebug = none := by kernel_rfl
theorem laidOutX : laidOutB Tryz.prog = true := by kernel_rfl
end Go.Proofs.YtfcfkhbkkfpehaaGreat
end
