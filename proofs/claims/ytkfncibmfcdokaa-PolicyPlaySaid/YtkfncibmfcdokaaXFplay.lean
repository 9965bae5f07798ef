import Derived.Test.YtkfncibmfcdokaaProg
import Derived.Test.YtkfncibmfcdokaaXEq
set_option linter.unusedVariables false
set_option linter.unusedSimpArgs false
namespace Go.Proofs.Ytkfncibmfcdokaa
open Go.X

/- pomander/pomanderlaw13.PolicyPlay -/
def V_pomanderlaw13_PolicyPlay (r1 : Int) (r2 : Int) (r3 : Int) (r4 : Int) (r5 : Int) (r6 : Int) (r7 : Int) (r8 : Int) (r9 : Int) (r10 : Int) (r11 : Int) (l1 : Option Addr) (l1n : Nat) (l1c : Nat) (w : World) (R : Bool → World → Prop) : Prop :=
  ∀ b1 : Nat, b1 = World.size w → ∀ w1 : World, w1 = World.alloc w (.cells #[.int .u32 r1, .int .u32 r2, .int .u32 r3, .int .u32 r4, .int .u32 r5, .int .u32 r6, .int .u32 r7, .int .u32 r8, .int .u32 r9, .int .u32 r10, .int .u32 r11] 66) → (∃ (t1 : Int) (t2 : Int) (t3 : Int) (t4 : Int) (t5 : Int) (t6 : Int) (t7 : Int) (t8 : Int) (t9 : Int) (t10 : Int) (t11 : Int), CellsAt w1 (⟨b1, 0, none⟩ : Addr) 0 [.int .u32 t1, .int .u32 t2, .int .u32 t3, .int .u32 t4, .int .u32 t5, .int .u32 t6, .int .u32 t7, .int .u32 t8, .int .u32 t9, .int .u32 t10, .int .u32 t11] ∧ (Calls Try.prog 31 #[.agg #[.int .u32 t1, .int .u32 t2, .int .u32 t3, .int .u32 t4, .int .u32 t5, .int .u32 t6, .int .u32 t7, .int .u32 t8, .int .u32 t9, .int .u32 t10, .int .u32 t11]] w1 fun e w2 => ∃ (r13 : Option Addr) (r14 : Int), e = .returned (.tuple #[.pointer r13, .int .i64 r14]) ∧ (((decide ((l1n : Int) > 40) || !(r14 == 0)) = true → Calls Try.prog 18 #[] w2 fun e w3 => ∃ (r15 : Bool), e = .returned (.bool r15) ∧ (R r15 w3)) ∧ ((decide ((l1n : Int) > 40) || !(r14 == 0)) = false → ∃ (I1 : Bool × Int → World → Prop) (m1 : Bool × Int → World → Nat), I1 (false, 0) w2 ∧ ∀ (s1 : Bool × Int) (w4 : World), I1 s1 w4 → ((decide (s1.2 < (l1n : Int))) = true → ∃ a1 : Addr, l1 = some a1 ∧ (0 : Int) ≤ s1.2 ∧ s1.2 < (l1n : Int) ∧ (∃ (t12 : Int) (t13 : Int) (t14 : Int), CellsAt w4 (a1.add (Int.toNat s1.2 * 3)) 0 [.int .i64 t12, .int .i64 t13, .int .u32 t14] ∧ (∀ b2 : Nat, b2 = World.size w4 → ∀ w5 : World, w5 = World.alloc w4 (.cells #[.int .i64 0, .int .i64 0, .int .u32 0] 71) → (Has w5 (⟨b2, 0, none⟩ : Addr) 3 ∧ Free w5 (⟨b2, 0, none⟩ : Addr) 3 ∧ ∀ w6 : World, w6 = setCells w5 (⟨b2, 0, none⟩ : Addr) 0 [.int .i64 t12, .int .i64 t13, .int .u32 t14] → (∃ (t15 : Int), w6.cell? (⟨b2, 1, none⟩ : Addr) = some (.int .i64 t15) ∧ (∃ J1 : Bool → World → Prop, (∀ (b3 : Bool) (w7 : World), J1 b3 w7 → ∃ J2 : Int → World → Prop, (∀ (s2 : Int) (w8 : World), J2 s2 w8 → Calls Try.prog 32 #[.pointer r13] w8 fun e w9 => ∃ (r16 : Option Addr), e = .returned (.pointer r16) ∧ (∃ J3 : Int → World → Prop, (∀ (s3 : Int) (w10 : World), J3 s3 w10 → ∀ w11 : World, w11 = World.drew w10 → ∃ (t17 : Int) (t18 : Int) (t19 : Int) (t20 : Int) (t21 : Int) (t22 : Int) (t23 : Int) (t24 : Int) (t25 : Int) (t26 : Int) (t27 : Int), CellsAt w11 (⟨b1, 0, none⟩ : Addr) 0 [.int .u32 t17, .int .u32 t18, .int .u32 t19, .int .u32 t20, .int .u32 t21, .int .u32 t22, .int .u32 t23, .int .u32 t24, .int .u32 t25, .int .u32 t26, .int .u32 t27] ∧ (∃ J4 : Bool → World → Prop, (∀ (b4 : Bool) (w12 : World), J4 b4 w12 → ∃ J5 : Bool → World → Prop, (∀ (b5 : Bool) (w14 : World), J5 b5 w14 → (b5 = true → R false w14) ∧ (b5 = false → (I1 (s1.1, IntKind.wrap .i64 (s1.2 + 1)) w14 ∧ m1 (s1.1, IntKind.wrap .i64 (s1.2 + 1)) w14 < m1 s1 w4))) ∧ (((b4 || Option.isNone r16) = false → Calls Try.prog 35 #[.pointer r16] w12 fun e w15 => ∃ (r28 : Int) (r29 : Int) (r30 : Int) (r31 : Int) (r32 : Int) (r33 : Int) (r34 : Int) (r35 : Int) (r36 : Int) (r37 : Int) (r38 : Int), e = .returned (.agg #[.int .u32 r28, .int .u32 r29, .int .u32 r30, .int .u32 r31, .int .u32 r32, .int .u32 r33, .int .u32 r34, .int .u32 r35, .int .u32 r36, .int .u32 r37, .int .u32 r38]) ∧ ((CellsAt w15 (⟨b1, 0, none⟩ : Addr) 0 [.int .u32 t17, .int .u32 t18, .int .u32 t19, .int .u32 t20, .int .u32 t21, .int .u32 t22, .int .u32 t23, .int .u32 t24, .int .u32 t25, .int .u32 t26, .int .u32 t27] ∧ True) ∧ (∃ (t29 : Bool), (∀ w : World, ((do eqGuard .neq 66 (.tmp 121) (.tmp 122) (.agg #[.int .u32 r28, .int .u32 r29, .int .u32 r30, .int .u32 r31, .int .u32 r32, .int .u32 r33, .int .u32 r34, .int .u32 r35, .int .u32 r36, .int .u32 r37, .int .u32 r38]) (.agg #[.int .u32 t17, .int .u32 t18, .int .u32 t19, .int .u32 t20, .int .u32 t21, .int .u32 t22, .int .u32 t23, .int .u32 t24, .int .u32 t25, .int .u32 t26, .int .u32 t27]); binOp .neq 66 (.agg #[.int .u32 r28, .int .u32 r29, .int .u32 r30, .int .u32 r31, .int .u32 r32, .int .u32 r33, .int .u32 r34, .int .u32 r35, .int .u32 r36, .int .u32 r37, .int .u32 r38]) (.agg #[.int .u32 t17, .int .u32 t18, .int .u32 t19, .int .u32 t20, .int .u32 t21, .int .u32 t22, .int .u32 t23, .int .u32 t24, .int .u32 t25, .int .u32 t26, .int .u32 t27]) : Sem Value)).run Try.prog w = .ok (.bool t29) w) ∧ (J5 (t29 && !(s2 == 0)) w15)))) ∧ ((b4 || Option.isNone r16) = true → J5 true w12))) ∧ (((!(s3 == s2)) = false → Calls Try.prog 35 #[.pointer r13] w11 fun e w13 => ∃ (r17 : Int) (r18 : Int) (r19 : Int) (r20 : Int) (r21 : Int) (r22 : Int) (r23 : Int) (r24 : Int) (r25 : Int) (r26 : Int) (r27 : Int), e = .returned (.agg #[.int .u32 r17, .int .u32 r18, .int .u32 r19, .int .u32 r20, .int .u32 r21, .int .u32 r22, .int .u32 r23, .int .u32 r24, .int .u32 r25, .int .u32 r26, .int .u32 r27]) ∧ ((CellsAt w13 (⟨b1, 0, none⟩ : Addr) 0 [.int .u32 t17, .int .u32 t18, .int .u32 t19, .int .u32 t20, .int .u32 t21, .int .u32 t22, .int .u32 t23, .int .u32 t24, .int .u32 t25, .int .u32 t26, .int .u32 t27] ∧ True) ∧ (∃ (t28 : Bool), (∀ w : World, ((do eqGuard .neq 66 (.tmp 111) (.tmp 112) (.agg #[.int .u32 r17, .int .u32 r18, .int .u32 r19, .int .u32 r20, .int .u32 r21, .int .u32 r22, .int .u32 r23, .int .u32 r24, .int .u32 r25, .int .u32 r26, .int .u32 r27]) (.agg #[.int .u32 t17, .int .u32 t18, .int .u32 t19, .int .u32 t20, .int .u32 t21, .int .u32 t22, .int .u32 t23, .int .u32 t24, .int .u32 t25, .int .u32 t26, .int .u32 t27]); binOp .neq 66 (.agg #[.int .u32 r17, .int .u32 r18, .int .u32 r19, .int .u32 r20, .int .u32 r21, .int .u32 r22, .int .u32 r23, .int .u32 r24, .int .u32 r25, .int .u32 r26, .int .u32 r27]) (.agg #[.int .u32 t17, .int .u32 t18, .int .u32 t19, .int .u32 t20, .int .u32 t21, .int .u32 t22, .int .u32 t23, .int .u32 t24, .int .u32 t25, .int .u32 t26, .int .u32 t27]) : Sem Value)).run Try.prog w = .ok (.bool t28) w) ∧ (J4 t28 w13)))) ∧ ((!(s3 == s2)) = true → J4 true w11)))) ∧ (∃ (t30 : Int), w9.cell? (⟨b2, 0, none⟩ : Addr) = some (.int .i64 t30) ∧ (((t30 == 1) = true → ∃ (t31 : Int), w9.cell? (⟨b2, 1, none⟩ : Addr) = some (.int .i64 t31) ∧ (∃ (t32 : Int), w9.cell? (⟨b2, 2, none⟩ : Addr) = some (.int .u32 t32) ∧ (Calls Try.prog 33 #[.pointer r13, .int .i64 t31, .int .u32 t32] w9 fun e w16 => ∃ (r39 : Int), e = .returned (.int .i64 r39) ∧ (((s2 == 0) = true → ∃ (t33 : Int), w16.cell? (⟨b2, 1, none⟩ : Addr) = some (.int .i64 t33) ∧ (∃ (t34 : Int), w16.cell? (⟨b2, 2, none⟩ : Addr) = some (.int .u32 t34) ∧ ((0 : Int) ≤ t33 ∧ (t33 : Int) < 5 ∧ ((∃ o : Value, w16.cell? ((⟨b1, 0, none⟩ : Addr).add (Int.toNat t33 * 1)) = some o) ∧ w16.frozen? ((⟨b1, 0, none⟩ : Addr).add (Int.toNat t33 * 1)) = false ∧ ∀ w17 : World, w17 = World.setCell w16 ((⟨b1, 0, none⟩ : Addr).add (Int.toNat t33 * 1)) (.int .u32 t34) → (J3 r39 w17))))) ∧ ((s2 == 0) = false → J3 r39 w16))))) ∧ ((t30 == 1) = false → ((t30 == 2) = true → ∃ (t35 : Int), w9.cell? (⟨b2, 1, none⟩ : Addr) = some (.int .i64 t35) ∧ (∃ (t36 : Int), w9.cell? (⟨b2, 2, none⟩ : Addr) = some (.int .u32 t36) ∧ (Calls Try.prog 34 #[.pointer r13, .int .i64 t35, .int .u32 t36] w9 fun e w18 => ∃ (r40 : Int), e = .returned (.int .i64 r40) ∧ (((s2 == 0) = true → ∃ (t37 : Int), w18.cell? (⟨b2, 1, none⟩ : Addr) = some (.int .i64 t37) ∧ (∃ (t38 : Int), w18.cell? (⟨b2, 2, none⟩ : Addr) = some (.int .u32 t38) ∧ ((0 : Int) ≤ t37 ∧ (t37 : Int) < 5 ∧ ((∃ o : Value, w18.cell? ((⟨b1, 5, none⟩ : Addr).add (Int.toNat t37 * 1)) = some o) ∧ w18.frozen? ((⟨b1, 5, none⟩ : Addr).add (Int.toNat t37 * 1)) = false ∧ ∀ w19 : World, w19 = World.setCell w18 ((⟨b1, 5, none⟩ : Addr).add (Int.toNat t37 * 1)) (.int .u32 t38) → (J3 r40 w19))))) ∧ ((s2 == 0) = false → J3 r40 w18))))) ∧ ((t30 == 2) = false → ∃ (t39 : Int), w9.cell? (⟨b2, 2, none⟩ : Addr) = some (.int .u32 t39) ∧ (Calls Try.prog 22 #[.pointer r13, .int .u32 t39] w9 fun e w20 => ∃ (r41 : Int), e = .returned (.int .i64 r41) ∧ (((s2 == 0) = true → ∃ (t40 : Int), w20.cell? (⟨b2, 2, none⟩ : Addr) = some (.int .u32 t40) ∧ ((∃ o : Value, w20.cell? (⟨b1, 10, none⟩ : Addr) = some o) ∧ w20.frozen? (⟨b1, 10, none⟩ : Addr) = false ∧ ∀ w21 : World, w21 = World.setCell w20 (⟨b1, 10, none⟩ : Addr) (.int .u32 t40) → (J3 r41 w21))) ∧ ((s2 == 0) = false → J3 r41 w20))))))))) ∧ (∃ (t41 : Int), w7.cell? (⟨b2, 2, none⟩ : Addr) = some (.int .u32 t41) ∧ (∃ J6 : Bool → World → Prop, (∀ (b6 : Bool) (w22 : World), J6 b6 w22 → (b6 = true → J2 2 w22) ∧ (b6 = false → J2 0 w22)) ∧ (((decide (t41 ≥ 65536)) = false → ∃ (t42 : Int), w7.cell? (⟨b2, 0, none⟩ : Addr) = some (.int .i64 t42) ∧ (∃ J7 : Bool → World → Prop, (∀ (b7 : Bool) (w23 : World), J7 b7 w23 → J6 (b7 && !b3) w23) ∧ (((t42 == 1) = false → ∃ (t43 : Int), w7.cell? (⟨b2, 0, none⟩ : Addr) = some (.int .i64 t43) ∧ (J7 (t43 == 2) w7)) ∧ ((t42 == 1) = true → J7 true w7)))) ∧ ((decide (t41 ≥ 65536)) = true → J6 true w7))))) ∧ (((decide (t15 ≥ 1)) = true → ∃ (t16 : Int), w6.cell? (⟨b2, 1, none⟩ : Addr) = some (.int .i64 t16) ∧ (J1 (decide (t16 ≤ 4)) w6)) ∧ ((decide (t15 ≥ 1)) = false → J1 false w6)))))))) ∧ ((decide (s1.2 < (l1n : Int))) = false → Calls Try.prog 18 #[] w4 fun e w24 => ∃ (r42 : Bool), e = .returned (.bool r42) ∧ (R r42 w24))))))
set_option maxRecDepth 100000 in
theorem ok_pomanderlaw13_PolicyPlay (r1 : Int) (r2 : Int) (r3 : Int) (r4 : Int) (r5 : Int) (r6 : Int) (r7 : Int) (r8 : Int) (r9 : Int) (r10 : Int) (r11 : Int) (l1 : Option Addr) (l1n : Nat) (l1c : Nat) (w : World) (R : Bool → World → Prop) (h : V_pomanderlaw13_PolicyPlay r1 r2 r3 r4 r5 r6 r7 r8 r9 r10 r11 l1 l1n l1c w R) : Calls Try.prog 5 #[.agg #[.int .u32 r1, .int .u32 r2, .int .u32 r3, .int .u32 r4, .int .u32 r5, .int .u32 r6, .int .u32 r7, .int .u32 r8, .int .u32 r9, .int .u32 r10, .int .u32 r11], .slice l1 l1n l1c] w (fun e w' => ∃ (r12 : Bool), e = .returned (.bool r12) ∧ R r12 w') := by
  unfold V_pomanderlaw13_PolicyPlay at h
  refine enter (N := 130) Try.func5 rfl rfl ?_
  refine CW.seq ?_
  refine CW.region fun L hL => ?_
  obtain ⟨b1, hb_b1⟩ : ∃ b1, b1 = World.size w := ⟨_, rfl⟩
  obtain ⟨w1, hw_w1⟩ : ∃ w1, w1 = World.alloc w (.cells #[.int .u32 r1, .int .u32 r2, .int .u32 r3, .int .u32 r4, .int .u32 r5, .int .u32 r6, .int .u32 r7, .int .u32 r8, .int .u32 r9, .int .u32 r10, .int .u32 r11] 66) := ⟨_, rfl⟩
  replace h := h b1 hb_b1 w1 hw_w1
  refine LW.val hL rfl (Wants.free rfl) rfl (boxE hb_b1 hw_w1 (Vl.box (v := .agg #[.int .u32 r1, .int .u32 r2, .int .u32 r3, .int .u32 r4, .int .u32 r5, .int .u32 r6, .int .u32 r7, .int .u32 r8, .int .u32 r9, .int .u32 r10, .int .u32 r11]) rfl)) ?_
  refine LW.rd hL rfl (Wants.free rfl) rfl (Rd.assign (v := .bool false) rfl) ?_
  refine LW.nil hL rfl ?_
  refine NW.then ?_
  refine CW.seq ?_
  refine CW.region fun L hL => ?_
  obtain ⟨t1, t2, t3, t4, t5, t6, t7, t8, t9, t10, t11, hc1, h⟩ := h
  refine LW.rd hL rfl (Wants.free rfl) rfl (Rd.ldN (cs := [.int .u32 t1, .int .u32 t2, .int .u32 t3, .int .u32 t4, .int .u32 t5, .int .u32 t6, .int .u32 t7, .int .u32 t8, .int .u32 t9, .int .u32 t10, .int .u32 t11]) rfl (by kernel_rfl) (by kernel_rfl) (cellsS hc1)) ?_
  refine LW.call hL rfl (Wants.free rfl) rfl (Cl.fn (f := 31) rfl Try.func31 (by kernel_rfl) rfl) h (fun e w2 h_ => ?_)
  clear h
  obtain ⟨r13, r14, rfl, h⟩ := h_
  refine ⟨_, rfl, ?_⟩
  refine LW.rd hL rfl (Wants.free rfl) rfl (Rd.move (v := .tuple #[.pointer r13, .int .i64 r14]) rfl) ?_
  refine LW.rd hL rfl (Wants.free rfl) rfl (Rd.extract (v := .pointer r13) rfl rfl) ?_
  refine LW.rd hL rfl (Wants.free rfl) rfl (Rd.extract (v := .int .i64 r14) rfl rfl) ?_
  refine LW.rd hL rfl (Wants.free rfl) rfl (Rd.assign (v := .pointer r13) rfl) ?_
  refine LW.rd hL rfl (Wants.free rfl) rfl (Rd.assign (v := .int .i64 r14) rfl) ?_
  refine LW.nil hL rfl ?_
  refine NW.then ?_
  refine CW.seq ?_
  refine CW.seq ?_
  refine CW.region fun L hL => ?_
  refine LW.rd hL rfl (Wants.free rfl) rfl (Rd.move (v := .slice l1 l1n l1c) rfl) ?_
  refine LW.rd hL rfl (Wants.free rfl) rfl (Rd.builtin (v := .int .i64 (l1n : Int)) rfl (fun _ _ => by kernel_rfl)) ?_
  refine LW.rd hL rfl (Wants.free rfl) rfl (Rd.bin (v := .bool (decide ((l1n : Int) > 40))) rfl rfl (fun w => by kernel_rfl)) ?_
  refine LW.rd hL rfl (Wants.free rfl) rfl (Rd.move (v := .bool (decide ((l1n : Int) > 40))) rfl) ?_
  suffices K1 : L 7 [(1, .slice l1 l1n l1c), (2, .pointer (some (⟨b1, 0, none⟩ : Addr))), (4, .bool false), (5, .pointer r13), (24, .bool (decide ((l1n : Int) > 40) || !(r14 == 0)))] w2 by
    rcases Bool.eq_false_or_eq_true (decide ((l1n : Int) > 40)) with hb2 | hb2
    · skip
      refine LW.skip hL rfl (Skips.on rfl rfl rfl rfl rfl hb2) rfl ?_
      refine LW.skip hL rfl (Skips.on rfl rfl rfl rfl rfl hb2) rfl ?_
      refine LW.rd hL rfl (Wants.free rfl) rfl (Rd.pickT rfl hb2 rfl) ?_
      exact LW.sub hL (by exact ⟨rfl, rfl, rfl, rfl, (by rw [hb2]; rfl), trivial⟩) K1
    · skip
      refine LW.rd hL rfl (Wants.on rfl rfl rfl rfl rfl hb2) rfl (Rd.move (v := .int .i64 r14) rfl) ?_
      refine LW.rd hL rfl (Wants.on rfl rfl rfl rfl rfl hb2) rfl (Rd.bin (v := .bool (!(r14 == 0))) rfl rfl (fun w => by kernel_rfl)) ?_
      refine LW.rd hL rfl (Wants.free rfl) rfl (Rd.pickF rfl hb2 rfl) ?_
      exact LW.sub hL (by exact ⟨rfl, rfl, rfl, rfl, (by rw [hb2]; rfl), trivial⟩) K1
  refine LW.nil hL rfl ?_
  refine NW.then ?_
  refine CW.cond rfl (fun hb3 => ?_) (fun hb3 => ?_)
  · replace h := h.1 hb3
    refine CW.seq ?_
    refine CW.region fun L hL => ?_
    refine LW.call hL rfl (Wants.free rfl) rfl (Cl.fn (f := 18) rfl Try.func18 (by kernel_rfl) rfl) h (fun e w3 h_ => ?_)
    clear h
    obtain ⟨r15, rfl, h⟩ := h_
    refine ⟨_, rfl, ?_⟩
    refine LW.rd hL rfl (Wants.free rfl) rfl (Rd.assign (v := .bool r15) rfl) ?_
    refine LW.nil hL rfl ?_
    refine NW.then ?_
    refine CW.ret ?_
    refine RW.then ?_
    exact res1 rfl rfl ⟨r15, rfl, h⟩
  · replace h := h.2 hb3
    refine CW.skip ?_
    refine NW.then ?_
    refine CW.seq ?_
    refine CW.seq ?_
    refine CW.region fun L hL => ?_
    refine LW.rd hL rfl (Wants.free rfl) rfl (Rd.assign (v := .int .i64 0) rfl) ?_
    refine LW.nil hL rfl ?_
    refine NW.then ?_
    refine CW.block ?_
    obtain ⟨I1, m1, hI1, h⟩ := h
    refine CW.loop (S := Bool × Int) (fun s1 => [(1, .slice l1 l1n l1c), (2, .pointer (some (⟨b1, 0, none⟩ : Addr))), (5, .pointer r13), (4, .bool s1.1), (7, .int .i64 s1.2)]) I1 m1 (false, 0) (by exact ⟨rfl, rfl, rfl, rfl, rfl, trivial⟩) hI1 (fun s1 w4 hI1 => ?_)
    replace h := h s1 w4 hI1
    refine CW.seq ?_
    refine CW.seq ?_
    refine CW.region fun L hL => ?_
    refine LW.rd hL rfl (Wants.free rfl) rfl (Rd.move (v := .int .i64 s1.2) rfl) ?_
    refine LW.rd hL rfl (Wants.free rfl) rfl (Rd.move (v := .slice l1 l1n l1c) rfl) ?_
    refine LW.rd hL rfl (Wants.free rfl) rfl (Rd.builtin (v := .int .i64 (l1n : Int)) rfl (fun _ _ => by kernel_rfl)) ?_
    refine LW.rd hL rfl (Wants.free rfl) rfl (Rd.bin (v := .bool (decide (s1.2 < (l1n : Int)))) rfl rfl (fun w => by kernel_rfl)) ?_
    refine LW.nil hL rfl ?_
    refine NW.then ?_
    refine CW.cond rfl (fun hb4 => ?_) (fun hb4 => ?_)
    · replace h := h.1 hb4
      refine CW.skip ?_
      refine NW.then ?_
      refine CW.seq ?_
      refine CW.block ?_
      refine CW.seq ?_
      refine CW.region fun L hL => ?_
      refine LW.rd hL rfl (Wants.free rfl) rfl (Rd.move (v := .slice l1 l1n l1c) rfl) ?_
      refine LW.rd hL rfl (Wants.free rfl) rfl (Rd.move (v := .int .i64 s1.2) rfl) ?_
      obtain ⟨a1, he1, hi1, hi2, h⟩ := h
      refine LW.rd hL rfl (Wants.free rfl) rfl (Rd.iaS (q := a1) (sz := 3) (by rw [← he1]; rfl) rfl Try.underlying67 (by kernel_rfl) hi1 hi2) ?_
      obtain ⟨t12, t13, t14, hc2, h⟩ := h
      refine LW.rd hL rfl (Wants.free rfl) rfl (Rd.ldN (cs := [.int .i64 t12, .int .i64 t13, .int .u32 t14]) rfl (by kernel_rfl) (by kernel_rfl) (cellsS hc2)) ?_
      obtain ⟨b2, hb_b2⟩ : ∃ b2, b2 = World.size w4 := ⟨_, rfl⟩
      obtain ⟨w5, hw_w5⟩ : ∃ w5, w5 = World.alloc w4 (.cells #[.int .i64 0, .int .i64 0, .int .u32 0] 71) := ⟨_, rfl⟩
      replace h := h b2 hb_b2 w5 hw_w5
      refine LW.val hL rfl (Wants.free rfl) rfl (boxE hb_b2 hw_w5 (Vl.alloc (z := .agg #[.int .i64 0, .int .i64 0, .int .u32 0]) (by kernel_rfl))) ?_
      obtain ⟨ho1, hf1, h⟩ := h
      obtain ⟨w6, hw_w6⟩ : ∃ w6, w6 = setCells w5 (⟨b2, 0, none⟩ : Addr) 0 [.int .i64 t12, .int .i64 t13, .int .u32 t14] := ⟨_, rfl⟩
      replace h := h w6 hw_w6
      refine LW.eff hL rfl (Wants.free rfl) rfl (stNE hw_w6 (Ef.stN (cs := [.int .i64 t12, .int .i64 t13, .int .u32 t14]) rfl rfl (by kernel_rfl) (List.forall_mem_cons.2 ⟨rfl, (List.forall_mem_cons.2 ⟨rfl, (List.forall_mem_cons.2 ⟨rfl, (List.forall_mem_nil _)⟩)⟩)⟩) ho1 hf1)) ?_
      refine LW.nil hL rfl ?_
      refine NW.then ?_
      refine CW.seq ?_
      refine CW.region fun L hL => ?_
      refine LW.rd hL rfl (Wants.free rfl) rfl (Rd.fa (v := .pointer (some (⟨b2, 1, none⟩ : Addr))) rfl (fun _ => by kernel_rfl)) ?_
      obtain ⟨t15, hc3, h⟩ := h
      refine LW.rd hL rfl (Wants.free rfl) rfl (Rd.ld (v := .int .i64 t15) rfl (by kernel_rfl) (eqs hc3)) ?_
      refine LW.rd hL rfl (Wants.free rfl) rfl (Rd.bin (v := .bool (decide (t15 ≥ 1))) rfl rfl (fun w => by kernel_rfl)) ?_
      refine LW.rd hL rfl (Wants.free rfl) rfl (Rd.move (v := .bool (decide (t15 ≥ 1))) rfl) ?_
      obtain ⟨J1, hJ1, h1_J1, h0_J1⟩ := h
      suffices K2 : ∀ (b3 : Bool) (w7 : World), J1 b3 w7 → L 8 [(1, .slice l1 l1n l1c), (2, .pointer (some (⟨b1, 0, none⟩ : Addr))), (4, .bool s1.1), (5, .pointer r13), (7, .int .i64 s1.2), (8, .pointer (some (⟨b2, 0, none⟩ : Addr))), (43, .bool b3)] w7 by
        rcases Bool.eq_false_or_eq_true (decide (t15 ≥ 1)) with hb5 | hb5
        · have h := h1_J1 hb5
          refine LW.rd hL rfl (Wants.on rfl rfl rfl rfl rfl hb5) rfl (Rd.fa (v := .pointer (some (⟨b2, 1, none⟩ : Addr))) rfl (fun _ => by kernel_rfl)) ?_
          obtain ⟨t16, hc4, h⟩ := h
          refine LW.rd hL rfl (Wants.on rfl rfl rfl rfl rfl hb5) rfl (Rd.ld (v := .int .i64 t16) rfl (by kernel_rfl) (eqs hc4)) ?_
          refine LW.rd hL rfl (Wants.on rfl rfl rfl rfl rfl hb5) rfl (Rd.bin (v := .bool (decide (t16 ≤ 4))) rfl rfl (fun w => by kernel_rfl)) ?_
          refine LW.rd hL rfl (Wants.free rfl) rfl (Rd.pickT rfl hb5 rfl) ?_
          exact LW.sub hL (by exact ⟨rfl, rfl, rfl, rfl, rfl, rfl, rfl, trivial⟩) (K2 (decide (t16 ≤ 4)) w6 h)
        · have h := h0_J1 hb5
          refine LW.skip hL rfl (Skips.on rfl rfl rfl rfl rfl hb5) rfl ?_
          refine LW.skip hL rfl (Skips.on rfl rfl rfl rfl rfl hb5) rfl ?_
          refine LW.skip hL rfl (Skips.on rfl rfl rfl rfl rfl hb5) rfl ?_
          refine LW.rd hL rfl (Wants.free rfl) rfl (Rd.pickF rfl hb5 rfl) ?_
          exact LW.sub hL (by exact ⟨rfl, rfl, rfl, rfl, rfl, rfl, rfl, trivial⟩) (K2 false w6 h)
      intro b3 w7 h_
      have h := hJ1 b3 w7 h_; clear h_
      refine LW.rd hL rfl (Wants.free rfl) rfl (Rd.assign (v := .bool b3) rfl) ?_
      refine LW.nil hL rfl ?_
      refine NW.then ?_
      refine CW.seq ?_
      refine CW.region fun L hL => ?_
      refine LW.rd hL rfl (Wants.free rfl) rfl (Rd.assign (v := .int .i64 0) rfl) ?_
      refine LW.nil hL rfl ?_
      refine NW.then ?_
      obtain ⟨J2, hJ2, h⟩ := h
      refine CW.cut (S := Int) (fun s2 => [(1, .slice l1 l1n l1c), (2, .pointer (some (⟨b1, 0, none⟩ : Addr))), (4, .bool s1.1), (5, .pointer r13), (7, .int .i64 s1.2), (8, .pointer (some (⟨b2, 0, none⟩ : Addr))), (10, .int .i64 s2)]) J2 (fun s2 w8 h_ => ?_) ?_
      · replace h := hJ2 s2 w8 h_; clear h_
        refine CW.seq ?_
        refine CW.region fun L hL => ?_
        refine LW.rd hL rfl (Wants.free rfl) rfl (Rd.move (v := .pointer r13) rfl) ?_
        refine LW.call hL rfl (Wants.free rfl) rfl (Cl.fn (f := 32) rfl Try.func32 (by kernel_rfl) rfl) h (fun e w9 h_ => ?_)
        clear h
        obtain ⟨r16, rfl, h⟩ := h_
        refine ⟨_, rfl, ?_⟩
        refine LW.rd hL rfl (Wants.free rfl) rfl (Rd.assign (v := .pointer r16) rfl) ?_
        refine LW.nil hL rfl ?_
        refine NW.then ?_
        refine CW.seq ?_
        refine CW.region fun L hL => ?_
        refine LW.rd hL rfl (Wants.free rfl) rfl (Rd.assign (v := .int .i64 0) rfl) ?_
        refine LW.nil hL rfl ?_
        refine NW.then ?_
        obtain ⟨J3, hJ3, h⟩ := h
        refine CW.cut (S := Int) (fun s3 => [(1, .slice l1 l1n l1c), (2, .pointer (some (⟨b1, 0, none⟩ : Addr))), (4, .bool s1.1), (5, .pointer r13), (7, .int .i64 s1.2), (10, .int .i64 s2), (11, .pointer r16), (12, .int .i64 s3)]) J3 (fun s3 w10 h_ => ?_) ?_
        · replace h := hJ3 s3 w10 h_; clear h_
          refine CW.seq ?_
          replace h := h _ rfl
          obtain ⟨t17, t18, t19, t20, t21, t22, t23, t24, t25, t26, t27, hc5, h⟩ := h
          refine CW.drawn (fun w => CellsAt w (⟨b1, 0, none⟩ : Addr) 0 [.int .u32 t17, .int .u32 t18, .int .u32 t19, .int .u32 t20, .int .u32 t21, .int .u32 t22, .int .u32 t23, .int .u32 t24, .int .u32 t25, .int .u32 t26, .int .u32 t27] ∧ True) 23 (by kernel_rfl) fun H hH => ?_
          generalize World.drew _ = w11 at *
          have hS1 : CellsAt w11 (⟨b1, 0, none⟩ : Addr) 0 [.int .u32 t17, .int .u32 t18, .int .u32 t19, .int .u32 t20, .int .u32 t21, .int .u32 t22, .int .u32 t23, .int .u32 t24, .int .u32 t25, .int .u32 t26, .int .u32 t27] ∧ True := ⟨hc5, trivial⟩
          refine HW.pure (i := 0) hH rfl (by kernel_rfl) (Wants.free rfl) rfl (fun _ => hS1) (Rd.move (v := .int .i64 s3) rfl) ?_
          refine HW.pure (i := 1) hH rfl (by kernel_rfl) (Wants.free rfl) rfl (fun _ => hS1) (Rd.move (v := .int .i64 s2) rfl) ?_
          refine HW.pure (i := 2) hH rfl (by kernel_rfl) (Wants.free rfl) rfl (fun _ => hS1) (Rd.bin (v := .bool (!(s3 == s2))) rfl rfl (fun w => by kernel_rfl)) ?_
          refine HW.pure (i := 3) hH rfl (by kernel_rfl) (Wants.free rfl) rfl (fun _ => hS1) (Rd.move (v := .bool (!(s3 == s2))) rfl) ?_
          obtain ⟨J4, hJ4, h1_J4, h0_J4⟩ := h
          suffices K3 : ∀ (b4 : Bool) (w12 : World), (CellsAt w12 (⟨b1, 0, none⟩ : Addr) 0 [.int .u32 t17, .int .u32 t18, .int .u32 t19, .int .u32 t20, .int .u32 t21, .int .u32 t22, .int .u32 t23, .int .u32 t24, .int .u32 t25, .int .u32 t26, .int .u32 t27] ∧ True) → J4 b4 w12 → H 14 #[true, true, true, true, true, true, true, true, true, false, false, false, false, false, false, false, false, false, false, false, false, false, false] [(1, .slice l1 l1n l1c), (2, .pointer (some (⟨b1, 0, none⟩ : Addr))), (4, .bool s1.1), (5, .pointer r13), (7, .int .i64 s1.2), (10, .int .i64 s2), (11, .pointer r16), (114, .bool b4)] w12 by
            rcases Bool.eq_false_or_eq_true (!(s3 == s2)) with hb6 | hb6
            · have h := h0_J4 hb6
              refine HW.skip (i := 4) hH rfl (by kernel_rfl) (Skips.on rfl rfl rfl rfl rfl hb6) rfl (fun _ => hS1) ?_
              refine HW.skip (i := 5) hH rfl (by kernel_rfl) (Skips.on rfl rfl rfl rfl rfl hb6) rfl (fun _ => hS1) ?_
              refine HW.skip (i := 6) hH rfl (by kernel_rfl) (Skips.on rfl rfl rfl rfl rfl hb6) rfl (fun _ => hS1) ?_
              refine HW.skip (i := 7) hH rfl (by kernel_rfl) (Skips.on rfl rfl rfl rfl rfl hb6) rfl (fun _ => hS1) ?_
              refine HW.pure (i := 8) hH rfl (by kernel_rfl) (Wants.free rfl) rfl (fun _ => hS1) (Rd.pickT rfl hb6 rfl) ?_
              exact HW.sub hH (by exact ⟨rfl, rfl, rfl, rfl, rfl, rfl, rfl, rfl, trivial⟩) (K3 true w11 hS1 h)
            · have h := h1_J4 hb6
              refine HW.pure (i := 4) hH rfl (by kernel_rfl) (Wants.on rfl rfl rfl rfl rfl hb6) rfl (fun _ => hS1) (Rd.move (v := .pointer r13) rfl) ?_
              refine HW.take (i := 6) hH rfl (by kernel_rfl) (by kernel_rfl) (Wants.on rfl rfl rfl rfl rfl hb6) rfl (fun _ => hS1) (Rd.ldN (cs := [.int .u32 t17, .int .u32 t18, .int .u32 t19, .int .u32 t20, .int .u32 t21, .int .u32 t22, .int .u32 t23, .int .u32 t24, .int .u32 t25, .int .u32 t26, .int .u32 t27]) rfl (by kernel_rfl) (by kernel_rfl) (fun w h => cellsAt_get h.1)) ?_
              refine HW.call (i := 5) hH (by kernel_rfl) rfl (Wants.on rfl rfl rfl rfl rfl hb6) rfl (Cl.fn (f := 35) rfl Try.func35 (by kernel_rfl) rfl) h (fun e w13 h_ => ?_)
              clear h
              obtain ⟨r17, r18, r19, r20, r21, r22, r23, r24, r25, r26, r27, rfl, hS2, h⟩ := h_
              refine ⟨_, rfl, (fun _ => hS2), ?_⟩
              obtain ⟨t28, hx1, h⟩ := h
              refine HW.pure (i := 7) hH rfl (by kernel_rfl) (Wants.on rfl rfl rfl rfl rfl hb6) rfl (fun _ => hS2) (Rd.bin (v := .bool t28) rfl rfl hx1) ?_
              refine HW.pure (i := 8) hH rfl (by kernel_rfl) (Wants.free rfl) rfl (fun _ => hS2) (Rd.pickF rfl hb6 rfl) ?_
              exact HW.sub hH (by exact ⟨rfl, rfl, rfl, rfl, rfl, rfl, rfl, rfl, trivial⟩) (K3 t28 w13 hS2 h)
          intro b4 w12 hS3 h_
          have h := hJ4 b4 w12 h_; clear h_
          refine HW.pure (i := 9) hH rfl (by kernel_rfl) (Wants.free rfl) rfl (fun _ => hS3) (Rd.move (v := .bool b4) rfl) ?_
          suffices K4 : H 10 #[true, true, true, true, true, true, true, true, true, true, true, true, true, false, false, false, false, false, false, false, false, false, false] [(1, .slice l1 l1n l1c), (2, .pointer (some (⟨b1, 0, none⟩ : Addr))), (4, .bool s1.1), (5, .pointer r13), (7, .int .i64 s1.2), (10, .int .i64 s2), (11, .pointer r16), (118, .bool (b4 || Option.isNone r16))] w12 by
            rcases Bool.eq_false_or_eq_true b4 with hb8 | hb8
            · skip
              refine HW.skip (i := 10) hH rfl (by kernel_rfl) (Skips.on rfl rfl rfl rfl rfl hb8) rfl (fun _ => hS3) ?_
              refine HW.skip (i := 11) hH rfl (by kernel_rfl) (Skips.on rfl rfl rfl rfl rfl hb8) rfl (fun _ => hS3) ?_
              refine HW.pure (i := 12) hH rfl (by kernel_rfl) (Wants.free rfl) rfl (fun _ => hS3) (Rd.pickT rfl hb8 rfl) ?_
              exact HW.sub hH (by exact ⟨rfl, rfl, rfl, rfl, rfl, rfl, rfl, (by rw [hb8]; rfl), trivial⟩) K4
            · skip
              refine HW.pure (i := 10) hH rfl (by kernel_rfl) (Wants.on rfl rfl rfl rfl rfl hb8) rfl (fun _ => hS3) (Rd.move (v := .pointer r16) rfl) ?_
              refine HW.pure (i := 11) hH rfl (by kernel_rfl) (Wants.on rfl rfl rfl rfl rfl hb8) rfl (fun _ => hS3) (Rd.bin (v := .bool (Option.isNone r16)) rfl rfl (fun w => ptr_nil_eq (by kernel_rfl) r16 w)) ?_
              refine HW.pure (i := 12) hH rfl (by kernel_rfl) (Wants.free rfl) rfl (fun _ => hS3) (Rd.pickF rfl hb8 rfl) ?_
              exact HW.sub hH (by exact ⟨rfl, rfl, rfl, rfl, rfl, rfl, rfl, (by rw [hb8]; rfl), trivial⟩) K4
          refine HW.pure (i := 13) hH rfl (by kernel_rfl) (Wants.free rfl) rfl (fun _ => hS3) (Rd.move (v := .bool (b4 || Option.isNone r16)) rfl) ?_
          obtain ⟨J5, hJ5, h1_J5, h0_J5⟩ := h
          suffices K5 : ∀ (b5 : Bool) (w14 : World), (CellsAt w14 (⟨b1, 0, none⟩ : Addr) 0 [.int .u32 t17, .int .u32 t18, .int .u32 t19, .int .u32 t20, .int .u32 t21, .int .u32 t22, .int .u32 t23, .int .u32 t24, .int .u32 t25, .int .u32 t26, .int .u32 t27] ∧ True) → J5 b5 w14 → H 0 #[true, true, true, true, true, true, true, true, true, true, true, true, true, true, true, true, true, true, true, true, true, true, true] [(1, .slice l1 l1n l1c), (2, .pointer (some (⟨b1, 0, none⟩ : Addr))), (4, .bool s1.1), (5, .pointer r13), (7, .int .i64 s1.2), (128, .bool b5)] w14 by
            rcases Bool.eq_false_or_eq_true (b4 || Option.isNone r16) with hb9 | hb9
            · have h := h0_J5 hb9
              refine HW.skip (i := 14) hH rfl (by kernel_rfl) (Skips.on rfl rfl rfl rfl rfl hb9) rfl (fun _ => hS3) ?_
              refine HW.skip (i := 15) hH rfl (by kernel_rfl) (Skips.on rfl rfl rfl rfl rfl hb9) rfl (fun _ => hS3) ?_
              refine HW.skip (i := 16) hH rfl (by kernel_rfl) (Skips.on rfl rfl rfl rfl rfl hb9) rfl (fun _ => hS3) ?_
              refine HW.skip (i := 17) hH rfl (by kernel_rfl) (Skips.on rfl rfl rfl rfl rfl hb9) rfl (fun _ => hS3) ?_
              refine HW.skip (i := 18) hH rfl (by kernel_rfl) (Skips.on rfl rfl rfl rfl rfl hb9) rfl (fun _ => hS3) ?_
              refine HW.skip (i := 19) hH rfl (by kernel_rfl) (Skips.un rfl rfl rfl rfl rfl) rfl (fun _ => hS3) ?_
              refine HW.skip (i := 20) hH rfl (by kernel_rfl) (Skips.un rfl rfl rfl rfl rfl) rfl (fun _ => hS3) ?_
              refine HW.skip (i := 21) hH rfl (by kernel_rfl) (Skips.on rfl rfl rfl rfl rfl hb9) rfl (fun _ => hS3) ?_
              refine HW.pure (i := 22) hH rfl (by kernel_rfl) (Wants.free rfl) rfl (fun _ => hS3) (Rd.pickT rfl hb9 rfl) ?_
              exact HW.sub hH (by exact ⟨rfl, rfl, rfl, rfl, rfl, rfl, trivial⟩) (K5 true w12 hS3 h)
            · have h := h1_J5 hb9
              refine HW.pure (i := 14) hH rfl (by kernel_rfl) (Wants.on rfl rfl rfl rfl rfl hb9) rfl (fun _ => hS3) (Rd.move (v := .pointer r16) rfl) ?_
              refine HW.take (i := 16) hH rfl (by kernel_rfl) (by kernel_rfl) (Wants.on rfl rfl rfl rfl rfl hb9) rfl (fun _ => hS3) (Rd.ldN (cs := [.int .u32 t17, .int .u32 t18, .int .u32 t19, .int .u32 t20, .int .u32 t21, .int .u32 t22, .int .u32 t23, .int .u32 t24, .int .u32 t25, .int .u32 t26, .int .u32 t27]) rfl (by kernel_rfl) (by kernel_rfl) (fun w h => cellsAt_get h.1)) ?_
              refine HW.call (i := 15) hH (by kernel_rfl) rfl (Wants.on rfl rfl rfl rfl rfl hb9) rfl (Cl.fn (f := 35) rfl Try.func35 (by kernel_rfl) rfl) h (fun e w15 h_ => ?_)
              clear h
              obtain ⟨r28, r29, r30, r31, r32, r33, r34, r35, r36, r37, r38, rfl, hS4, h⟩ := h_
              refine ⟨_, rfl, (fun _ => hS4), ?_⟩
              obtain ⟨t29, hx2, h⟩ := h
              refine HW.pure (i := 17) hH rfl (by kernel_rfl) (Wants.on rfl rfl rfl rfl rfl hb9) rfl (fun _ => hS4) (Rd.bin (v := .bool t29) rfl rfl hx2) ?_
              refine HW.pure (i := 18) hH rfl (by kernel_rfl) (Wants.on rfl rfl rfl rfl rfl hb9) rfl (fun _ => hS4) (Rd.move (v := .bool t29) rfl) ?_
              suffices K6 : H 1 #[true, true, true, true, true, true, true, true, true, true, true, true, true, true, true, true, true, true, true, true, true, true, false] [(1, .slice l1 l1n l1c), (2, .pointer (some (⟨b1, 0, none⟩ : Addr))), (4, .bool s1.1), (5, .pointer r13), (7, .int .i64 s1.2), (119, .bool (b4 || Option.isNone r16)), (127, .bool (t29 && !(s2 == 0)))] w15 by
                rcases Bool.eq_false_or_eq_true t29 with hb11 | hb11
                · skip
                  refine HW.pure (i := 19) hH rfl (by kernel_rfl) (Wants.on rfl rfl rfl rfl rfl hb11) rfl (fun _ => hS4) (Rd.move (v := .int .i64 s2) rfl) ?_
                  refine HW.pure (i := 20) hH rfl (by kernel_rfl) (Wants.on rfl rfl rfl rfl rfl hb11) rfl (fun _ => hS4) (Rd.bin (v := .bool (!(s2 == 0))) rfl rfl (fun w => by kernel_rfl)) ?_
                  refine HW.pure (i := 21) hH rfl (by kernel_rfl) (Wants.on rfl rfl rfl rfl rfl hb9) rfl (fun _ => hS4) (Rd.pickT rfl hb11 rfl) ?_
                  exact HW.sub hH (by exact ⟨rfl, rfl, rfl, rfl, rfl, rfl, (by rw [hb11]; rfl), trivial⟩) K6
                · skip
                  refine HW.skip (i := 19) hH rfl (by kernel_rfl) (Skips.on rfl rfl rfl rfl rfl hb11) rfl (fun _ => hS4) ?_
                  refine HW.skip (i := 20) hH rfl (by kernel_rfl) (Skips.on rfl rfl rfl rfl rfl hb11) rfl (fun _ => hS4) ?_
                  refine HW.pure (i := 21) hH rfl (by kernel_rfl) (Wants.on rfl rfl rfl rfl rfl hb9) rfl (fun _ => hS4) (Rd.pickF rfl hb11 rfl) ?_
                  exact HW.sub hH (by exact ⟨rfl, rfl, rfl, rfl, rfl, rfl, (by rw [hb11]; rfl), trivial⟩) K6
              refine HW.pure (i := 22) hH rfl (by kernel_rfl) (Wants.free rfl) rfl (fun _ => hS4) (Rd.pickF rfl hb9 rfl) ?_
              exact HW.sub hH (by exact ⟨rfl, rfl, rfl, rfl, rfl, rfl, trivial⟩) (K5 (t29 && !(s2 == 0)) w15 hS4 h)
          intro b5 w14 hS5 h_
          have h := hJ5 b5 w14 h_; clear h_
          refine HW.done hH (by kernel_rfl) ?_
          refine NW.then ?_
          refine CW.cond rfl (fun hb12 => ?_) (fun hb12 => ?_)
          · replace h := h.1 hb12
            refine CW.seq ?_
            refine CW.region fun L hL => ?_
            refine LW.rd hL rfl (Wants.free rfl) rfl (Rd.assign (v := .bool false) rfl) ?_
            refine LW.nil hL rfl ?_
            refine NW.then ?_
            refine CW.ret ?_
            refine RW.block ?_
            refine RW.then ?_
            refine RW.then ?_
            refine RW.block ?_
            refine RW.then ?_
            exact res1 rfl rfl ⟨false, rfl, h⟩
          · replace h := h.2 hb12
            refine CW.skip ?_
            refine NW.block ?_
            refine NW.then ?_
            refine CW.region fun L hL => ?_
            refine LW.rd hL rfl (Wants.free rfl) rfl (Rd.move (v := .int .i64 s1.2) rfl) ?_
            refine LW.rd hL rfl (Wants.free rfl) rfl (Rd.bin (v := .int .i64 (IntKind.wrap .i64 (s1.2 + 1))) rfl rfl (fun w => by kernel_rfl)) ?_
            refine LW.rd hL rfl (Wants.free rfl) rfl (Rd.assign (v := .int .i64 (IntKind.wrap .i64 (s1.2 + 1))) rfl) ?_
            refine LW.nil hL rfl ?_
            exact NW.loop (S := Bool × Int) (Ek := fun s1 => [(1, .slice l1 l1n l1c), (2, .pointer (some (⟨b1, 0, none⟩ : Addr))), (5, .pointer r13), (4, .bool s1.1), (7, .int .i64 s1.2)]) (s1.1, IntKind.wrap .i64 (s1.2 + 1)) (by exact ⟨rfl, rfl, rfl, rfl, rfl, trivial⟩) h
        · skip
          refine CW.seq ?_
          refine CW.region fun L hL => ?_
          refine LW.rd hL rfl (Wants.free rfl) rfl (Rd.fa (v := .pointer (some (⟨b2, 0, none⟩ : Addr))) rfl (fun _ => by kernel_rfl)) ?_
          obtain ⟨t30, hc6, h⟩ := h
          refine LW.rd hL rfl (Wants.free rfl) rfl (Rd.ld (v := .int .i64 t30) rfl (by kernel_rfl) (eqs hc6)) ?_
          refine LW.nil hL rfl ?_
          refine NW.then ?_
          refine CW.block ?_
          refine CW.seq ?_
          refine CW.region fun L hL => ?_
          refine LW.rd hL rfl (Wants.free rfl) rfl (Rd.bin (v := .bool (t30 == 1)) rfl rfl (fun w => by kernel_rfl)) ?_
          refine LW.rd hL rfl (Wants.free rfl) rfl (Rd.assign (v := .bool (t30 == 1)) rfl) ?_
          refine LW.nil hL rfl ?_
          refine NW.then ?_
          refine CW.cond rfl (fun hb13 => ?_) (fun hb13 => ?_)
          · replace h := h.1 hb13
            refine CW.seq ?_
            refine CW.region fun L hL => ?_
            refine LW.rd hL rfl (Wants.free rfl) rfl (Rd.move (v := .pointer r13) rfl) ?_
            refine LW.rd hL rfl (Wants.free rfl) rfl (Rd.fa (v := .pointer (some (⟨b2, 1, none⟩ : Addr))) rfl (fun _ => by kernel_rfl)) ?_
            obtain ⟨t31, hc7, h⟩ := h
            refine LW.rd hL rfl (Wants.free rfl) rfl (Rd.ld (v := .int .i64 t31) rfl (by kernel_rfl) (eqs hc7)) ?_
            refine LW.rd hL rfl (Wants.free rfl) rfl (Rd.fa (v := .pointer (some (⟨b2, 2, none⟩ : Addr))) rfl (fun _ => by kernel_rfl)) ?_
            obtain ⟨t32, hc8, h⟩ := h
            refine LW.rd hL rfl (Wants.free rfl) rfl (Rd.ld (v := .int .u32 t32) rfl (by kernel_rfl) (eqs hc8)) ?_
            refine LW.call hL rfl (Wants.free rfl) rfl (Cl.fn (f := 33) rfl Try.func33 (by kernel_rfl) rfl) h (fun e w16 h_ => ?_)
            clear h
            obtain ⟨r39, rfl, h⟩ := h_
            refine ⟨_, rfl, ?_⟩
            refine LW.rd hL rfl (Wants.free rfl) rfl (Rd.assign (v := .int .i64 r39) rfl) ?_
            refine LW.nil hL rfl ?_
            refine NW.then ?_
            refine CW.seq ?_
            refine CW.region fun L hL => ?_
            refine LW.rd hL rfl (Wants.free rfl) rfl (Rd.move (v := .int .i64 s2) rfl) ?_
            refine LW.rd hL rfl (Wants.free rfl) rfl (Rd.bin (v := .bool (s2 == 0)) rfl rfl (fun w => by kernel_rfl)) ?_
            refine LW.nil hL rfl ?_
            refine NW.then ?_
            refine CW.cond rfl (fun hb14 => ?_) (fun hb14 => ?_)
            · replace h := h.1 hb14
              refine CW.region fun L hL => ?_
              refine LW.rd hL rfl (Wants.free rfl) rfl (Rd.fa (v := .pointer (some (⟨b2, 1, none⟩ : Addr))) rfl (fun _ => by kernel_rfl)) ?_
              obtain ⟨t33, hc9, h⟩ := h
              refine LW.rd hL rfl (Wants.free rfl) rfl (Rd.ld (v := .int .i64 t33) rfl (by kernel_rfl) (eqs hc9)) ?_
              refine LW.rd hL rfl (Wants.free rfl) rfl (Rd.fa (v := .pointer (some (⟨b2, 2, none⟩ : Addr))) rfl (fun _ => by kernel_rfl)) ?_
              obtain ⟨t34, hc10, h⟩ := h
              refine LW.rd hL rfl (Wants.free rfl) rfl (Rd.ld (v := .int .u32 t34) rfl (by kernel_rfl) (eqs hc10)) ?_
              refine LW.rd hL rfl (Wants.free rfl) rfl (Rd.fa (v := .pointer (some (⟨b1, 0, none⟩ : Addr))) rfl (fun _ => by kernel_rfl)) ?_
              obtain ⟨hi3, hi4, h⟩ := h
              refine LW.rd hL rfl (Wants.free rfl) rfl (Rd.iaA (sz := 1) rfl rfl Try.underlying64 (by kernel_rfl) hi3 hi4) ?_
              obtain ⟨⟨o_w17, ho2⟩, hf2, h⟩ := h
              obtain ⟨w17, hw_w17⟩ : ∃ w17, w17 = World.setCell w16 ((⟨b1, 0, none⟩ : Addr).add (Int.toNat t33 * 1)) (.int .u32 t34) := ⟨_, rfl⟩
              replace h := h w17 hw_w17
              refine LW.eff hL rfl (Wants.free rfl) rfl (stE hw_w17 (Ef.st rfl rfl rfl (by kernel_rfl) ho2 hf2)) ?_
              refine LW.nil hL rfl ?_
              refine NW.block ?_
              exact NW.cut (S := Int) (Ek := fun s3 => [(1, .slice l1 l1n l1c), (2, .pointer (some (⟨b1, 0, none⟩ : Addr))), (4, .bool s1.1), (5, .pointer r13), (7, .int .i64 s1.2), (10, .int .i64 s2), (11, .pointer r16), (12, .int .i64 s3)]) r39 (by exact ⟨rfl, rfl, rfl, rfl, rfl, rfl, rfl, rfl, trivial⟩) h
            · replace h := h.2 hb14
              refine CW.skip ?_
              refine NW.block ?_
              exact NW.cut (S := Int) (Ek := fun s3 => [(1, .slice l1 l1n l1c), (2, .pointer (some (⟨b1, 0, none⟩ : Addr))), (4, .bool s1.1), (5, .pointer r13), (7, .int .i64 s1.2), (10, .int .i64 s2), (11, .pointer r16), (12, .int .i64 s3)]) r39 (by exact ⟨rfl, rfl, rfl, rfl, rfl, rfl, rfl, rfl, trivial⟩) h
          · replace h := h.2 hb13
            refine CW.seq ?_
            refine CW.region fun L hL => ?_
            refine LW.rd hL rfl (Wants.free rfl) rfl (Rd.bin (v := .bool (t30 == 2)) rfl rfl (fun w => by kernel_rfl)) ?_
            refine LW.rd hL rfl (Wants.free rfl) rfl (Rd.assign (v := .bool (t30 == 2)) rfl) ?_
            refine LW.nil hL rfl ?_
            refine NW.then ?_
            refine CW.cond rfl (fun hb15 => ?_) (fun hb15 => ?_)
            · replace h := h.1 hb15
              refine CW.seq ?_
              refine CW.region fun L hL => ?_
              refine LW.rd hL rfl (Wants.free rfl) rfl (Rd.move (v := .pointer r13) rfl) ?_
              refine LW.rd hL rfl (Wants.free rfl) rfl (Rd.fa (v := .pointer (some (⟨b2, 1, none⟩ : Addr))) rfl (fun _ => by kernel_rfl)) ?_
              obtain ⟨t35, hc11, h⟩ := h
              refine LW.rd hL rfl (Wants.free rfl) rfl (Rd.ld (v := .int .i64 t35) rfl (by kernel_rfl) (eqs hc11)) ?_
              refine LW.rd hL rfl (Wants.free rfl) rfl (Rd.fa (v := .pointer (some (⟨b2, 2, none⟩ : Addr))) rfl (fun _ => by kernel_rfl)) ?_
              obtain ⟨t36, hc12, h⟩ := h
              refine LW.rd hL rfl (Wants.free rfl) rfl (Rd.ld (v := .int .u32 t36) rfl (by kernel_rfl) (eqs hc12)) ?_
              refine LW.call hL rfl (Wants.free rfl) rfl (Cl.fn (f := 34) rfl Try.func34 (by kernel_rfl) rfl) h (fun e w18 h_ => ?_)
              clear h
              obtain ⟨r40, rfl, h⟩ := h_
              refine ⟨_, rfl, ?_⟩
              refine LW.rd hL rfl (Wants.free rfl) rfl (Rd.assign (v := .int .i64 r40) rfl) ?_
              refine LW.nil hL rfl ?_
              refine NW.then ?_
              refine CW.seq ?_
              refine CW.region fun L hL => ?_
              refine LW.rd hL rfl (Wants.free rfl) rfl (Rd.move (v := .int .i64 s2) rfl) ?_
              refine LW.rd hL rfl (Wants.free rfl) rfl (Rd.bin (v := .bool (s2 == 0)) rfl rfl (fun w => by kernel_rfl)) ?_
              refine LW.nil hL rfl ?_
              refine NW.then ?_
              refine CW.cond rfl (fun hb16 => ?_) (fun hb16 => ?_)
              · replace h := h.1 hb16
                refine CW.region fun L hL => ?_
                refine LW.rd hL rfl (Wants.free rfl) rfl (Rd.fa (v := .pointer (some (⟨b2, 1, none⟩ : Addr))) rfl (fun _ => by kernel_rfl)) ?_
                obtain ⟨t37, hc13, h⟩ := h
                refine LW.rd hL rfl (Wants.free rfl) rfl (Rd.ld (v := .int .i64 t37) rfl (by kernel_rfl) (eqs hc13)) ?_
                refine LW.rd hL rfl (Wants.free rfl) rfl (Rd.fa (v := .pointer (some (⟨b2, 2, none⟩ : Addr))) rfl (fun _ => by kernel_rfl)) ?_
                obtain ⟨t38, hc14, h⟩ := h
                refine LW.rd hL rfl (Wants.free rfl) rfl (Rd.ld (v := .int .u32 t38) rfl (by kernel_rfl) (eqs hc14)) ?_
                refine LW.rd hL rfl (Wants.free rfl) rfl (Rd.fa (v := .pointer (some (⟨b1, 5, none⟩ : Addr))) rfl (fun _ => by kernel_rfl)) ?_
                obtain ⟨hi5, hi6, h⟩ := h
                refine LW.rd hL rfl (Wants.free rfl) rfl (Rd.iaA (sz := 1) rfl rfl Try.underlying64 (by kernel_rfl) hi5 hi6) ?_
                obtain ⟨⟨o_w19, ho3⟩, hf3, h⟩ := h
                obtain ⟨w19, hw_w19⟩ : ∃ w19, w19 = World.setCell w18 ((⟨b1, 5, none⟩ : Addr).add (Int.toNat t37 * 1)) (.int .u32 t38) := ⟨_, rfl⟩
                replace h := h w19 hw_w19
                refine LW.eff hL rfl (Wants.free rfl) rfl (stE hw_w19 (Ef.st rfl rfl rfl (by kernel_rfl) ho3 hf3)) ?_
                refine LW.nil hL rfl ?_
                refine NW.block ?_
                exact NW.cut (S := Int) (Ek := fun s3 => [(1, .slice l1 l1n l1c), (2, .pointer (some (⟨b1, 0, none⟩ : Addr))), (4, .bool s1.1), (5, .pointer r13), (7, .int .i64 s1.2), (10, .int .i64 s2), (11, .pointer r16), (12, .int .i64 s3)]) r40 (by exact ⟨rfl, rfl, rfl, rfl, rfl, rfl, rfl, rfl, trivial⟩) h
              · replace h := h.2 hb16
                refine CW.skip ?_
                refine NW.block ?_
                exact NW.cut (S := Int) (Ek := fun s3 => [(1, .slice l1 l1n l1c), (2, .pointer (some (⟨b1, 0, none⟩ : Addr))), (4, .bool s1.1), (5, .pointer r13), (7, .int .i64 s1.2), (10, .int .i64 s2), (11, .pointer r16), (12, .int .i64 s3)]) r40 (by exact ⟨rfl, rfl, rfl, rfl, rfl, rfl, rfl, rfl, trivial⟩) h
            · replace h := h.2 hb15
              refine CW.seq ?_
              refine CW.region fun L hL => ?_
              refine LW.rd hL rfl (Wants.free rfl) rfl (Rd.move (v := .pointer r13) rfl) ?_
              refine LW.rd hL rfl (Wants.free rfl) rfl (Rd.fa (v := .pointer (some (⟨b2, 2, none⟩ : Addr))) rfl (fun _ => by kernel_rfl)) ?_
              obtain ⟨t39, hc15, h⟩ := h
              refine LW.rd hL rfl (Wants.free rfl) rfl (Rd.ld (v := .int .u32 t39) rfl (by kernel_rfl) (eqs hc15)) ?_
              refine LW.call hL rfl (Wants.free rfl) rfl (Cl.fn (f := 22) rfl Try.func22 (by kernel_rfl) rfl) h (fun e w20 h_ => ?_)
              clear h
              obtain ⟨r41, rfl, h⟩ := h_
              refine ⟨_, rfl, ?_⟩
              refine LW.rd hL rfl (Wants.free rfl) rfl (Rd.assign (v := .int .i64 r41) rfl) ?_
              refine LW.nil hL rfl ?_
              refine NW.then ?_
              refine CW.seq ?_
              refine CW.region fun L hL => ?_
              refine LW.rd hL rfl (Wants.free rfl) rfl (Rd.move (v := .int .i64 s2) rfl) ?_
              refine LW.rd hL rfl (Wants.free rfl) rfl (Rd.bin (v := .bool (s2 == 0)) rfl rfl (fun w => by kernel_rfl)) ?_
              refine LW.nil hL rfl ?_
              refine NW.then ?_
              refine CW.cond rfl (fun hb17 => ?_) (fun hb17 => ?_)
              · replace h := h.1 hb17
                refine CW.region fun L hL => ?_
                refine LW.rd hL rfl (Wants.free rfl) rfl (Rd.fa (v := .pointer (some (⟨b2, 2, none⟩ : Addr))) rfl (fun _ => by kernel_rfl)) ?_
                obtain ⟨t40, hc16, h⟩ := h
                refine LW.rd hL rfl (Wants.free rfl) rfl (Rd.ld (v := .int .u32 t40) rfl (by kernel_rfl) (eqs hc16)) ?_
                refine LW.rd hL rfl (Wants.free rfl) rfl (Rd.fa (v := .pointer (some (⟨b1, 10, none⟩ : Addr))) rfl (fun _ => by kernel_rfl)) ?_
                obtain ⟨⟨o_w21, ho4⟩, hf4, h⟩ := h
                obtain ⟨w21, hw_w21⟩ : ∃ w21, w21 = World.setCell w20 (⟨b1, 10, none⟩ : Addr) (.int .u32 t40) := ⟨_, rfl⟩
                replace h := h w21 hw_w21
                refine LW.eff hL rfl (Wants.free rfl) rfl (stE hw_w21 (Ef.st rfl rfl rfl (by kernel_rfl) ho4 hf4)) ?_
                refine LW.nil hL rfl ?_
                refine NW.block ?_
                exact NW.cut (S := Int) (Ek := fun s3 => [(1, .slice l1 l1n l1c), (2, .pointer (some (⟨b1, 0, none⟩ : Addr))), (4, .bool s1.1), (5, .pointer r13), (7, .int .i64 s1.2), (10, .int .i64 s2), (11, .pointer r16), (12, .int .i64 s3)]) r41 (by exact ⟨rfl, rfl, rfl, rfl, rfl, rfl, rfl, rfl, trivial⟩) h
              · replace h := h.2 hb17
                refine CW.skip ?_
                refine NW.block ?_
                exact NW.cut (S := Int) (Ek := fun s3 => [(1, .slice l1 l1n l1c), (2, .pointer (some (⟨b1, 0, none⟩ : Addr))), (4, .bool s1.1), (5, .pointer r13), (7, .int .i64 s1.2), (10, .int .i64 s2), (11, .pointer r16), (12, .int .i64 s3)]) r41 (by exact ⟨rfl, rfl, rfl, rfl, rfl, rfl, rfl, rfl, trivial⟩) h
      · skip
        refine CW.seq ?_
        refine CW.region fun L hL => ?_
        refine LW.rd hL rfl (Wants.free rfl) rfl (Rd.fa (v := .pointer (some (⟨b2, 2, none⟩ : Addr))) rfl (fun _ => by kernel_rfl)) ?_
        obtain ⟨t41, hc17, h⟩ := h
        refine LW.rd hL rfl (Wants.free rfl) rfl (Rd.ld (v := .int .u32 t41) rfl (by kernel_rfl) (eqs hc17)) ?_
        refine LW.rd hL rfl (Wants.free rfl) rfl (Rd.bin (v := .bool (decide (t41 ≥ 65536))) rfl rfl (fun w => by kernel_rfl)) ?_
        refine LW.rd hL rfl (Wants.free rfl) rfl (Rd.move (v := .bool (decide (t41 ≥ 65536))) rfl) ?_
        obtain ⟨J6, hJ6, h1_J6, h0_J6⟩ := h
        suffices K7 : ∀ (b6 : Bool) (w22 : World), J6 b6 w22 → L 17 [(1, .slice l1 l1n l1c), (2, .pointer (some (⟨b1, 0, none⟩ : Addr))), (4, .bool s1.1), (5, .pointer r13), (7, .int .i64 s1.2), (8, .pointer (some (⟨b2, 0, none⟩ : Addr))), (10, .int .i64 0), (60, .bool b6)] w22 by
          rcases Bool.eq_false_or_eq_true (decide (t41 ≥ 65536)) with hb18 | hb18
          · have h := h0_J6 hb18
            refine LW.skip hL rfl (Skips.on rfl rfl rfl rfl rfl hb18) rfl ?_
            refine LW.skip hL rfl (Skips.on rfl rfl rfl rfl rfl hb18) rfl ?_
            refine LW.skip hL rfl (Skips.on rfl rfl rfl rfl rfl hb18) rfl ?_
            refine LW.skip hL rfl (Skips.on rfl rfl rfl rfl rfl hb18) rfl ?_
            refine LW.skip hL rfl (Skips.un rfl rfl rfl rfl rfl) rfl ?_
            refine LW.skip hL rfl (Skips.un rfl rfl rfl rfl rfl) rfl ?_
            refine LW.skip hL rfl (Skips.un rfl rfl rfl rfl rfl) rfl ?_
            refine LW.skip hL rfl (Skips.on rfl rfl rfl rfl rfl hb18) rfl ?_
            refine LW.skip hL rfl (Skips.on rfl rfl rfl rfl rfl hb18) rfl ?_
            refine LW.skip hL rfl (Skips.un rfl rfl rfl rfl rfl) rfl ?_
            refine LW.skip hL rfl (Skips.un rfl rfl rfl rfl rfl) rfl ?_
            refine LW.skip hL rfl (Skips.on rfl rfl rfl rfl rfl hb18) rfl ?_
            refine LW.rd hL rfl (Wants.free rfl) rfl (Rd.pickT rfl hb18 rfl) ?_
            exact LW.sub hL (by exact ⟨rfl, rfl, rfl, rfl, rfl, rfl, rfl, rfl, trivial⟩) (K7 true w7 h)
          · have h := h1_J6 hb18
            refine LW.rd hL rfl (Wants.on rfl rfl rfl rfl rfl hb18) rfl (Rd.fa (v := .pointer (some (⟨b2, 0, none⟩ : Addr))) rfl (fun _ => by kernel_rfl)) ?_
            obtain ⟨t42, hc18, h⟩ := h
            refine LW.rd hL rfl (Wants.on rfl rfl rfl rfl rfl hb18) rfl (Rd.ld (v := .int .i64 t42) rfl (by kernel_rfl) (eqs hc18)) ?_
            refine LW.rd hL rfl (Wants.on rfl rfl rfl rfl rfl hb18) rfl (Rd.bin (v := .bool (t42 == 1)) rfl rfl (fun w => by kernel_rfl)) ?_
            refine LW.rd hL rfl (Wants.on rfl rfl rfl rfl rfl hb18) rfl (Rd.move (v := .bool (t42 == 1)) rfl) ?_
            obtain ⟨J7, hJ7, h1_J7, h0_J7⟩ := h
            suffices K8 : ∀ (b7 : Bool) (w23 : World), J7 b7 w23 → L 12 [(1, .slice l1 l1n l1c), (2, .pointer (some (⟨b1, 0, none⟩ : Addr))), (4, .bool s1.1), (5, .pointer r13), (7, .int .i64 s1.2), (8, .pointer (some (⟨b2, 0, none⟩ : Addr))), (9, .bool b3), (10, .int .i64 0), (47, .bool (decide (t41 ≥ 65536))), (55, .bool b7)] w23 by
              rcases Bool.eq_false_or_eq_true (t42 == 1) with hb19 | hb19
              · have h := h0_J7 hb19
                refine LW.skip hL rfl (Skips.on rfl rfl rfl rfl rfl hb19) rfl ?_
                refine LW.skip hL rfl (Skips.on rfl rfl rfl rfl rfl hb19) rfl ?_
                refine LW.skip hL rfl (Skips.on rfl rfl rfl rfl rfl hb19) rfl ?_
                refine LW.rd hL rfl (Wants.on rfl rfl rfl rfl rfl hb18) rfl (Rd.pickT rfl hb19 rfl) ?_
                exact LW.sub hL (by exact ⟨rfl, rfl, rfl, rfl, rfl, rfl, rfl, rfl, rfl, rfl, trivial⟩) (K8 true w7 h)
              · have h := h1_J7 hb19
                refine LW.rd hL rfl (Wants.on rfl rfl rfl rfl rfl hb19) rfl (Rd.fa (v := .pointer (some (⟨b2, 0, none⟩ : Addr))) rfl (fun _ => by kernel_rfl)) ?_
                obtain ⟨t43, hc19, h⟩ := h
                refine LW.rd hL rfl (Wants.on rfl rfl rfl rfl rfl hb19) rfl (Rd.ld (v := .int .i64 t43) rfl (by kernel_rfl) (eqs hc19)) ?_
                refine LW.rd hL rfl (Wants.on rfl rfl rfl rfl rfl hb19) rfl (Rd.bin (v := .bool (t43 == 2)) rfl rfl (fun w => by kernel_rfl)) ?_
                refine LW.rd hL rfl (Wants.on rfl rfl rfl rfl rfl hb18) rfl (Rd.pickF rfl hb19 rfl) ?_
                exact LW.sub hL (by exact ⟨rfl, rfl, rfl, rfl, rfl, rfl, rfl, rfl, rfl, rfl, trivial⟩) (K8 (t43 == 2) w7 h)
            intro b7 w23 h_
            have h := hJ7 b7 w23 h_; clear h_
            refine LW.rd hL rfl (Wants.on rfl rfl rfl rfl rfl hb18) rfl (Rd.move (v := .bool b7) rfl) ?_
            suffices K9 : L 16 [(1, .slice l1 l1n l1c), (2, .pointer (some (⟨b1, 0, none⟩ : Addr))), (4, .bool s1.1), (5, .pointer r13), (7, .int .i64 s1.2), (8, .pointer (some (⟨b2, 0, none⟩ : Addr))), (10, .int .i64 0), (47, .bool (decide (t41 ≥ 65536))), (59, .bool (b7 && !b3))] w23 by
              rcases Bool.eq_false_or_eq_true b7 with hb21 | hb21
              · skip
                refine LW.rd hL rfl (Wants.on rfl rfl rfl rfl rfl hb21) rfl (Rd.move (v := .bool b3) rfl) ?_
                refine LW.rd hL rfl (Wants.on rfl rfl rfl rfl rfl hb21) rfl (Rd.un (v := .bool (!b3)) rfl (fun _ => by kernel_rfl)) ?_
                refine LW.rd hL rfl (Wants.on rfl rfl rfl rfl rfl hb18) rfl (Rd.pickT rfl hb21 rfl) ?_
                exact LW.sub hL (by exact ⟨rfl, rfl, rfl, rfl, rfl, rfl, rfl, rfl, (by rw [hb21]; rfl), trivial⟩) K9
              · skip
                refine LW.skip hL rfl (Skips.on rfl rfl rfl rfl rfl hb21) rfl ?_
                refine LW.skip hL rfl (Skips.on rfl rfl rfl rfl rfl hb21) rfl ?_
                refine LW.rd hL rfl (Wants.on rfl rfl rfl rfl rfl hb18) rfl (Rd.pickF rfl hb21 rfl) ?_
                exact LW.sub hL (by exact ⟨rfl, rfl, rfl, rfl, rfl, rfl, rfl, rfl, (by rw [hb21]; rfl), trivial⟩) K9
            refine LW.rd hL rfl (Wants.free rfl) rfl (Rd.pickF rfl hb18 rfl) ?_
            exact LW.sub hL (by exact ⟨rfl, rfl, rfl, rfl, rfl, rfl, rfl, rfl, trivial⟩) (K7 (b7 && !b3) w23 h)
        intro b6 w22 h_
        have h := hJ6 b6 w22 h_; clear h_
        refine LW.nil hL rfl ?_
        refine NW.then ?_
        refine CW.cond rfl (fun hb22 => ?_) (fun hb22 => ?_)
        · replace h := h.1 hb22
          refine CW.region fun L hL => ?_
          refine LW.rd hL rfl (Wants.free rfl) rfl (Rd.assign (v := .int .i64 2) rfl) ?_
          refine LW.nil hL rfl ?_
          exact NW.cut (S := Int) (Ek := fun s2 => [(1, .slice l1 l1n l1c), (2, .pointer (some (⟨b1, 0, none⟩ : Addr))), (4, .bool s1.1), (5, .pointer r13), (7, .int .i64 s1.2), (8, .pointer (some (⟨b2, 0, none⟩ : Addr))), (10, .int .i64 s2)]) 2 (by exact ⟨rfl, rfl, rfl, rfl, rfl, rfl, rfl, trivial⟩) h
        · replace h := h.2 hb22
          refine CW.skip ?_
          exact NW.cut (S := Int) (Ek := fun s2 => [(1, .slice l1 l1n l1c), (2, .pointer (some (⟨b1, 0, none⟩ : Addr))), (4, .bool s1.1), (5, .pointer r13), (7, .int .i64 s1.2), (8, .pointer (some (⟨b2, 0, none⟩ : Addr))), (10, .int .i64 s2)]) 0 (by exact ⟨rfl, rfl, rfl, rfl, rfl, rfl, rfl, trivial⟩) h
    · replace h := h.2 hb4
      refine CW.exit ?_
      refine XW.then ?_
      refine XW.then ?_
      refine XW.hit ?_
      refine NW.then ?_
      refine CW.seq ?_
      refine CW.region fun L hL => ?_
      refine LW.call hL rfl (Wants.free rfl) rfl (Cl.fn (f := 18) rfl Try.func18 (by kernel_rfl) rfl) h (fun e w24 h_ => ?_)
      clear h
      obtain ⟨r42, rfl, h⟩ := h_
      refine ⟨_, rfl, ?_⟩
      refine LW.rd hL rfl (Wants.free rfl) rfl (Rd.assign (v := .bool r42) rfl) ?_
      refine LW.nil hL rfl ?_
      refine NW.then ?_
      refine CW.ret ?_
      exact res1 rfl rfl ⟨r42, rfl, h⟩

end Go.Proofs.Ytkfncibmfcdokaa
