import Derived.Test.YtkfncibmfcdokaaProg
import Derived.Test.YtkfncibmfcdokaaXEq
set_option linter.unusedVariables false
set_option linter.unusedSimpArgs false
namespace Go.Proofs.Ytkfncibmfcdokaa
open Go.X

/- (pomander/pomanderref12.Flow).Mark -/
def V_pomanderref12_Flow_Mark (f1 : Int) (f2 : Int) (f3 : Int) (f4 : Option Addr) (f4n : Nat) (f4c : Nat) (f5 : Option Addr) (f5n : Nat) (f5c : Nat) (p1 : Int) (p2 : Int) (n1 : Int) (set1 : Int) (w : World) (R : Int → Int → Int → (Option Addr) → Nat → Nat → (Option Addr) → Nat → Nat → Int → World → Prop) : Prop :=
  ∀ b1 : Nat, b1 = World.size w → ∀ w1 : World, w1 = World.alloc w (.cells #[.int .i64 f1, .int .i64 f2, .int .i64 f3, .slice f4 f4n f4c, .slice f5 f5n f5c] 36) → (∀ b2 : Nat, b2 = World.size w1 → ∀ w2 : World, w2 = World.alloc w1 (.cells #[.int .i64 p1, .int .i64 p2] 56) → (∀ b3 : Nat, b3 = World.size w2 → ∀ w3 : World, w3 = World.alloc w2 (.cells #[.int .i64 0, .int .i64 0, .int .i64 0, .slice none 0 0, .slice none 0 0] 36) → (∃ (t1 : Int) (t2 : Int) (t3 : Int) (t4 : Option Addr) (t4n : Nat) (t4c : Nat) (t5 : Option Addr) (t5n : Nat) (t5c : Nat), CellsAt w3 (⟨b1, 0, none⟩ : Addr) 0 [.int .i64 t1, .int .i64 t2, .int .i64 t3, .slice t4 t4n t4c, .slice t5 t5n t5c] ∧ (∃ (t6 : Int) (t7 : Int), CellsAt w3 (⟨b2, 0, none⟩ : Addr) 0 [.int .i64 t6, .int .i64 t7] ∧ (Calls Try.prog 29 #[.agg #[.int .i64 t1, .int .i64 t2, .int .i64 t3, .slice t4 t4n t4c, .slice t5 t5n t5c], .agg #[.int .i64 t6, .int .i64 t7]] w3 fun e w4 => ∃ (r7 : Bool), e = .returned (.bool r7) ∧ (((!r7 || decide (set1 ≥ 65536)) = true → ∃ (t8 : Int) (t9 : Int) (t10 : Int) (t11 : Option Addr) (t11n : Nat) (t11c : Nat) (t12 : Option Addr) (t12n : Nat) (t12c : Nat), CellsAt w4 (⟨b1, 0, none⟩ : Addr) 0 [.int .i64 t8, .int .i64 t9, .int .i64 t10, .slice t11 t11n t11c, .slice t12 t12n t12c] ∧ (Has w4 (⟨b3, 0, none⟩ : Addr) 5 ∧ Free w4 (⟨b3, 0, none⟩ : Addr) 5 ∧ ∀ w5 : World, w5 = setCells w4 (⟨b3, 0, none⟩ : Addr) 0 [.int .i64 t8, .int .i64 t9, .int .i64 t10, .slice t11 t11n t11c, .slice t12 t12n t12c] → (∃ (r8 : Int) (r9 : Int) (r10 : Int) (r11 : Option Addr) (r11n : Nat) (r11c : Nat) (r12 : Option Addr) (r12n : Nat) (r12c : Nat), CellsAt w5 (⟨b3, 0, none⟩ : Addr) 0 [.int .i64 r8, .int .i64 r9, .int .i64 r10, .slice r11 r11n r11c, .slice r12 r12n r12c] ∧ R r8 r9 r10 r11 r11n r11c r12 r12n r12c 2 w5))) ∧ ((!r7 || decide (set1 ≥ 65536)) = false → ∃ J1 : Bool → World → Prop, (∀ (b4 : Bool) (w6 : World), J1 b4 w6 → (b4 = true → ∃ (t20 : Int) (t21 : Int) (t22 : Int) (t23 : Option Addr) (t23n : Nat) (t23c : Nat) (t24 : Option Addr) (t24n : Nat) (t24c : Nat), CellsAt w6 (⟨b1, 0, none⟩ : Addr) 0 [.int .i64 t20, .int .i64 t21, .int .i64 t22, .slice t23 t23n t23c, .slice t24 t24n t24c] ∧ (Has w6 (⟨b3, 0, none⟩ : Addr) 5 ∧ Free w6 (⟨b3, 0, none⟩ : Addr) 5 ∧ ∀ w9 : World, w9 = setCells w6 (⟨b3, 0, none⟩ : Addr) 0 [.int .i64 t20, .int .i64 t21, .int .i64 t22, .slice t23 t23n t23c, .slice t24 t24n t24c] → (∃ (r14 : Int) (r15 : Int) (r16 : Int) (r17 : Option Addr) (r17n : Nat) (r17c : Nat) (r18 : Option Addr) (r18n : Nat) (r18c : Nat), CellsAt w9 (⟨b3, 0, none⟩ : Addr) 0 [.int .i64 r14, .int .i64 r15, .int .i64 r16, .slice r17 r17n r17c, .slice r18 r18n r18c] ∧ R r14 r15 r16 r17 r17n r17c r18 r18n r18c 4 w9))) ∧ (b4 = false → ∃ (t25 : Int) (t26 : Option Addr) (t26n : Nat) (t26c : Nat), CellsAt w6 (⟨b1, 2, none⟩ : Addr) 0 [.int .i64 t25, .slice t26 t26n t26c] ∧ (Calls Try.prog 104 #[.agg #[.int .i64 t25, .slice t26 t26n t26c], .int .u32 set1] w6 fun e w10 => ∃ (r19 : Int) (r20 : Option Addr) (r20n : Nat) (r20c : Nat) (r21 : Int) (r22 : Int), e = .returned (.tuple #[.agg #[.int .i64 r19, .slice r20 r20n r20c], .int .i64 r21, .int .i64 r22]) ∧ (∀ b6 : Nat, b6 = World.size w10 → ∀ w11 : World, w11 = World.alloc w10 (.cells #[.int .i64 0, .slice none 0 0] 33) → (Has w11 (⟨b6, 0, none⟩ : Addr) 2 ∧ Free w11 (⟨b6, 0, none⟩ : Addr) 2 ∧ ∀ w12 : World, w12 = setCells w11 (⟨b6, 0, none⟩ : Addr) 0 [.int .i64 r19, .slice r20 r20n r20c] → (((!(r22 == 0)) = true → ∃ (t27 : Int) (t28 : Int) (t29 : Int) (t30 : Option Addr) (t30n : Nat) (t30c : Nat) (t31 : Option Addr) (t31n : Nat) (t31c : Nat), CellsAt w12 (⟨b1, 0, none⟩ : Addr) 0 [.int .i64 t27, .int .i64 t28, .int .i64 t29, .slice t30 t30n t30c, .slice t31 t31n t31c] ∧ (Has w12 (⟨b3, 0, none⟩ : Addr) 5 ∧ Free w12 (⟨b3, 0, none⟩ : Addr) 5 ∧ ∀ w13 : World, w13 = setCells w12 (⟨b3, 0, none⟩ : Addr) 0 [.int .i64 t27, .int .i64 t28, .int .i64 t29, .slice t30 t30n t30c, .slice t31 t31n t31c] → (∃ (r23 : Int) (r24 : Int) (r25 : Int) (r26 : Option Addr) (r26n : Nat) (r26c : Nat) (r27 : Option Addr) (r27n : Nat) (r27c : Nat), CellsAt w13 (⟨b3, 0, none⟩ : Addr) 0 [.int .i64 r23, .int .i64 r24, .int .i64 r25, .slice r26 r26n r26c, .slice r27 r27n r27c] ∧ R r23 r24 r25 r26 r26n r26c r27 r27n r27c r22 w13))) ∧ ((!(r22 == 0)) = false → ∃ (t32 : Int) (t33 : Option Addr) (t33n : Nat) (t33c : Nat), CellsAt w12 (⟨b6, 0, none⟩ : Addr) 0 [.int .i64 t32, .slice t33 t33n t33c] ∧ (Has w12 (⟨b1, 2, none⟩ : Addr) 2 ∧ Free w12 (⟨b1, 2, none⟩ : Addr) 2 ∧ ∀ w14 : World, w14 = setCells w12 (⟨b1, 2, none⟩ : Addr) 0 [.int .i64 t32, .slice t33 t33n t33c] → (∃ (I1 : Int → World → Prop) (m1 : Int → World → Nat), I1 0 w14 ∧ ∀ (s1 : Int) (w15 : World), I1 s1 w15 → ((decide (s1 < n1)) = true → ∃ (t34 : Int) (t35 : Int) (t36 : Int) (t37 : Option Addr) (t37n : Nat) (t37c : Nat) (t38 : Option Addr) (t38n : Nat) (t38c : Nat), CellsAt w15 (⟨b1, 0, none⟩ : Addr) 0 [.int .i64 t34, .int .i64 t35, .int .i64 t36, .slice t37 t37n t37c, .slice t38 t38n t38c] ∧ (∃ (t39 : Int), w15.cell? (⟨b2, 0, none⟩ : Addr) = some (.int .i64 t39) ∧ (∃ (t40 : Int), w15.cell? (⟨b2, 1, none⟩ : Addr) = some (.int .i64 t40) ∧ (Calls Try.prog 105 #[.agg #[.int .i64 t34, .int .i64 t35, .int .i64 t36, .slice t37 t37n t37c, .slice t38 t38n t38c], .agg #[.int .i64 t39, .int .i64 (IntKind.wrap .i64 (t40 + s1))], .int .u32 set1] w15 fun e w16 => ∃ (r28 : Int) (r29 : Int) (r30 : Int) (r31 : Option Addr) (r31n : Nat) (r31c : Nat) (r32 : Option Addr) (r32n : Nat) (r32c : Nat), e = .returned (.agg #[.int .i64 r28, .int .i64 r29, .int .i64 r30, .slice r31 r31n r31c, .slice r32 r32n r32c]) ∧ (Has w16 (⟨b1, 0, none⟩ : Addr) 5 ∧ Free w16 (⟨b1, 0, none⟩ : Addr) 5 ∧ ∀ w17 : World, w17 = setCells w16 (⟨b1, 0, none⟩ : Addr) 0 [.int .i64 r28, .int .i64 r29, .int .i64 r30, .slice r31 r31n r31c, .slice r32 r32n r32c] → ((I1 (IntKind.wrap .i64 (s1 + 1)) w17 ∧ m1 (IntKind.wrap .i64 (s1 + 1)) w17 < m1 s1 w15))))))) ∧ ((decide (s1 < n1)) = false → ∃ (t41 : Int) (t42 : Int) (t43 : Int) (t44 : Option Addr) (t44n : Nat) (t44c : Nat) (t45 : Option Addr) (t45n : Nat) (t45c : Nat), CellsAt w15 (⟨b1, 0, none⟩ : Addr) 0 [.int .i64 t41, .int .i64 t42, .int .i64 t43, .slice t44 t44n t44c, .slice t45 t45n t45c] ∧ (Has w15 (⟨b3, 0, none⟩ : Addr) 5 ∧ Free w15 (⟨b3, 0, none⟩ : Addr) 5 ∧ ∀ w18 : World, w18 = setCells w15 (⟨b3, 0, none⟩ : Addr) 0 [.int .i64 t41, .int .i64 t42, .int .i64 t43, .slice t44 t44n t44c, .slice t45 t45n t45c] → (∃ (r33 : Int) (r34 : Int) (r35 : Int) (r36 : Option Addr) (r36n : Nat) (r36c : Nat) (r37 : Option Addr) (r37n : Nat) (r37c : Nat), CellsAt w18 (⟨b3, 0, none⟩ : Addr) 0 [.int .i64 r33, .int .i64 r34, .int .i64 r35, .slice r36 r36n r36c, .slice r37 r37n r37c] ∧ R r33 r34 r35 r36 r36n r36c r37 r37n r37c 0 w18)))))))))))) ∧ (((decide (n1 < 0) || decide (n1 > 65536)) = false → ∃ J2 : Bool → World → Prop, (∀ (b5 : Bool) (w7 : World), J2 b5 w7 → J1 b5 w7) ∧ (((decide (n1 > 0)) = true → ∃ (t13 : Int) (t14 : Int) (t15 : Int) (t16 : Option Addr) (t16n : Nat) (t16c : Nat) (t17 : Option Addr) (t17n : Nat) (t17c : Nat), CellsAt w4 (⟨b1, 0, none⟩ : Addr) 0 [.int .i64 t13, .int .i64 t14, .int .i64 t15, .slice t16 t16n t16c, .slice t17 t17n t17c] ∧ (∃ (t18 : Int), w4.cell? (⟨b2, 0, none⟩ : Addr) = some (.int .i64 t18) ∧ (∃ (t19 : Int), w4.cell? (⟨b2, 1, none⟩ : Addr) = some (.int .i64 t19) ∧ (Calls Try.prog 29 #[.agg #[.int .i64 t13, .int .i64 t14, .int .i64 t15, .slice t16 t16n t16c, .slice t17 t17n t17c], .agg #[.int .i64 t18, .int .i64 (IntKind.wrap .i64 ((IntKind.wrap .i64 (t19 + n1)) - 1))]] w4 fun e w8 => ∃ (r13 : Bool), e = .returned (.bool r13) ∧ (J2 (!r13) w8))))) ∧ ((decide (n1 > 0)) = false → J2 false w4))) ∧ ((decide (n1 < 0) || decide (n1 > 65536)) = true → J1 true w4)))))))))
set_option maxRecDepth 100000 in
theorem ok_pomanderref12_Flow_Mark (f1 : Int) (f2 : Int) (f3 : Int) (f4 : Option Addr) (f4n : Nat) (f4c : Nat) (f5 : Option Addr) (f5n : Nat) (f5c : Nat) (p1 : Int) (p2 : Int) (n1 : Int) (set1 : Int) (w : World) (R : Int → Int → Int → (Option Addr) → Nat → Nat → (Option Addr) → Nat → Nat → Int → World → Prop) (h : V_pomanderref12_Flow_Mark f1 f2 f3 f4 f4n f4c f5 f5n f5c p1 p2 n1 set1 w R) : Calls Try.prog 63 #[.agg #[.int .i64 f1, .int .i64 f2, .int .i64 f3, .slice f4 f4n f4c, .slice f5 f5n f5c], .agg #[.int .i64 p1, .int .i64 p2], .int .i64 n1, .int .u32 set1] w (fun e w' => ∃ (r1 : Int) (r2 : Int) (r3 : Int) (r4 : Option Addr) (r4n : Nat) (r4c : Nat) (r5 : Option Addr) (r5n : Nat) (r5c : Nat) (r6 : Int), e = .returned (.tuple #[.agg #[.int .i64 r1, .int .i64 r2, .int .i64 r3, .slice r4 r4n r4c, .slice r5 r5n r5c], .int .i64 r6]) ∧ R r1 r2 r3 r4 r4n r4c r5 r5n r5c r6 w') := by
  unfold V_pomanderref12_Flow_Mark at h
  refine enter (N := 77) Try.func63 rfl rfl ?_
  refine CW.seq ?_
  refine CW.region fun L hL => ?_
  obtain ⟨b1, hb_b1⟩ : ∃ b1, b1 = World.size w := ⟨_, rfl⟩
  obtain ⟨w1, hw_w1⟩ : ∃ w1, w1 = World.alloc w (.cells #[.int .i64 f1, .int .i64 f2, .int .i64 f3, .slice f4 f4n f4c, .slice f5 f5n f5c] 36) := ⟨_, rfl⟩
  replace h := h b1 hb_b1 w1 hw_w1
  refine LW.val hL rfl (Wants.free rfl) rfl (boxE hb_b1 hw_w1 (Vl.box (v := .agg #[.int .i64 f1, .int .i64 f2, .int .i64 f3, .slice f4 f4n f4c, .slice f5 f5n f5c]) rfl)) ?_
  obtain ⟨b2, hb_b2⟩ : ∃ b2, b2 = World.size w1 := ⟨_, rfl⟩
  obtain ⟨w2, hw_w2⟩ : ∃ w2, w2 = World.alloc w1 (.cells #[.int .i64 p1, .int .i64 p2] 56) := ⟨_, rfl⟩
  replace h := h b2 hb_b2 w2 hw_w2
  refine LW.val hL rfl (Wants.free rfl) rfl (boxE hb_b2 hw_w2 (Vl.box (v := .agg #[.int .i64 p1, .int .i64 p2]) rfl)) ?_
  obtain ⟨b3, hb_b3⟩ : ∃ b3, b3 = World.size w2 := ⟨_, rfl⟩
  obtain ⟨w3, hw_w3⟩ : ∃ w3, w3 = World.alloc w2 (.cells #[.int .i64 0, .int .i64 0, .int .i64 0, .slice none 0 0, .slice none 0 0] 36) := ⟨_, rfl⟩
  replace h := h b3 hb_b3 w3 hw_w3
  refine LW.val hL rfl (Wants.free rfl) rfl (boxE hb_b3 hw_w3 (Vl.alloc (z := .agg #[.int .i64 0, .int .i64 0, .int .i64 0, .slice none 0 0, .slice none 0 0]) (by kernel_rfl))) ?_
  refine LW.rd hL rfl (Wants.free rfl) rfl (Rd.assign (v := .int .i64 0) rfl) ?_
  refine LW.nil hL rfl ?_
  refine NW.then ?_
  refine CW.seq ?_
  refine CW.seq ?_
  refine CW.region fun L hL => ?_
  obtain ⟨t1, t2, t3, t4, t4n, t4c, t5, t5n, t5c, hc1, h⟩ := h
  refine LW.rd hL rfl (Wants.free rfl) rfl (Rd.ldN (cs := [.int .i64 t1, .int .i64 t2, .int .i64 t3, .slice t4 t4n t4c, .slice t5 t5n t5c]) rfl (by kernel_rfl) (by kernel_rfl) (cellsS hc1)) ?_
  obtain ⟨t6, t7, hc2, h⟩ := h
  refine LW.rd hL rfl (Wants.free rfl) rfl (Rd.ldN (cs := [.int .i64 t6, .int .i64 t7]) rfl (by kernel_rfl) (by kernel_rfl) (cellsS hc2)) ?_
  refine LW.call hL rfl (Wants.free rfl) rfl (Cl.fn (f := 29) rfl Try.func29 (by kernel_rfl) rfl) h (fun e w4 h_ => ?_)
  clear h
  obtain ⟨r7, rfl, h⟩ := h_
  refine ⟨_, rfl, ?_⟩
  refine LW.rd hL rfl (Wants.free rfl) rfl (Rd.un (v := .bool (!r7)) rfl (fun _ => by kernel_rfl)) ?_
  refine LW.rd hL rfl (Wants.free rfl) rfl (Rd.move (v := .bool (!r7)) rfl) ?_
  suffices K1 : L 8 [(2, .int .i64 n1), (3, .int .u32 set1), (4, .pointer (some (⟨b1, 0, none⟩ : Addr))), (5, .pointer (some (⟨b2, 0, none⟩ : Addr))), (8, .pointer (some (⟨b3, 0, none⟩ : Addr))), (9, .int .i64 0), (21, .bool (!r7 || decide (set1 ≥ 65536)))] w4 by
    rcases Bool.eq_false_or_eq_true (!r7) with hb2 | hb2
    · skip
      refine LW.skip hL rfl (Skips.on rfl rfl rfl rfl rfl hb2) rfl ?_
      refine LW.skip hL rfl (Skips.on rfl rfl rfl rfl rfl hb2) rfl ?_
      refine LW.rd hL rfl (Wants.free rfl) rfl (Rd.pickT rfl hb2 rfl) ?_
      exact LW.sub hL (by exact ⟨rfl, rfl, rfl, rfl, rfl, rfl, (by rw [hb2]; rfl), trivial⟩) K1
    · skip
      refine LW.rd hL rfl (Wants.on rfl rfl rfl rfl rfl hb2) rfl (Rd.move (v := .int .u32 set1) rfl) ?_
      refine LW.rd hL rfl (Wants.on rfl rfl rfl rfl rfl hb2) rfl (Rd.bin (v := .bool (decide (set1 ≥ 65536))) rfl rfl (fun w => by kernel_rfl)) ?_
      refine LW.rd hL rfl (Wants.free rfl) rfl (Rd.pickF rfl hb2 rfl) ?_
      exact LW.sub hL (by exact ⟨rfl, rfl, rfl, rfl, rfl, rfl, (by rw [hb2]; rfl), trivial⟩) K1
  refine LW.nil hL rfl ?_
  refine NW.then ?_
  refine CW.cond rfl (fun hb3 => ?_) (fun hb3 => ?_)
  · replace h := h.1 hb3
    refine CW.seq ?_
    refine CW.region fun L hL => ?_
    obtain ⟨t8, t9, t10, t11, t11n, t11c, t12, t12n, t12c, hc3, h⟩ := h
    refine LW.rd hL rfl (Wants.free rfl) rfl (Rd.ldN (cs := [.int .i64 t8, .int .i64 t9, .int .i64 t10, .slice t11 t11n t11c, .slice t12 t12n t12c]) rfl (by kernel_rfl) (by kernel_rfl) (cellsS hc3)) ?_
    obtain ⟨ho1, hf1, h⟩ := h
    obtain ⟨w5, hw_w5⟩ : ∃ w5, w5 = setCells w4 (⟨b3, 0, none⟩ : Addr) 0 [.int .i64 t8, .int .i64 t9, .int .i64 t10, .slice t11 t11n t11c, .slice t12 t12n t12c] := ⟨_, rfl⟩
    replace h := h w5 hw_w5
    refine LW.eff hL rfl (Wants.free rfl) rfl (stNE hw_w5 (Ef.stN (cs := [.int .i64 t8, .int .i64 t9, .int .i64 t10, .slice t11 t11n t11c, .slice t12 t12n t12c]) rfl rfl (by kernel_rfl) (List.forall_mem_cons.2 ⟨rfl, (List.forall_mem_cons.2 ⟨rfl, (List.forall_mem_cons.2 ⟨rfl, (List.forall_mem_cons.2 ⟨rfl, (List.forall_mem_cons.2 ⟨rfl, (List.forall_mem_nil _)⟩)⟩)⟩)⟩)⟩) ho1 hf1)) ?_
    refine LW.rd hL rfl (Wants.free rfl) rfl (Rd.assign (v := .int .i64 2) rfl) ?_
    refine LW.nil hL rfl ?_
    refine NW.then ?_
    refine CW.ret ?_
    refine RW.then ?_
    obtain ⟨r8, r9, r10, r11, r11n, r11c, r12, r12n, r12c, hr1, h⟩ := h
    exact resN (vs := [.agg #[.int .i64 r8, .int .i64 r9, .int .i64 r10, .slice r11 r11n r11c, .slice r12 r12n r12c], .int .i64 2]) (ResOK.c rfl (lvN (cs := [.int .i64 r8, .int .i64 r9, .int .i64 r10, .slice r11 r11n r11c, .slice r12 r12n r12c]) (by kernel_rfl) (by kernel_rfl) (cellsAt_get hr1)) (ResOK.t rfl ResOK.nil)) rfl ⟨r8, r9, r10, r11, r11n, r11c, r12, r12n, r12c, 2, rfl, h⟩
  · replace h := h.2 hb3
    refine CW.skip ?_
    refine NW.then ?_
    refine CW.seq ?_
    refine CW.seq ?_
    refine CW.region fun L hL => ?_
    refine LW.rd hL rfl (Wants.free rfl) rfl (Rd.move (v := .int .i64 n1) rfl) ?_
    refine LW.rd hL rfl (Wants.free rfl) rfl (Rd.bin (v := .bool (decide (n1 < 0))) rfl rfl (fun w => by kernel_rfl)) ?_
    refine LW.rd hL rfl (Wants.free rfl) rfl (Rd.move (v := .bool (decide (n1 < 0))) rfl) ?_
    suffices K2 : L 6 [(2, .int .i64 n1), (3, .int .u32 set1), (4, .pointer (some (⟨b1, 0, none⟩ : Addr))), (5, .pointer (some (⟨b2, 0, none⟩ : Addr))), (8, .pointer (some (⟨b3, 0, none⟩ : Addr))), (9, .int .i64 0), (28, .bool (decide (n1 < 0) || decide (n1 > 65536)))] w4 by
      rcases Bool.eq_false_or_eq_true (decide (n1 < 0)) with hb5 | hb5
      · skip
        refine LW.skip hL rfl (Skips.on rfl rfl rfl rfl rfl hb5) rfl ?_
        refine LW.skip hL rfl (Skips.on rfl rfl rfl rfl rfl hb5) rfl ?_
        refine LW.rd hL rfl (Wants.free rfl) rfl (Rd.pickT rfl hb5 rfl) ?_
        exact LW.sub hL (by exact ⟨rfl, rfl, rfl, rfl, rfl, rfl, (by rw [hb5]; rfl), trivial⟩) K2
      · skip
        refine LW.rd hL rfl (Wants.on rfl rfl rfl rfl rfl hb5) rfl (Rd.move (v := .int .i64 n1) rfl) ?_
        refine LW.rd hL rfl (Wants.on rfl rfl rfl rfl rfl hb5) rfl (Rd.bin (v := .bool (decide (n1 > 65536))) rfl rfl (fun w => by kernel_rfl)) ?_
        refine LW.rd hL rfl (Wants.free rfl) rfl (Rd.pickF rfl hb5 rfl) ?_
        exact LW.sub hL (by exact ⟨rfl, rfl, rfl, rfl, rfl, rfl, (by rw [hb5]; rfl), trivial⟩) K2
    refine LW.rd hL rfl (Wants.free rfl) rfl (Rd.move (v := .bool (decide (n1 < 0) || decide (n1 > 65536))) rfl) ?_
    obtain ⟨J1, hJ1, h1_J1, h0_J1⟩ := h
    suffices K3 : ∀ (b4 : Bool) (w6 : World), J1 b4 w6 → L 23 [(2, .int .i64 n1), (3, .int .u32 set1), (4, .pointer (some (⟨b1, 0, none⟩ : Addr))), (5, .pointer (some (⟨b2, 0, none⟩ : Addr))), (8, .pointer (some (⟨b3, 0, none⟩ : Addr))), (9, .int .i64 0), (45, .bool b4)] w6 by
      rcases Bool.eq_false_or_eq_true (decide (n1 < 0) || decide (n1 > 65536)) with hb6 | hb6
      · have h := h0_J1 hb6
        refine LW.skip hL rfl (Skips.on rfl rfl rfl rfl rfl hb6) rfl ?_
        refine LW.skip hL rfl (Skips.on rfl rfl rfl rfl rfl hb6) rfl ?_
        refine LW.skip hL rfl (Skips.on rfl rfl rfl rfl rfl hb6) rfl ?_
        refine LW.skip hL rfl (Skips.un rfl rfl rfl rfl rfl) rfl ?_
        refine LW.skip hL rfl (Skips.un rfl rfl rfl rfl rfl) rfl ?_
        refine LW.skip hL rfl (Skips.un rfl rfl rfl rfl rfl) rfl ?_
        refine LW.skip hL rfl (Skips.un rfl rfl rfl rfl rfl) rfl ?_
        refine LW.skip hL rfl (Skips.un rfl rfl rfl rfl rfl) rfl ?_
        refine LW.skip hL rfl (Skips.un rfl rfl rfl rfl rfl) rfl ?_
        refine LW.skip hL rfl (Skips.un rfl rfl rfl rfl rfl) rfl ?_
        refine LW.skip hL rfl (Skips.un rfl rfl rfl rfl rfl) rfl ?_
        refine LW.skip hL rfl (Skips.un rfl rfl rfl rfl rfl) rfl ?_
        refine LW.skip hL rfl (Skips.un rfl rfl rfl rfl rfl) rfl ?_
        refine LW.skip hL rfl (Skips.un rfl rfl rfl rfl rfl) rfl ?_
        refine LW.skip hL rfl (Skips.on rfl rfl rfl rfl rfl hb6) rfl ?_
        refine LW.rd hL rfl (Wants.free rfl) rfl (Rd.pickT rfl hb6 rfl) ?_
        exact LW.sub hL (by exact ⟨rfl, rfl, rfl, rfl, rfl, rfl, rfl, trivial⟩) (K3 true w4 h)
      · have h := h1_J1 hb6
        refine LW.rd hL rfl (Wants.on rfl rfl rfl rfl rfl hb6) rfl (Rd.move (v := .int .i64 n1) rfl) ?_
        refine LW.rd hL rfl (Wants.on rfl rfl rfl rfl rfl hb6) rfl (Rd.bin (v := .bool (decide (n1 > 0))) rfl rfl (fun w => by kernel_rfl)) ?_
        refine LW.rd hL rfl (Wants.on rfl rfl rfl rfl rfl hb6) rfl (Rd.move (v := .bool (decide (n1 > 0))) rfl) ?_
        obtain ⟨J2, hJ2, h1_J2, h0_J2⟩ := h
        suffices K4 : ∀ (b5 : Bool) (w7 : World), J2 b5 w7 → L 22 [(2, .int .i64 n1), (3, .int .u32 set1), (4, .pointer (some (⟨b1, 0, none⟩ : Addr))), (5, .pointer (some (⟨b2, 0, none⟩ : Addr))), (8, .pointer (some (⟨b3, 0, none⟩ : Addr))), (9, .int .i64 0), (29, .bool (decide (n1 < 0) || decide (n1 > 65536))), (44, .bool b5)] w7 by
          rcases Bool.eq_false_or_eq_true (decide (n1 > 0)) with hb7 | hb7
          · have h := h1_J2 hb7
            obtain ⟨t13, t14, t15, t16, t16n, t16c, t17, t17n, t17c, hc4, h⟩ := h
            refine LW.rd hL rfl (Wants.on rfl rfl rfl rfl rfl hb7) rfl (Rd.ldN (cs := [.int .i64 t13, .int .i64 t14, .int .i64 t15, .slice t16 t16n t16c, .slice t17 t17n t17c]) rfl (by kernel_rfl) (by kernel_rfl) (cellsS hc4)) ?_
            refine LW.rd hL rfl (Wants.on rfl rfl rfl rfl rfl hb7) rfl (Rd.fa (v := .pointer (some (⟨b2, 0, none⟩ : Addr))) rfl (fun _ => by kernel_rfl)) ?_
            obtain ⟨t18, hc5, h⟩ := h
            refine LW.rd hL rfl (Wants.on rfl rfl rfl rfl rfl hb7) rfl (Rd.ld (v := .int .i64 t18) rfl (by kernel_rfl) (eqs hc5)) ?_
            refine LW.rd hL rfl (Wants.on rfl rfl rfl rfl rfl hb7) rfl (Rd.fa (v := .pointer (some (⟨b2, 1, none⟩ : Addr))) rfl (fun _ => by kernel_rfl)) ?_
            obtain ⟨t19, hc6, h⟩ := h
            refine LW.rd hL rfl (Wants.on rfl rfl rfl rfl rfl hb7) rfl (Rd.ld (v := .int .i64 t19) rfl (by kernel_rfl) (eqs hc6)) ?_
            refine LW.rd hL rfl (Wants.on rfl rfl rfl rfl rfl hb7) rfl (Rd.move (v := .int .i64 n1) rfl) ?_
            refine LW.rd hL rfl (Wants.on rfl rfl rfl rfl rfl hb7) rfl (Rd.bin (v := .int .i64 (IntKind.wrap .i64 (t19 + n1))) rfl rfl (fun w => by kernel_rfl)) ?_
            refine LW.rd hL rfl (Wants.on rfl rfl rfl rfl rfl hb7) rfl (Rd.bin (v := .int .i64 (IntKind.wrap .i64 ((IntKind.wrap .i64 (t19 + n1)) - 1))) rfl rfl (fun w => by kernel_rfl)) ?_
            refine LW.rd hL rfl (Wants.on rfl rfl rfl rfl rfl hb7) rfl (Rd.build (v := .agg #[.int .i64 t18, .int .i64 (IntKind.wrap .i64 ((IntKind.wrap .i64 (t19 + n1)) - 1))]) rfl (fun _ => by kernel_rfl)) ?_
            refine LW.call hL rfl (Wants.on rfl rfl rfl rfl rfl hb7) rfl (Cl.fn (f := 29) rfl Try.func29 (by kernel_rfl) rfl) h (fun e w8 h_ => ?_)
            clear h
            obtain ⟨r13, rfl, h⟩ := h_
            refine ⟨_, rfl, ?_⟩
            refine LW.rd hL rfl (Wants.on rfl rfl rfl rfl rfl hb7) rfl (Rd.un (v := .bool (!r13)) rfl (fun _ => by kernel_rfl)) ?_
            refine LW.rd hL rfl (Wants.on rfl rfl rfl rfl rfl hb6) rfl (Rd.pickT rfl hb7 rfl) ?_
            exact LW.sub hL (by exact ⟨rfl, rfl, rfl, rfl, rfl, rfl, rfl, rfl, trivial⟩) (K4 (!r13) w8 h)
          · have h := h0_J2 hb7
            refine LW.skip hL rfl (Skips.on rfl rfl rfl rfl rfl hb7) rfl ?_
            refine LW.skip hL rfl (Skips.on rfl rfl rfl rfl rfl hb7) rfl ?_
            refine LW.skip hL rfl (Skips.on rfl rfl rfl rfl rfl hb7) rfl ?_
            refine LW.skip hL rfl (Skips.on rfl rfl rfl rfl rfl hb7) rfl ?_
            refine LW.skip hL rfl (Skips.on rfl rfl rfl rfl rfl hb7) rfl ?_
            refine LW.skip hL rfl (Skips.on rfl rfl rfl rfl rfl hb7) rfl ?_
            refine LW.skip hL rfl (Skips.on rfl rfl rfl rfl rfl hb7) rfl ?_
            refine LW.skip hL rfl (Skips.on rfl rfl rfl rfl rfl hb7) rfl ?_
            refine LW.skip hL rfl (Skips.on rfl rfl rfl rfl rfl hb7) rfl ?_
            refine LW.skip hL rfl (Skips.on rfl rfl rfl rfl rfl hb7) rfl ?_
            refine LW.skip hL rfl (Skips.on rfl rfl rfl rfl rfl hb7) rfl ?_
            refine LW.rd hL rfl (Wants.on rfl rfl rfl rfl rfl hb6) rfl (Rd.pickF rfl hb7 rfl) ?_
            exact LW.sub hL (by exact ⟨rfl, rfl, rfl, rfl, rfl, rfl, rfl, rfl, trivial⟩) (K4 false w4 h)
        intro b5 w7 h_
        have h := hJ2 b5 w7 h_; clear h_
        refine LW.rd hL rfl (Wants.free rfl) rfl (Rd.pickF rfl hb6 rfl) ?_
        exact LW.sub hL (by exact ⟨rfl, rfl, rfl, rfl, rfl, rfl, rfl, trivial⟩) (K3 b5 w7 h)
    intro b4 w6 h_
    have h := hJ1 b4 w6 h_; clear h_
    refine LW.nil hL rfl ?_
    refine NW.then ?_
    refine CW.cond rfl (fun hb8 => ?_) (fun hb8 => ?_)
    · replace h := h.1 hb8
      refine CW.seq ?_
      refine CW.region fun L hL => ?_
      obtain ⟨t20, t21, t22, t23, t23n, t23c, t24, t24n, t24c, hc7, h⟩ := h
      refine LW.rd hL rfl (Wants.free rfl) rfl (Rd.ldN (cs := [.int .i64 t20, .int .i64 t21, .int .i64 t22, .slice t23 t23n t23c, .slice t24 t24n t24c]) rfl (by kernel_rfl) (by kernel_rfl) (cellsS hc7)) ?_
      obtain ⟨ho2, hf2, h⟩ := h
      obtain ⟨w9, hw_w9⟩ : ∃ w9, w9 = setCells w6 (⟨b3, 0, none⟩ : Addr) 0 [.int .i64 t20, .int .i64 t21, .int .i64 t22, .slice t23 t23n t23c, .slice t24 t24n t24c] := ⟨_, rfl⟩
      replace h := h w9 hw_w9
      refine LW.eff hL rfl (Wants.free rfl) rfl (stNE hw_w9 (Ef.stN (cs := [.int .i64 t20, .int .i64 t21, .int .i64 t22, .slice t23 t23n t23c, .slice t24 t24n t24c]) rfl rfl (by kernel_rfl) (List.forall_mem_cons.2 ⟨rfl, (List.forall_mem_cons.2 ⟨rfl, (List.forall_mem_cons.2 ⟨rfl, (List.forall_mem_cons.2 ⟨rfl, (List.forall_mem_cons.2 ⟨rfl, (List.forall_mem_nil _)⟩)⟩)⟩)⟩)⟩) ho2 hf2)) ?_
      refine LW.rd hL rfl (Wants.free rfl) rfl (Rd.assign (v := .int .i64 4) rfl) ?_
      refine LW.nil hL rfl ?_
      refine NW.then ?_
      refine CW.ret ?_
      refine RW.then ?_
      obtain ⟨r14, r15, r16, r17, r17n, r17c, r18, r18n, r18c, hr2, h⟩ := h
      exact resN (vs := [.agg #[.int .i64 r14, .int .i64 r15, .int .i64 r16, .slice r17 r17n r17c, .slice r18 r18n r18c], .int .i64 4]) (ResOK.c rfl (lvN (cs := [.int .i64 r14, .int .i64 r15, .int .i64 r16, .slice r17 r17n r17c, .slice r18 r18n r18c]) (by kernel_rfl) (by kernel_rfl) (cellsAt_get hr2)) (ResOK.t rfl ResOK.nil)) rfl ⟨r14, r15, r16, r17, r17n, r17c, r18, r18n, r18c, 4, rfl, h⟩
    · replace h := h.2 hb8
      refine CW.skip ?_
      refine NW.then ?_
      refine CW.seq ?_
      refine CW.region fun L hL => ?_
      refine LW.rd hL rfl (Wants.free rfl) rfl (Rd.fa (v := .pointer (some (⟨b1, 2, none⟩ : Addr))) rfl (fun _ => by kernel_rfl)) ?_
      obtain ⟨t25, t26, t26n, t26c, hc8, h⟩ := h
      refine LW.rd hL rfl (Wants.free rfl) rfl (Rd.ldN (cs := [.int .i64 t25, .slice t26 t26n t26c]) rfl (by kernel_rfl) (by kernel_rfl) (cellsS hc8)) ?_
      refine LW.rd hL rfl (Wants.free rfl) rfl (Rd.move (v := .int .u32 set1) rfl) ?_
      refine LW.call hL rfl (Wants.free rfl) rfl (Cl.fn (f := 104) rfl Try.func104 (by kernel_rfl) rfl) h (fun e w10 h_ => ?_)
      clear h
      obtain ⟨r19, r20, r20n, r20c, r21, r22, rfl, h⟩ := h_
      refine ⟨_, rfl, ?_⟩
      refine LW.rd hL rfl (Wants.free rfl) rfl (Rd.move (v := .tuple #[.agg #[.int .i64 r19, .slice r20 r20n r20c], .int .i64 r21, .int .i64 r22]) rfl) ?_
      refine LW.rd hL rfl (Wants.free rfl) rfl (Rd.extract (v := .agg #[.int .i64 r19, .slice r20 r20n r20c]) rfl rfl) ?_
      refine LW.rd hL rfl (Wants.free rfl) rfl (Rd.extract (v := .int .i64 r21) rfl rfl) ?_
      refine LW.rd hL rfl (Wants.free rfl) rfl (Rd.extract (v := .int .i64 r22) rfl rfl) ?_
      obtain ⟨b6, hb_b6⟩ : ∃ b6, b6 = World.size w10 := ⟨_, rfl⟩
      obtain ⟨w11, hw_w11⟩ : ∃ w11, w11 = World.alloc w10 (.cells #[.int .i64 0, .slice none 0 0] 33) := ⟨_, rfl⟩
      replace h := h b6 hb_b6 w11 hw_w11
      refine LW.val hL rfl (Wants.free rfl) rfl (boxE hb_b6 hw_w11 (Vl.alloc (z := .agg #[.int .i64 0, .slice none 0 0]) (by kernel_rfl))) ?_
      obtain ⟨ho3, hf3, h⟩ := h
      obtain ⟨w12, hw_w12⟩ : ∃ w12, w12 = setCells w11 (⟨b6, 0, none⟩ : Addr) 0 [.int .i64 r19, .slice r20 r20n r20c] := ⟨_, rfl⟩
      replace h := h w12 hw_w12
      refine LW.eff hL rfl (Wants.free rfl) rfl (stNE hw_w12 (Ef.stN (cs := [.int .i64 r19, .slice r20 r20n r20c]) rfl rfl (by kernel_rfl) (List.forall_mem_cons.2 ⟨rfl, (List.forall_mem_cons.2 ⟨rfl, (List.forall_mem_nil _)⟩)⟩) ho3 hf3)) ?_
      refine LW.rd hL rfl (Wants.free rfl) rfl (Rd.assign (v := .int .i64 r21) rfl) ?_
      refine LW.rd hL rfl (Wants.free rfl) rfl (Rd.assign (v := .int .i64 r22) rfl) ?_
      refine LW.nil hL rfl ?_
      refine NW.then ?_
      refine CW.seq ?_
      refine CW.seq ?_
      refine CW.region fun L hL => ?_
      refine LW.rd hL rfl (Wants.free rfl) rfl (Rd.move (v := .int .i64 r22) rfl) ?_
      refine LW.rd hL rfl (Wants.free rfl) rfl (Rd.bin (v := .bool (!(r22 == 0))) rfl rfl (fun w => by kernel_rfl)) ?_
      refine LW.nil hL rfl ?_
      refine NW.then ?_
      refine CW.cond rfl (fun hb9 => ?_) (fun hb9 => ?_)
      · replace h := h.1 hb9
        refine CW.seq ?_
        refine CW.region fun L hL => ?_
        obtain ⟨t27, t28, t29, t30, t30n, t30c, t31, t31n, t31c, hc9, h⟩ := h
        refine LW.rd hL rfl (Wants.free rfl) rfl (Rd.ldN (cs := [.int .i64 t27, .int .i64 t28, .int .i64 t29, .slice t30 t30n t30c, .slice t31 t31n t31c]) rfl (by kernel_rfl) (by kernel_rfl) (cellsS hc9)) ?_
        refine LW.rd hL rfl (Wants.free rfl) rfl (Rd.move (v := .int .i64 r22) rfl) ?_
        obtain ⟨ho4, hf4, h⟩ := h
        obtain ⟨w13, hw_w13⟩ : ∃ w13, w13 = setCells w12 (⟨b3, 0, none⟩ : Addr) 0 [.int .i64 t27, .int .i64 t28, .int .i64 t29, .slice t30 t30n t30c, .slice t31 t31n t31c] := ⟨_, rfl⟩
        replace h := h w13 hw_w13
        refine LW.eff hL rfl (Wants.free rfl) rfl (stNE hw_w13 (Ef.stN (cs := [.int .i64 t27, .int .i64 t28, .int .i64 t29, .slice t30 t30n t30c, .slice t31 t31n t31c]) rfl rfl (by kernel_rfl) (List.forall_mem_cons.2 ⟨rfl, (List.forall_mem_cons.2 ⟨rfl, (List.forall_mem_cons.2 ⟨rfl, (List.forall_mem_cons.2 ⟨rfl, (List.forall_mem_cons.2 ⟨rfl, (List.forall_mem_nil _)⟩)⟩)⟩)⟩)⟩) ho4 hf4)) ?_
        refine LW.rd hL rfl (Wants.free rfl) rfl (Rd.assign (v := .int .i64 r22) rfl) ?_
        refine LW.nil hL rfl ?_
        refine NW.then ?_
        refine CW.ret ?_
        refine RW.then ?_
        obtain ⟨r23, r24, r25, r26, r26n, r26c, r27, r27n, r27c, hr3, h⟩ := h
        exact resN (vs := [.agg #[.int .i64 r23, .int .i64 r24, .int .i64 r25, .slice r26 r26n r26c, .slice r27 r27n r27c], .int .i64 r22]) (ResOK.c rfl (lvN (cs := [.int .i64 r23, .int .i64 r24, .int .i64 r25, .slice r26 r26n r26c, .slice r27 r27n r27c]) (by kernel_rfl) (by kernel_rfl) (cellsAt_get hr3)) (ResOK.t rfl ResOK.nil)) rfl ⟨r23, r24, r25, r26, r26n, r26c, r27, r27n, r27c, r22, rfl, h⟩
      · replace h := h.2 hb9
        refine CW.skip ?_
        refine NW.then ?_
        refine CW.seq ?_
        refine CW.region fun L hL => ?_
        obtain ⟨t32, t33, t33n, t33c, hc10, h⟩ := h
        refine LW.rd hL rfl (Wants.free rfl) rfl (Rd.ldN (cs := [.int .i64 t32, .slice t33 t33n t33c]) rfl (by kernel_rfl) (by kernel_rfl) (cellsS hc10)) ?_
        refine LW.rd hL rfl (Wants.free rfl) rfl (Rd.fa (v := .pointer (some (⟨b1, 2, none⟩ : Addr))) rfl (fun _ => by kernel_rfl)) ?_
        obtain ⟨ho5, hf5, h⟩ := h
        obtain ⟨w14, hw_w14⟩ : ∃ w14, w14 = setCells w12 (⟨b1, 2, none⟩ : Addr) 0 [.int .i64 t32, .slice t33 t33n t33c] := ⟨_, rfl⟩
        replace h := h w14 hw_w14
        refine LW.eff hL rfl (Wants.free rfl) rfl (stNE hw_w14 (Ef.stN (cs := [.int .i64 t32, .slice t33 t33n t33c]) rfl rfl (by kernel_rfl) (List.forall_mem_cons.2 ⟨rfl, (List.forall_mem_cons.2 ⟨rfl, (List.forall_mem_nil _)⟩)⟩) ho5 hf5)) ?_
        refine LW.nil hL rfl ?_
        refine NW.then ?_
        refine CW.seq ?_
        refine CW.seq ?_
        refine CW.region fun L hL => ?_
        refine LW.rd hL rfl (Wants.free rfl) rfl (Rd.assign (v := .int .i64 0) rfl) ?_
        refine LW.nil hL rfl ?_
        refine NW.then ?_
        refine CW.block ?_
        obtain ⟨I1, m1, hI1, h⟩ := h
        refine CW.loop (S := Int) (fun s1 => [(2, .int .i64 n1), (3, .int .u32 set1), (4, .pointer (some (⟨b1, 0, none⟩ : Addr))), (5, .pointer (some (⟨b2, 0, none⟩ : Addr))), (8, .pointer (some (⟨b3, 0, none⟩ : Addr))), (9, .int .i64 0), (13, .int .i64 s1)]) I1 m1 0 (by exact ⟨rfl, rfl, rfl, rfl, rfl, rfl, rfl, trivial⟩) hI1 (fun s1 w15 hI1 => ?_)
        replace h := h s1 w15 hI1
        refine CW.seq ?_
        refine CW.seq ?_
        refine CW.region fun L hL => ?_
        refine LW.rd hL rfl (Wants.free rfl) rfl (Rd.move (v := .int .i64 s1) rfl) ?_
        refine LW.rd hL rfl (Wants.free rfl) rfl (Rd.move (v := .int .i64 n1) rfl) ?_
        refine LW.rd hL rfl (Wants.free rfl) rfl (Rd.bin (v := .bool (decide (s1 < n1))) rfl rfl (fun w => by kernel_rfl)) ?_
        refine LW.nil hL rfl ?_
        refine NW.then ?_
        refine CW.cond rfl (fun hb10 => ?_) (fun hb10 => ?_)
        · replace h := h.1 hb10
          refine CW.skip ?_
          refine NW.then ?_
          refine CW.seq ?_
          refine CW.block ?_
          refine CW.region fun L hL => ?_
          obtain ⟨t34, t35, t36, t37, t37n, t37c, t38, t38n, t38c, hc11, h⟩ := h
          refine LW.rd hL rfl (Wants.free rfl) rfl (Rd.ldN (cs := [.int .i64 t34, .int .i64 t35, .int .i64 t36, .slice t37 t37n t37c, .slice t38 t38n t38c]) rfl (by kernel_rfl) (by kernel_rfl) (cellsS hc11)) ?_
          refine LW.rd hL rfl (Wants.free rfl) rfl (Rd.fa (v := .pointer (some (⟨b2, 0, none⟩ : Addr))) rfl (fun _ => by kernel_rfl)) ?_
          obtain ⟨t39, hc12, h⟩ := h
          refine LW.rd hL rfl (Wants.free rfl) rfl (Rd.ld (v := .int .i64 t39) rfl (by kernel_rfl) (eqs hc12)) ?_
          refine LW.rd hL rfl (Wants.free rfl) rfl (Rd.fa (v := .pointer (some (⟨b2, 1, none⟩ : Addr))) rfl (fun _ => by kernel_rfl)) ?_
          obtain ⟨t40, hc13, h⟩ := h
          refine LW.rd hL rfl (Wants.free rfl) rfl (Rd.ld (v := .int .i64 t40) rfl (by kernel_rfl) (eqs hc13)) ?_
          refine LW.rd hL rfl (Wants.free rfl) rfl (Rd.move (v := .int .i64 s1) rfl) ?_
          refine LW.rd hL rfl (Wants.free rfl) rfl (Rd.bin (v := .int .i64 (IntKind.wrap .i64 (t40 + s1))) rfl rfl (fun w => by kernel_rfl)) ?_
          refine LW.rd hL rfl (Wants.free rfl) rfl (Rd.build (v := .agg #[.int .i64 t39, .int .i64 (IntKind.wrap .i64 (t40 + s1))]) rfl (fun _ => by kernel_rfl)) ?_
          refine LW.rd hL rfl (Wants.free rfl) rfl (Rd.move (v := .int .u32 set1) rfl) ?_
          refine LW.call hL rfl (Wants.free rfl) rfl (Cl.fn (f := 105) rfl Try.func105 (by kernel_rfl) rfl) h (fun e w16 h_ => ?_)
          clear h
          obtain ⟨r28, r29, r30, r31, r31n, r31c, r32, r32n, r32c, rfl, h⟩ := h_
          refine ⟨_, rfl, ?_⟩
          obtain ⟨ho6, hf6, h⟩ := h
          obtain ⟨w17, hw_w17⟩ : ∃ w17, w17 = setCells w16 (⟨b1, 0, none⟩ : Addr) 0 [.int .i64 r28, .int .i64 r29, .int .i64 r30, .slice r31 r31n r31c, .slice r32 r32n r32c] := ⟨_, rfl⟩
          replace h := h w17 hw_w17
          refine LW.eff hL rfl (Wants.free rfl) rfl (stNE hw_w17 (Ef.stN (cs := [.int .i64 r28, .int .i64 r29, .int .i64 r30, .slice r31 r31n r31c, .slice r32 r32n r32c]) rfl rfl (by kernel_rfl) (List.forall_mem_cons.2 ⟨rfl, (List.forall_mem_cons.2 ⟨rfl, (List.forall_mem_cons.2 ⟨rfl, (List.forall_mem_cons.2 ⟨rfl, (List.forall_mem_cons.2 ⟨rfl, (List.forall_mem_nil _)⟩)⟩)⟩)⟩)⟩) ho6 hf6)) ?_
          refine LW.nil hL rfl ?_
          refine NW.block ?_
          refine NW.then ?_
          refine CW.region fun L hL => ?_
          refine LW.rd hL rfl (Wants.free rfl) rfl (Rd.move (v := .int .i64 s1) rfl) ?_
          refine LW.rd hL rfl (Wants.free rfl) rfl (Rd.bin (v := .int .i64 (IntKind.wrap .i64 (s1 + 1))) rfl rfl (fun w => by kernel_rfl)) ?_
          refine LW.rd hL rfl (Wants.free rfl) rfl (Rd.assign (v := .int .i64 (IntKind.wrap .i64 (s1 + 1))) rfl) ?_
          refine LW.nil hL rfl ?_
          exact NW.loop (S := Int) (Ek := fun s1 => [(2, .int .i64 n1), (3, .int .u32 set1), (4, .pointer (some (⟨b1, 0, none⟩ : Addr))), (5, .pointer (some (⟨b2, 0, none⟩ : Addr))), (8, .pointer (some (⟨b3, 0, none⟩ : Addr))), (9, .int .i64 0), (13, .int .i64 s1)]) (IntKind.wrap .i64 (s1 + 1)) (by exact ⟨rfl, rfl, rfl, rfl, rfl, rfl, rfl, trivial⟩) h
        · replace h := h.2 hb10
          refine CW.exit ?_
          refine XW.then ?_
          refine XW.then ?_
          refine XW.hit ?_
          refine NW.then ?_
          refine CW.seq ?_
          refine CW.region fun L hL => ?_
          obtain ⟨t41, t42, t43, t44, t44n, t44c, t45, t45n, t45c, hc14, h⟩ := h
          refine LW.rd hL rfl (Wants.free rfl) rfl (Rd.ldN (cs := [.int .i64 t41, .int .i64 t42, .int .i64 t43, .slice t44 t44n t44c, .slice t45 t45n t45c]) rfl (by kernel_rfl) (by kernel_rfl) (cellsS hc14)) ?_
          obtain ⟨ho7, hf7, h⟩ := h
          obtain ⟨w18, hw_w18⟩ : ∃ w18, w18 = setCells w15 (⟨b3, 0, none⟩ : Addr) 0 [.int .i64 t41, .int .i64 t42, .int .i64 t43, .slice t44 t44n t44c, .slice t45 t45n t45c] := ⟨_, rfl⟩
          replace h := h w18 hw_w18
          refine LW.eff hL rfl (Wants.free rfl) rfl (stNE hw_w18 (Ef.stN (cs := [.int .i64 t41, .int .i64 t42, .int .i64 t43, .slice t44 t44n t44c, .slice t45 t45n t45c]) rfl rfl (by kernel_rfl) (List.forall_mem_cons.2 ⟨rfl, (List.forall_mem_cons.2 ⟨rfl, (List.forall_mem_cons.2 ⟨rfl, (List.forall_mem_cons.2 ⟨rfl, (List.forall_mem_cons.2 ⟨rfl, (List.forall_mem_nil _)⟩)⟩)⟩)⟩)⟩) ho7 hf7)) ?_
          refine LW.rd hL rfl (Wants.free rfl) rfl (Rd.assign (v := .int .i64 0) rfl) ?_
          refine LW.nil hL rfl ?_
          refine NW.then ?_
          refine CW.ret ?_
          obtain ⟨r33, r34, r35, r36, r36n, r36c, r37, r37n, r37c, hr4, h⟩ := h
          exact resN (vs := [.agg #[.int .i64 r33, .int .i64 r34, .int .i64 r35, .slice r36 r36n r36c, .slice r37 r37n r37c], .int .i64 0]) (ResOK.c rfl (lvN (cs := [.int .i64 r33, .int .i64 r34, .int .i64 r35, .slice r36 r36n r36c, .slice r37 r37n r37c]) (by kernel_rfl) (by kernel_rfl) (cellsAt_get hr4)) (ResOK.t rfl ResOK.nil)) rfl ⟨r33, r34, r35, r36, r36n, r36c, r37, r37n, r37c, 0, rfl, h⟩

/- (*pomander/policy.Policy).none -/
def V_policy_Policy_none (p1 : Option Addr) (w : World) (R : Bool → World → Prop) : Prop :=
  ∃ J1 : Bool → World → Prop, (∀ (b1 : Bool) (w1 : World), J1 b1 w1 → R b1 w1) ∧ (((Option.isNone p1) = false → ∃ a1 : Addr, p1 = some a1 ∧ (∃ (t1 : Bool), w.cell? (a1.add 11) = some (.bool t1) ∧ (J1 (!t1) w))) ∧ ((Option.isNone p1) = true → J1 true w))
set_option maxRecDepth 100000 in
theorem ok_policy_Policy_none (p1 : Option Addr) (w : World) (R : Bool → World → Prop) (h : V_policy_Policy_none p1 w R) : Calls Try.prog 64 #[.pointer p1] w (fun e w' => ∃ (r1 : Bool), e = .returned (.bool r1) ∧ R r1 w') := by
  unfold V_policy_Policy_none at h
  refine enter (N := 12) Try.func64 rfl rfl ?_
  refine CW.seq ?_
  refine CW.region fun L hL => ?_
  refine LW.rd hL rfl (Wants.free rfl) rfl (Rd.assign (v := .bool false) rfl) ?_
  refine LW.nil hL rfl ?_
  refine NW.then ?_
  refine CW.seq ?_
  refine CW.region fun L hL => ?_
  refine LW.rd hL rfl (Wants.free rfl) rfl (Rd.move (v := .pointer p1) rfl) ?_
  refine LW.rd hL rfl (Wants.free rfl) rfl (Rd.bin (v := .bool (Option.isNone p1)) rfl rfl (fun w => ptr_nil_eq (by kernel_rfl) p1 w)) ?_
  refine LW.rd hL rfl (Wants.free rfl) rfl (Rd.move (v := .bool (Option.isNone p1)) rfl) ?_
  obtain ⟨J1, hJ1, h1_J1, h0_J1⟩ := h
  suffices K1 : ∀ (b1 : Bool) (w1 : World), J1 b1 w1 → L 9 [(2, .bool false), (11, .bool b1)] w1 by
    rcases Bool.eq_false_or_eq_true (Option.isNone p1) with hb1 | hb1
    · have h := h0_J1 hb1
      refine LW.skip hL rfl (Skips.on rfl rfl rfl rfl rfl hb1) rfl ?_
      refine LW.skip hL rfl (Skips.on rfl rfl rfl rfl rfl hb1) rfl ?_
      refine LW.skip hL rfl (Skips.on rfl rfl rfl rfl rfl hb1) rfl ?_
      refine LW.skip hL rfl (Skips.on rfl rfl rfl rfl rfl hb1) rfl ?_
      refine LW.skip hL rfl (Skips.on rfl rfl rfl rfl rfl hb1) rfl ?_
      refine LW.rd hL rfl (Wants.free rfl) rfl (Rd.pickT rfl hb1 rfl) ?_
      exact LW.sub hL (by exact ⟨rfl, rfl, trivial⟩) (K1 true w h)
    · have h := h1_J1 hb1
      refine LW.rd hL rfl (Wants.on rfl rfl rfl rfl rfl hb1) rfl (Rd.move (v := .pointer p1) rfl) ?_
      obtain ⟨a1, ha1, h⟩ := h
      refine LW.rd hL rfl (Wants.on rfl rfl rfl rfl rfl hb1) rfl (Rd.nil (q := a1) (by rw [← ha1]; rfl)) ?_
      refine LW.rd hL rfl (Wants.on rfl rfl rfl rfl rfl hb1) rfl (Rd.fa (v := .pointer (some (a1.add 11))) rfl (fun _ => by kernel_rfl)) ?_
      obtain ⟨t1, hc1, h⟩ := h
      refine LW.rd hL rfl (Wants.on rfl rfl rfl rfl rfl hb1) rfl (Rd.ld (v := .bool t1) rfl (by kernel_rfl) (eqs hc1)) ?_
      refine LW.rd hL rfl (Wants.on rfl rfl rfl rfl rfl hb1) rfl (Rd.un (v := .bool (!t1)) rfl (fun _ => by kernel_rfl)) ?_
      refine LW.rd hL rfl (Wants.free rfl) rfl (Rd.pickF rfl hb1 rfl) ?_
      exact LW.sub hL (by exact ⟨rfl, rfl, trivial⟩) (K1 (!t1) w h)
  intro b1 w1 h_
  have h := hJ1 b1 w1 h_; clear h_
  refine LW.rd hL rfl (Wants.free rfl) rfl (Rd.assign (v := .bool b1) rfl) ?_
  refine LW.nil hL rfl ?_
  refine NW.then ?_
  refine CW.ret ?_
  exact res1 rfl rfl ⟨b1, rfl, h⟩

/- (*pomander/flow.Flow).Decides -/
def V_flow_Flow_Decides (f1 : Option Addr) (l1 : Option Addr) (l1n : Nat) (l1c : Nat) (w : World) (R : Int → Int → World → Prop) : Prop :=
  Calls Try.prog 73 #[.pointer f1] w fun e w1 => ∃ (r3 : Bool), e = .returned (.bool r3) ∧ ((r3 = true → R 0 1 w1) ∧ (r3 = false → Calls Try.prog 81 #[.pointer f1, .slice l1 l1n l1c] w1 fun e w2 => ∃ (r4 : Bool), e = .returned (.bool r4) ∧ (((!r4) = true → R 0 2 w2) ∧ ((!r4) = false → ∃ (I1 : Int × Int → World → Prop) (m1 : Int × Int → World → Nat), I1 (0, 0) w2 ∧ ∀ (s1 : Int × Int) (w3 : World), I1 s1 w3 → ((decide (s1.2 < (l1n : Int))) = true → ∃ J1 : Int → World → Prop, (∀ (s2 : Int) (w4 : World), J1 s2 w4 → (I1 (s2, IntKind.wrap .i64 (s1.2 + 1)) w4 ∧ m1 (s2, IntKind.wrap .i64 (s1.2 + 1)) w4 < m1 s1 w3)) ∧ (∃ a1 : Addr, l1 = some a1 ∧ (0 : Int) ≤ s1.2 ∧ s1.2 < (l1n : Int) ∧ (∃ (t1 : Int) (t2 : Int) (t3 : Option Addr) (t3n : Nat) (t3c : Nat), CellsAt w3 (a1.add (Int.toNat s1.2 * 3)) 0 [.int .i64 t1, .int .i64 t2, .slice t3 t3n t3c] ∧ (∀ b1 : Nat, b1 = World.size w3 → ∀ w5 : World, w5 = World.alloc w3 (.cells #[.int .i64 0, .int .i64 0, .slice none 0 0] 81) → (Has w5 (⟨b1, 0, none⟩ : Addr) 3 ∧ Free w5 (⟨b1, 0, none⟩ : Addr) 3 ∧ ∀ w6 : World, w6 = setCells w5 (⟨b1, 0, none⟩ : Addr) 0 [.int .i64 t1, .int .i64 t2, .slice t3 t3n t3c] → (∃ (t4 : Int) (t5 : Int), CellsAt w6 (⟨b1, 0, none⟩ : Addr) 0 [.int .i64 t4, .int .i64 t5] ∧ ((((t4 == 0) && (t5 == 0)) = true → ∃ (t6 : Option Addr) (t6n : Nat) (t6c : Nat), w6.cell? (⟨b1, 2, none⟩ : Addr) = some (.slice t6 t6n t6c) ∧ (Calls Try.prog 82 #[.pointer f1, .slice t6 t6n t6c] w6 fun e w7 => ∃ (r5 : Int), e = .returned (.int .u32 r5) ∧ (J1 (bits .or .u32 s1.1 r5) w7))) ∧ (((t4 == 0) && (t5 == 0)) = false → J1 s1.1 w6)))))))) ∧ ((decide (s1.2 < (l1n : Int))) = false → R s1.1 0 w3)))))
set_option maxRecDepth 100000 in
theorem ok_flow_Flow_Decides (f1 : Option Addr) (l1 : Option Addr) (l1n : Nat) (l1c : Nat) (w : World) (R : Int → Int → World → Prop) (h : V_flow_Flow_Decides f1 l1 l1n l1c w R) : Calls Try.prog 65 #[.pointer f1, .slice l1 l1n l1c] w (fun e w' => ∃ (r1 : Int) (r2 : Int), e = .returned (.tuple #[.int .u32 r1, .int .i64 r2]) ∧ R r1 r2 w') := by
  unfold V_flow_Flow_Decides at h
  refine enter (N := 35) Try.func65 rfl rfl ?_
  refine CW.seq ?_
  refine CW.region fun L hL => ?_
  refine LW.rd hL rfl (Wants.free rfl) rfl (Rd.assign (v := .int .u32 0) rfl) ?_
  refine LW.rd hL rfl (Wants.free rfl) rfl (Rd.assign (v := .int .i64 0) rfl) ?_
  refine LW.nil hL rfl ?_
  refine NW.then ?_
  refine CW.seq ?_
  refine CW.block ?_
  refine CW.seq ?_
  refine CW.region fun L hL => ?_
  refine LW.rd hL rfl (Wants.free rfl) rfl (Rd.move (v := .pointer f1) rfl) ?_
  refine LW.call hL rfl (Wants.free rfl) rfl (Cl.fn (f := 73) rfl Try.func73 (by kernel_rfl) rfl) h (fun e w1 h_ => ?_)
  clear h
  obtain ⟨r3, rfl, h⟩ := h_
  refine ⟨_, rfl, ?_⟩
  refine LW.rd hL rfl (Wants.free rfl) rfl (Rd.assign (v := .bool r3) rfl) ?_
  refine LW.nil hL rfl ?_
  refine NW.then ?_
  refine CW.cond rfl (fun hb1 => ?_) (fun hb1 => ?_)
  · replace h := h.1 hb1
    refine CW.seq ?_
    refine CW.region fun L hL => ?_
    refine LW.rd hL rfl (Wants.free rfl) rfl (Rd.assign (v := .int .u32 0) rfl) ?_
    refine LW.rd hL rfl (Wants.free rfl) rfl (Rd.assign (v := .int .i64 1) rfl) ?_
    refine LW.nil hL rfl ?_
    refine NW.then ?_
    refine CW.ret ?_
    refine RW.block ?_
    refine RW.then ?_
    exact res2 rfl rfl rfl ⟨0, 1, rfl, h⟩
  · replace h := h.2 hb1
    refine CW.seq ?_
    refine CW.region fun L hL => ?_
    refine LW.rd hL rfl (Wants.free rfl) rfl (Rd.move (v := .pointer f1) rfl) ?_
    refine LW.rd hL rfl (Wants.free rfl) rfl (Rd.move (v := .slice l1 l1n l1c) rfl) ?_
    refine LW.call hL rfl (Wants.free rfl) rfl (Cl.fn (f := 81) rfl Try.func81 (by kernel_rfl) rfl) h (fun e w2 h_ => ?_)
    clear h
    obtain ⟨r4, rfl, h⟩ := h_
    refine ⟨_, rfl, ?_⟩
    refine LW.rd hL rfl (Wants.free rfl) rfl (Rd.un (v := .bool (!r4)) rfl (fun _ => by kernel_rfl)) ?_
    refine LW.rd hL rfl (Wants.free rfl) rfl (Rd.assign (v := .bool (!r4)) rfl) ?_
    refine LW.nil hL rfl ?_
    refine NW.then ?_
    refine CW.cond rfl (fun hb2 => ?_) (fun hb2 => ?_)
    · replace h := h.1 hb2
      refine CW.seq ?_
      refine CW.region fun L hL => ?_
      refine LW.rd hL rfl (Wants.free rfl) rfl (Rd.assign (v := .int .u32 0) rfl) ?_
      refine LW.rd hL rfl (Wants.free rfl) rfl (Rd.assign (v := .int .i64 2) rfl) ?_
      refine LW.nil hL rfl ?_
      refine NW.then ?_
      refine CW.ret ?_
      refine RW.block ?_
      refine RW.then ?_
      exact res2 rfl rfl rfl ⟨0, 2, rfl, h⟩
    · replace h := h.2 hb2
      refine CW.skip ?_
      refine NW.block ?_
      refine NW.then ?_
      refine CW.seq ?_
      refine CW.region fun L hL => ?_
      refine LW.rd hL rfl (Wants.free rfl) rfl (Rd.assign (v := .int .u32 0) rfl) ?_
      refine LW.nil hL rfl ?_
      refine NW.then ?_
      refine CW.seq ?_
      refine CW.seq ?_
      refine CW.region fun L hL => ?_
      refine LW.rd hL rfl (Wants.free rfl) rfl (Rd.move (v := .slice l1 l1n l1c) rfl) ?_
      refine LW.rd hL rfl (Wants.free rfl) rfl (Rd.builtin (v := .int .i64 (l1n : Int)) rfl (fun _ _ => by kernel_rfl)) ?_
      refine LW.rd hL rfl (Wants.free rfl) rfl (Rd.move (v := .int .i64 0) rfl) ?_
      refine LW.nil hL rfl ?_
      refine NW.then ?_
      refine CW.block ?_
      obtain ⟨I1, m1, hI1, h⟩ := h
      refine CW.loop (S := Int × Int) (fun s1 => [(0, .pointer f1), (4, .int .u32 0), (5, .int .i64 0), (17, .slice l1 l1n l1c), (18, .int .i64 (l1n : Int)), (6, .int .u32 s1.1), (19, .int .i64 s1.2)]) I1 m1 (0, 0) (by exact ⟨rfl, rfl, rfl, rfl, rfl, rfl, rfl, trivial⟩) hI1 (fun s1 w3 hI1 => ?_)
      replace h := h s1 w3 hI1
      refine CW.seq ?_
      refine CW.region fun L hL => ?_
      refine LW.rd hL rfl (Wants.free rfl) rfl (Rd.bin (v := .bool (decide (s1.2 < (l1n : Int)))) rfl rfl (fun w => by kernel_rfl)) ?_
      refine LW.nil hL rfl ?_
      refine NW.then ?_
      refine CW.seq ?_
      refine CW.cond rfl (fun hb3 => ?_) (fun hb3 => ?_)
      · replace h := h.1 hb3
        refine CW.skip ?_
        refine NW.then ?_
        obtain ⟨J1, hJ1, h⟩ := h
        refine CW.cut (S := Int) (fun s2 => [(0, .pointer f1), (4, .int .u32 0), (5, .int .i64 0), (17, .slice l1 l1n l1c), (18, .int .i64 (l1n : Int)), (19, .int .i64 s1.2), (6, .int .u32 s2)]) J1 (fun s2 w4 h_ => ?_) ?_
        · replace h := hJ1 s2 w4 h_; clear h_
          refine CW.region fun L hL => ?_
          refine LW.rd hL rfl (Wants.free rfl) rfl (Rd.bin (v := .int .i64 (IntKind.wrap .i64 (s1.2 + 1))) rfl rfl (fun w => by kernel_rfl)) ?_
          refine LW.rd hL rfl (Wants.free rfl) rfl (Rd.move (v := .int .i64 (IntKind.wrap .i64 (s1.2 + 1))) rfl) ?_
          refine LW.nil hL rfl ?_
          exact NW.loop (S := Int × Int) (Ek := fun s1 => [(0, .pointer f1), (4, .int .u32 0), (5, .int .i64 0), (17, .slice l1 l1n l1c), (18, .int .i64 (l1n : Int)), (6, .int .u32 s1.1), (19, .int .i64 s1.2)]) (s2, IntKind.wrap .i64 (s1.2 + 1)) (by exact ⟨rfl, rfl, rfl, rfl, rfl, rfl, rfl, trivial⟩) h
        · skip
          refine CW.block ?_
          refine CW.seq ?_
          refine CW.region fun L hL => ?_
          obtain ⟨a1, he1, hi1, hi2, h⟩ := h
          refine LW.rd hL rfl (Wants.free rfl) rfl (Rd.iaS (q := a1) (sz := 3) (by rw [← he1]; rfl) rfl Try.underlying25 (by kernel_rfl) hi1 hi2) ?_
          obtain ⟨t1, t2, t3, t3n, t3c, hc1, h⟩ := h
          refine LW.rd hL rfl (Wants.free rfl) rfl (Rd.ldN (cs := [.int .i64 t1, .int .i64 t2, .slice t3 t3n t3c]) rfl (by kernel_rfl) (by kernel_rfl) (cellsS hc1)) ?_
          obtain ⟨b1, hb_b1⟩ : ∃ b1, b1 = World.size w3 := ⟨_, rfl⟩
          obtain ⟨w5, hw_w5⟩ : ∃ w5, w5 = World.alloc w3 (.cells #[.int .i64 0, .int .i64 0, .slice none 0 0] 81) := ⟨_, rfl⟩
          replace h := h b1 hb_b1 w5 hw_w5
          refine LW.val hL rfl (Wants.free rfl) rfl (boxE hb_b1 hw_w5 (Vl.alloc (z := .agg #[.int .i64 0, .int .i64 0, .slice none 0 0]) (by kernel_rfl))) ?_
          obtain ⟨ho1, hf1, h⟩ := h
          obtain ⟨w6, hw_w6⟩ : ∃ w6, w6 = setCells w5 (⟨b1, 0, none⟩ : Addr) 0 [.int .i64 t1, .int .i64 t2, .slice t3 t3n t3c] := ⟨_, rfl⟩
          replace h := h w6 hw_w6
          refine LW.eff hL rfl (Wants.free rfl) rfl (stNE hw_w6 (Ef.stN (cs := [.int .i64 t1, .int .i64 t2, .slice t3 t3n t3c]) rfl rfl (by kernel_rfl) (List.forall_mem_cons.2 ⟨rfl, (List.forall_mem_cons.2 ⟨rfl, (List.forall_mem_cons.2 ⟨rfl, (List.forall_mem_nil _)⟩)⟩)⟩) ho1 hf1)) ?_
          refine LW.nil hL rfl ?_
          refine NW.then ?_
          refine CW.seq ?_
          refine CW.region fun L hL => ?_
          refine LW.rd hL rfl (Wants.free rfl) rfl (Rd.fa (v := .pointer (some (⟨b1, 0, none⟩ : Addr))) rfl (fun _ => by kernel_rfl)) ?_
          obtain ⟨t4, t5, hc2, h⟩ := h
          refine LW.rd hL rfl (Wants.free rfl) rfl (Rd.ldN (cs := [.int .i64 t4, .int .i64 t5]) rfl (by kernel_rfl) (by kernel_rfl) (cellsS hc2)) ?_
          refine LW.rd hL rfl (Wants.free rfl) rfl (Rd.build (v := .agg #[.int .i64 0, .int .i64 0]) rfl (fun _ => by kernel_rfl)) ?_
          refine LW.rd hL rfl (Wants.free rfl) rfl (Rd.bin (v := .bool ((t4 == 0) && (t5 == 0))) rfl rfl (fun w => eqS_56 _ _ _ _ w)) ?_
          refine LW.nil hL rfl ?_
          refine NW.then ?_
          refine CW.cond rfl (fun hb4 => ?_) (fun hb4 => ?_)
          · replace h := h.1 hb4
            refine CW.region fun L hL => ?_
            refine LW.rd hL rfl (Wants.free rfl) rfl (Rd.move (v := .int .u32 s1.1) rfl) ?_
            refine LW.rd hL rfl (Wants.free rfl) rfl (Rd.move (v := .pointer f1) rfl) ?_
            refine LW.rd hL rfl (Wants.free rfl) rfl (Rd.fa (v := .pointer (some (⟨b1, 2, none⟩ : Addr))) rfl (fun _ => by kernel_rfl)) ?_
            obtain ⟨t6, t6n, t6c, hc3, h⟩ := h
            refine LW.rd hL rfl (Wants.free rfl) rfl (Rd.ld (v := .slice t6 t6n t6c) rfl (by kernel_rfl) (eqs hc3)) ?_
            refine LW.call hL rfl (Wants.free rfl) rfl (Cl.fn (f := 82) rfl Try.func82 (by kernel_rfl) rfl) h (fun e w7 h_ => ?_)
            clear h
            obtain ⟨r5, rfl, h⟩ := h_
            refine ⟨_, rfl, ?_⟩
            refine LW.rd hL rfl (Wants.free rfl) rfl (Rd.bin (v := .int .u32 (bits .or .u32 s1.1 r5)) rfl rfl (fun w => by kernel_rfl)) ?_
            refine LW.rd hL rfl (Wants.free rfl) rfl (Rd.assign (v := .int .u32 (bits .or .u32 s1.1 r5)) rfl) ?_
            refine LW.nil hL rfl ?_
            refine NW.block ?_
            exact NW.cut (S := Int) (Ek := fun s2 => [(0, .pointer f1), (4, .int .u32 0), (5, .int .i64 0), (17, .slice l1 l1n l1c), (18, .int .i64 (l1n : Int)), (19, .int .i64 s1.2), (6, .int .u32 s2)]) (bits .or .u32 s1.1 r5) (by exact ⟨rfl, rfl, rfl, rfl, rfl, rfl, rfl, trivial⟩) h
          · replace h := h.2 hb4
            refine CW.skip ?_
            refine NW.block ?_
            exact NW.cut (S := Int) (Ek := fun s2 => [(0, .pointer f1), (4, .int .u32 0), (5, .int .i64 0), (17, .slice l1 l1n l1c), (18, .int .i64 (l1n : Int)), (19, .int .i64 s1.2), (6, .int .u32 s2)]) s1.1 (by exact ⟨rfl, rfl, rfl, rfl, rfl, rfl, rfl, trivial⟩) h
      · replace h := h.2 hb3
        refine CW.exit ?_
        refine XW.then ?_
        refine XW.then ?_
        refine XW.hit ?_
        refine NW.then ?_
        refine CW.seq ?_
        refine CW.region fun L hL => ?_
        refine LW.rd hL rfl (Wants.free rfl) rfl (Rd.move (v := .int .u32 s1.1) rfl) ?_
        refine LW.rd hL rfl (Wants.free rfl) rfl (Rd.assign (v := .int .u32 s1.1) rfl) ?_
        refine LW.rd hL rfl (Wants.free rfl) rfl (Rd.assign (v := .int .i64 0) rfl) ?_
        refine LW.nil hL rfl ?_
        refine NW.then ?_
        refine CW.ret ?_
        exact res2 rfl rfl rfl ⟨s1.1, 0, rfl, h⟩

/- pomander/policy.set -/
def V_policy_set (n1 : Int) (w : World) (R : Bool → World → Prop) : Prop :=
  R (decide (n1 < 65536)) w
set_option maxRecDepth 100000 in
theorem ok_policy_set (n1 : Int) (w : World) (R : Bool → World → Prop) (h : V_policy_set n1 w R) : Calls Try.prog 66 #[.int .u32 n1] w (fun e w' => ∃ (r1 : Bool), e = .returned (.bool r1) ∧ R r1 w') := by
  unfold V_policy_set at h
  refine enter (N := 5) Try.func66 rfl rfl ?_
  refine CW.seq ?_
  refine CW.region fun L hL => ?_
  refine LW.rd hL rfl (Wants.free rfl) rfl (Rd.assign (v := .bool false) rfl) ?_
  refine LW.nil hL rfl ?_
  refine NW.then ?_
  refine CW.seq ?_
  refine CW.region fun L hL => ?_
  refine LW.rd hL rfl (Wants.free rfl) rfl (Rd.move (v := .int .u32 n1) rfl) ?_
  refine LW.rd hL rfl (Wants.free rfl) rfl (Rd.bin (v := .bool (decide (n1 < 65536))) rfl rfl (fun w => by kernel_rfl)) ?_
  refine LW.rd hL rfl (Wants.free rfl) rfl (Rd.assign (v := .bool (decide (n1 < 65536))) rfl) ?_
  refine LW.nil hL rfl ?_
  refine NW.then ?_
  refine CW.ret ?_
  exact res1 rfl rfl ⟨decide (n1 < 65536), rfl, h⟩

/- pomander/labels.New -/
def V_labels_New (most1 : Int) (w : World) (R : (Option Addr) → Int → World → Prop) : Prop :=
  ((decide (most1 < 1) || decide (most1 > 65536)) = true → R none 2 w) ∧ ((decide (most1 < 1) || decide (most1 > 65536)) = false → ∀ b1 : Nat, b1 = World.size w → ∀ w1 : World, w1 = World.alloc w (.cells #[.int .u32 0] 22) → (∀ b2 : Nat, b2 = World.size w1 → ∀ w2 : World, w2 = World.alloc w1 (.map #[] 0) → (∃ w3 : World, (Instr.mapUpdate 198 (.map (some b2)) (.int .u32 0) (.int .i64 0)).run Try.prog w2 = .ok () w3 ∧ (∀ b3 : Nat, b3 = World.size w3 → ∀ w4 : World, w4 = World.alloc w3 (.map #[] 0) → (∀ b4 : Nat, b4 = World.size w4 → ∀ w5 : World, w5 = World.alloc w4 (.cells #[.int .i64 most1, .slice (some (⟨b1, 0, none⟩ : Addr)) 1 1, .map (some b2), .map (some b3)] 201) → (R (some (⟨b4, 0, none⟩ : Addr)) 0 w5))))))
set_option maxRecDepth 100000 in
theorem ok_labels_New (most1 : Int) (w : World) (R : (Option Addr) → Int → World → Prop) (h : V_labels_New most1 w R) : Calls Try.prog 68 #[.int .i64 most1] w (fun e w' => ∃ (r1 : Option Addr) (r2 : Int), e = .returned (.tuple #[.pointer r1, .int .i64 r2]) ∧ R r1 r2 w') := by
  unfold V_labels_New at h
  refine enter (N := 17) Try.func68 rfl rfl ?_
  refine CW.seq ?_
  refine CW.region fun L hL => ?_
  refine LW.rd hL rfl (Wants.free rfl) rfl (Rd.assign (v := .pointer none) rfl) ?_
  refine LW.rd hL rfl (Wants.free rfl) rfl (Rd.assign (v := .int .i64 0) rfl) ?_
  refine LW.nil hL rfl ?_
  refine NW.then ?_
  refine CW.seq ?_
  refine CW.seq ?_
  refine CW.region fun L hL => ?_
  refine LW.rd hL rfl (Wants.free rfl) rfl (Rd.move (v := .int .i64 most1) rfl) ?_
  refine LW.rd hL rfl (Wants.free rfl) rfl (Rd.bin (v := .bool (decide (most1 < 1))) rfl rfl (fun w => by kernel_rfl)) ?_
  refine LW.rd hL rfl (Wants.free rfl) rfl (Rd.move (v := .bool (decide (most1 < 1))) rfl) ?_
  suffices K1 : L 6 [(0, .int .i64 most1), (2, .pointer none), (3, .int .i64 0), (9, .bool (decide (most1 < 1) || decide (most1 > 65536)))] w by
    rcases Bool.eq_false_or_eq_true (decide (most1 < 1)) with hb2 | hb2
    · skip
      refine LW.skip hL rfl (Skips.on rfl rfl rfl rfl rfl hb2) rfl ?_
      refine LW.skip hL rfl (Skips.on rfl rfl rfl rfl rfl hb2) rfl ?_
      refine LW.rd hL rfl (Wants.free rfl) rfl (Rd.pickT rfl hb2 rfl) ?_
      exact LW.sub hL (by exact ⟨rfl, rfl, rfl, (by rw [hb2]; rfl), trivial⟩) K1
    · skip
      refine LW.rd hL rfl (Wants.on rfl rfl rfl rfl rfl hb2) rfl (Rd.move (v := .int .i64 most1) rfl) ?_
      refine LW.rd hL rfl (Wants.on rfl rfl rfl rfl rfl hb2) rfl (Rd.bin (v := .bool (decide (most1 > 65536))) rfl rfl (fun w => by kernel_rfl)) ?_
      refine LW.rd hL rfl (Wants.free rfl) rfl (Rd.pickF rfl hb2 rfl) ?_
      exact LW.sub hL (by exact ⟨rfl, rfl, rfl, (by rw [hb2]; rfl), trivial⟩) K1
  refine LW.nil hL rfl ?_
  refine NW.then ?_
  refine CW.cond rfl (fun hb3 => ?_) (fun hb3 => ?_)
  · replace h := h.1 hb3
    refine CW.seq ?_
    refine CW.region fun L hL => ?_
    refine LW.rd hL rfl (Wants.free rfl) rfl (Rd.assign (v := .pointer none) rfl) ?_
    refine LW.rd hL rfl (Wants.free rfl) rfl (Rd.assign (v := .int .i64 2) rfl) ?_
    refine LW.nil hL rfl ?_
    refine NW.then ?_
    refine CW.ret ?_
    refine RW.then ?_
    exact res2 rfl rfl rfl ⟨none, 2, rfl, h⟩
  · replace h := h.2 hb3
    refine CW.skip ?_
    refine NW.then ?_
    refine CW.seq ?_
    refine CW.region fun L hL => ?_
    refine LW.rd hL rfl (Wants.free rfl) rfl (Rd.move (v := .int .i64 most1) rfl) ?_
    obtain ⟨b1, hb_b1⟩ : ∃ b1, b1 = World.size w := ⟨_, rfl⟩
    obtain ⟨w1, hw_w1⟩ : ∃ w1, w1 = World.alloc w (.cells #[.int .u32 0] 22) := ⟨_, rfl⟩
    replace h := h b1 hb_b1 w1 hw_w1
    refine LW.val hL rfl (Wants.free rfl) rfl (sliceE (n := 1) hb_b1 hw_w1 (fun w => Vl.buildSlice (vs := [(0, .int .u32 0)]) rfl (by kernel_rfl))) ?_
    obtain ⟨b2, hb_b2⟩ : ∃ b2, b2 = World.size w1 := ⟨_, rfl⟩
    obtain ⟨w2, hw_w2⟩ : ∃ w2, w2 = World.alloc w1 (.map #[] 0) := ⟨_, rfl⟩
    replace h := h b2 hb_b2 w2 hw_w2
    refine LW.val hL rfl (Wants.free rfl) rfl (mapE hb_b2 hw_w2 Vl.makeMap) ?_
    obtain ⟨w3, hm1, h⟩ := h
    refine LW.eff hL rfl (Wants.free rfl) rfl (Ef.insert rfl rfl rfl hm1) ?_
    refine LW.rd hL rfl (Wants.free rfl) rfl (Rd.move (v := .map (some b2)) rfl) ?_
    obtain ⟨b3, hb_b3⟩ : ∃ b3, b3 = World.size w3 := ⟨_, rfl⟩
    obtain ⟨w4, hw_w4⟩ : ∃ w4, w4 = World.alloc w3 (.map #[] 0) := ⟨_, rfl⟩
    replace h := h b3 hb_b3 w4 hw_w4
    refine LW.val hL rfl (Wants.free rfl) rfl (mapE hb_b3 hw_w4 Vl.makeMap) ?_
    refine LW.rd hL rfl (Wants.free rfl) rfl (Rd.build (v := .agg #[.int .i64 most1, .slice (some (⟨b1, 0, none⟩ : Addr)) 1 1, .map (some b2), .map (some b3)]) rfl (fun _ => by kernel_rfl)) ?_
    obtain ⟨b4, hb_b4⟩ : ∃ b4, b4 = World.size w4 := ⟨_, rfl⟩
    obtain ⟨w5, hw_w5⟩ : ∃ w5, w5 = World.alloc w4 (.cells #[.int .i64 most1, .slice (some (⟨b1, 0, none⟩ : Addr)) 1 1, .map (some b2), .map (some b3)] 201) := ⟨_, rfl⟩
    replace h := h b4 hb_b4 w5 hw_w5
    refine LW.val hL rfl (Wants.free rfl) rfl (boxE hb_b4 hw_w5 (Vl.box (v := .agg #[.int .i64 most1, .slice (some (⟨b1, 0, none⟩ : Addr)) 1 1, .map (some b2), .map (some b3)]) rfl)) ?_
    refine LW.rd hL rfl (Wants.free rfl) rfl (Rd.assign (v := .pointer (some (⟨b4, 0, none⟩ : Addr))) rfl) ?_
    refine LW.rd hL rfl (Wants.free rfl) rfl (Rd.assign (v := .int .i64 0) rfl) ?_
    refine LW.nil hL rfl ?_
    refine NW.then ?_
    refine CW.ret ?_
    exact res2 rfl rfl rfl ⟨some (⟨b4, 0, none⟩ : Addr), 0, rfl, h⟩

/- pomander/pomanderref02.New -/
def V_pomanderref02_New (most1 : Int) (w : World) (R : Int → (Option Addr) → Nat → Nat → World → Prop) : Prop :=
  ∀ b1 : Nat, b1 = World.size w → ∀ w1 : World, w1 = World.alloc w (.cells #[.int .i64 0, .slice none 0 0] 33) → (∀ b2 : Nat, b2 = World.size w1 → ∀ w2 : World, w2 = World.alloc w1 (.cells #[.int .u32 0] 22) → (Has w2 (⟨b1, 0, none⟩ : Addr) 2 ∧ Free w2 (⟨b1, 0, none⟩ : Addr) 2 ∧ ∀ w3 : World, w3 = setCells w2 (⟨b1, 0, none⟩ : Addr) 0 [.int .i64 most1, .slice (some (⟨b2, 0, none⟩ : Addr)) 1 1] → (∃ (r3 : Int) (r4 : Option Addr) (r4n : Nat) (r4c : Nat), CellsAt w3 (⟨b1, 0, none⟩ : Addr) 0 [.int .i64 r3, .slice r4 r4n r4c] ∧ R r3 r4 r4n r4c w3)))
set_option maxRecDepth 100000 in
theorem ok_pomanderref02_New (most1 : Int) (w : World) (R : Int → (Option Addr) → Nat → Nat → World → Prop) (h : V_pomanderref02_New most1 w R) : Calls Try.prog 69 #[.int .i64 most1] w (fun e w' => ∃ (r1 : Int) (r2 : Option Addr) (r2n : Nat) (r2c : Nat), e = .returned (.agg #[.int .i64 r1, .slice r2 r2n r2c]) ∧ R r1 r2 r2n r2c w') := by
  unfold V_pomanderref02_New at h
  refine enter (N := 6) Try.func69 rfl rfl ?_
  refine CW.seq ?_
  refine CW.region fun L hL => ?_
  obtain ⟨b1, hb_b1⟩ : ∃ b1, b1 = World.size w := ⟨_, rfl⟩
  obtain ⟨w1, hw_w1⟩ : ∃ w1, w1 = World.alloc w (.cells #[.int .i64 0, .slice none 0 0] 33) := ⟨_, rfl⟩
  replace h := h b1 hb_b1 w1 hw_w1
  refine LW.val hL rfl (Wants.free rfl) rfl (boxE hb_b1 hw_w1 (Vl.alloc (z := .agg #[.int .i64 0, .slice none 0 0]) (by kernel_rfl))) ?_
  refine LW.nil hL rfl ?_
  refine NW.then ?_
  refine CW.seq ?_
  refine CW.region fun L hL => ?_
  refine LW.rd hL rfl (Wants.free rfl) rfl (Rd.move (v := .int .i64 most1) rfl) ?_
  obtain ⟨b2, hb_b2⟩ : ∃ b2, b2 = World.size w1 := ⟨_, rfl⟩
  obtain ⟨w2, hw_w2⟩ : ∃ w2, w2 = World.alloc w1 (.cells #[.int .u32 0] 22) := ⟨_, rfl⟩
  replace h := h b2 hb_b2 w2 hw_w2
  refine LW.val hL rfl (Wants.free rfl) rfl (sliceE (n := 1) hb_b2 hw_w2 (fun w => Vl.buildSlice (vs := [(0, .int .u32 0)]) rfl (by kernel_rfl))) ?_
  refine LW.rd hL rfl (Wants.free rfl) rfl (Rd.build (v := .agg #[.int .i64 most1, .slice (some (⟨b2, 0, none⟩ : Addr)) 1 1]) rfl (fun _ => by kernel_rfl)) ?_
  obtain ⟨ho1, hf1, h⟩ := h
  obtain ⟨w3, hw_w3⟩ : ∃ w3, w3 = setCells w2 (⟨b1, 0, none⟩ : Addr) 0 [.int .i64 most1, .slice (some (⟨b2, 0, none⟩ : Addr)) 1 1] := ⟨_, rfl⟩
  replace h := h w3 hw_w3
  refine LW.eff hL rfl (Wants.free rfl) rfl (stNE hw_w3 (Ef.stN (cs := [.int .i64 most1, .slice (some (⟨b2, 0, none⟩ : Addr)) 1 1]) rfl rfl (by kernel_rfl) (List.forall_mem_cons.2 ⟨rfl, (List.forall_mem_cons.2 ⟨rfl, (List.forall_mem_nil _)⟩)⟩) ho1 hf1)) ?_
  refine LW.nil hL rfl ?_
  refine NW.then ?_
  refine CW.ret ?_
  obtain ⟨r3, r4, r4n, r4c, hr1, h⟩ := h
  exact resN (vs := [.agg #[.int .i64 r3, .slice r4 r4n r4c]]) (ResOK.c rfl (lvN (cs := [.int .i64 r3, .slice r4 r4n r4c]) (by kernel_rfl) (by kernel_rfl) (cellsAt_get hr1)) ResOK.nil) rfl ⟨r3, r4, r4n, r4c, rfl, h⟩

/- (*pomander/flow.Flow).none -/
def V_flow_Flow_none (f1 : Option Addr) (w : World) (R : Bool → World → Prop) : Prop :=
  ∃ J1 : Bool → World → Prop, (∀ (b1 : Bool) (w1 : World), J1 b1 w1 → R b1 w1) ∧ (((Option.isNone f1) = false → ∃ a1 : Addr, f1 = some a1 ∧ (∃ (t1 : Option Addr), w.cell? (a1.add 2) = some (.pointer t1) ∧ (J1 (Option.isNone t1) w))) ∧ ((Option.isNone f1) = true → J1 true w))
set_option maxRecDepth 100000 in
theorem ok_flow_Flow_none (f1 : Option Addr) (w : World) (R : Bool → World → Prop) (h : V_flow_Flow_none f1 w R) : Calls Try.prog 73 #[.pointer f1] w (fun e w' => ∃ (r1 : Bool), e = .returned (.bool r1) ∧ R r1 w') := by
  unfold V_flow_Flow_none at h
  refine enter (N := 12) Try.func73 rfl rfl ?_
  refine CW.seq ?_
  refine CW.region fun L hL => ?_
  refine LW.rd hL rfl (Wants.free rfl) rfl (Rd.assign (v := .bool false) rfl) ?_
  refine LW.nil hL rfl ?_
  refine NW.then ?_
  refine CW.seq ?_
  refine CW.region fun L hL => ?_
  refine LW.rd hL rfl (Wants.free rfl) rfl (Rd.move (v := .pointer f1) rfl) ?_
  refine LW.rd hL rfl (Wants.free rfl) rfl (Rd.bin (v := .bool (Option.isNone f1)) rfl rfl (fun w => ptr_nil_eq (by kernel_rfl) f1 w)) ?_
  refine LW.rd hL rfl (Wants.free rfl) rfl (Rd.move (v := .bool (Option.isNone f1)) rfl) ?_
  obtain ⟨J1, hJ1, h1_J1, h0_J1⟩ := h
  suffices K1 : ∀ (b1 : Bool) (w1 : World), J1 b1 w1 → L 9 [(2, .bool false), (11, .bool b1)] w1 by
    rcases Bool.eq_false_or_eq_true (Option.isNone f1) with hb1 | hb1
    · have h := h0_J1 hb1
      refine LW.skip hL rfl (Skips.on rfl rfl rfl rfl rfl hb1) rfl ?_
      refine LW.skip hL rfl (Skips.on rfl rfl rfl rfl rfl hb1) rfl ?_
      refine LW.skip hL rfl (Skips.on rfl rfl rfl rfl rfl hb1) rfl ?_
      refine LW.skip hL rfl (Skips.on rfl rfl rfl rfl rfl hb1) rfl ?_
      refine LW.skip hL rfl (Skips.on rfl rfl rfl rfl rfl hb1) rfl ?_
      refine LW.rd hL rfl (Wants.free rfl) rfl (Rd.pickT rfl hb1 rfl) ?_
      exact LW.sub hL (by exact ⟨rfl, rfl, trivial⟩) (K1 true w h)
    · have h := h1_J1 hb1
      refine LW.rd hL rfl (Wants.on rfl rfl rfl rfl rfl hb1) rfl (Rd.move (v := .pointer f1) rfl) ?_
      obtain ⟨a1, ha1, h⟩ := h
      refine LW.rd hL rfl (Wants.on rfl rfl rfl rfl rfl hb1) rfl (Rd.nil (q := a1) (by rw [← ha1]; rfl)) ?_
      refine LW.rd hL rfl (Wants.on rfl rfl rfl rfl rfl hb1) rfl (Rd.fa (v := .pointer (some (a1.add 2))) rfl (fun _ => by kernel_rfl)) ?_
      obtain ⟨t1, hc1, h⟩ := h
      refine LW.rd hL rfl (Wants.on rfl rfl rfl rfl rfl hb1) rfl (Rd.ld (v := .pointer t1) rfl (by kernel_rfl) (eqs hc1)) ?_
      refine LW.rd hL rfl (Wants.on rfl rfl rfl rfl rfl hb1) rfl (Rd.bin (v := .bool (Option.isNone t1)) rfl rfl (fun w => ptr_nil_eq (by kernel_rfl) t1 w)) ?_
      refine LW.rd hL rfl (Wants.free rfl) rfl (Rd.pickF rfl hb1 rfl) ?_
      exact LW.sub hL (by exact ⟨rfl, rfl, trivial⟩) (K1 (Option.isNone t1) w h)
  intro b1 w1 h_
  have h := hJ1 b1 w1 h_; clear h_
  refine LW.rd hL rfl (Wants.free rfl) rfl (Rd.assign (v := .bool b1) rfl) ?_
  refine LW.nil hL rfl ?_
  refine NW.then ?_
  refine CW.ret ?_
  exact res1 rfl rfl ⟨b1, rfl, h⟩

/- (*pomander/flow.Flow).may -/
def V_flow_Flow_may (f1 : Option Addr) (p1 : Int) (p2 : Int) (w : World) (R : Bool → World → Prop) : Prop :=
  ∀ b1 : Nat, b1 = World.size w → ∀ w1 : World, w1 = World.alloc w (.cells #[.int .i64 p1, .int .i64 p2] 56) → (∀ w2 : World, w2 = World.drew w1 → ∃ (t1 : Int), w2.cell? (⟨b1, 0, none⟩ : Addr) = some (.int .i64 t1) ∧ (∃ (t2 : Int), w2.cell? (⟨b1, 1, none⟩ : Addr) = some (.int .i64 t2) ∧ (∃ J1 : Bool → World → Prop, (∀ (b2 : Bool) (w3 : World), J1 b2 w3 → ∃ J2 : Bool → World → Prop, (∀ (b3 : Bool) (w4 : World), J2 b3 w4 → ∃ J3 : Bool → World → Prop, (∀ (b4 : Bool) (w5 : World), J3 b4 w5 → R b4 w5) ∧ ((b3 = true → Calls Try.prog 108 #[.pointer f1] w4 fun e w6 => ∃ (r2 : Value) (r3 : Value) (r4 : Value) (r5 : Value) (r6 : Value) (r7 : Value) (r8 : Value) (r9 : Value) (r10 : Value) (r11 : Value) (r12 : Value) (r13 : Value) (r14 : Value) (r15 : Value) (r16 : Value) (r17 : Value) (r18 : Value) (r19 : Value), e = .returned (.agg #[r2, r3, r4, r5, r6, r7, r8, r9, r10, r11, r12, r13, r14, r15, r16, r17, r18, r19]) ∧ ((w6.cell? (⟨b1, 0, none⟩ : Addr) = some (.int .i64 t1) ∧ w6.cell? (⟨b1, 1, none⟩ : Addr) = some (.int .i64 t2) ∧ True) ∧ (∃ (x1 : Value), (∀ w : World, (Instr.index 202 (.agg #[r2, r3, r4, r5, r6, r7, r8, r9, r10, r11, r12, r13, r14, r15, r16, r17, r18, r19]) (.int .i64 t1)).run Try.prog w = .ok (x1) w) ∧ (CallsV Try.prog x1 #[] w6 fun e w7 => ∃ (r20 : Int), e = .returned (.int .i64 r20) ∧ ((w7.cell? (⟨b1, 0, none⟩ : Addr) = some (.int .i64 t1) ∧ w7.cell? (⟨b1, 1, none⟩ : Addr) = some (.int .i64 t2) ∧ True) ∧ (J3 (decide (t2 < r20)) w7)))))) ∧ (b3 = false → J3 false w4))) ∧ ((b2 = true → J2 (decide (t2 ≥ 0)) w3) ∧ (b2 = false → J2 false w3))) ∧ (((decide (t1 ≥ 1)) = true → J1 (decide (t1 ≤ 17)) w2) ∧ ((decide (t1 ≥ 1)) = false → J1 false w2)))))
set_option maxRecDepth 100000 in
theorem ok_flow_Flow_may (f1 : Option Addr) (p1 : Int) (p2 : Int) (w : World) (R : Bool → World → Prop) (h : V_flow_Flow_may f1 p1 p2 w R) : Calls Try.prog 74 #[.pointer f1, .agg #[.int .i64 p1, .int .i64 p2]] w (fun e w' => ∃ (r1 : Bool), e = .returned (.bool r1) ∧ R r1 w') := by
  unfold V_flow_Flow_may at h
  refine enter (N := 29) Try.func74 rfl rfl ?_
  refine CW.seq ?_
  refine CW.region fun L hL => ?_
  obtain ⟨b1, hb_b1⟩ : ∃ b1, b1 = World.size w := ⟨_, rfl⟩
  obtain ⟨w1, hw_w1⟩ : ∃ w1, w1 = World.alloc w (.cells #[.int .i64 p1, .int .i64 p2] 56) := ⟨_, rfl⟩
  replace h := h b1 hb_b1 w1 hw_w1
  refine LW.val hL rfl (Wants.free rfl) rfl (boxE hb_b1 hw_w1 (Vl.box (v := .agg #[.int .i64 p1, .int .i64 p2]) rfl)) ?_
  refine LW.rd hL rfl (Wants.free rfl) rfl (Rd.assign (v := .bool false) rfl) ?_
  refine LW.nil hL rfl ?_
  refine NW.then ?_
  refine CW.seq ?_
  replace h := h _ rfl
  obtain ⟨t1, hc1, h⟩ := h
  obtain ⟨t2, hc2, h⟩ := h
  refine CW.drawn (fun w => w.cell? (⟨b1, 0, none⟩ : Addr) = some (.int .i64 t1) ∧ w.cell? (⟨b1, 1, none⟩ : Addr) = some (.int .i64 t2) ∧ True) 25 (by kernel_rfl) fun H hH => ?_
  generalize World.drew _ = w2 at *
  have hS1 : w2.cell? (⟨b1, 0, none⟩ : Addr) = some (.int .i64 t1) ∧ w2.cell? (⟨b1, 1, none⟩ : Addr) = some (.int .i64 t2) ∧ True := ⟨hc1, hc2, trivial⟩
  refine HW.pure (i := 0) hH rfl (by kernel_rfl) (Wants.free rfl) rfl (fun _ => hS1) (Rd.fa (v := .pointer (some (⟨b1, 0, none⟩ : Addr))) rfl (fun _ => by kernel_rfl)) ?_
  refine HW.take (i := 1) hH rfl (by kernel_rfl) (by kernel_rfl) (Wants.free rfl) rfl (fun _ => hS1) (Rd.ld (v := .int .i64 t1) rfl (by kernel_rfl) (fun w h => h.1)) ?_
  refine HW.pure (i := 2) hH rfl (by kernel_rfl) (Wants.free rfl) rfl (fun _ => hS1) (Rd.bin (v := .bool (decide (t1 ≥ 1))) rfl rfl (fun w => by kernel_rfl)) ?_
  refine HW.pure (i := 3) hH rfl (by kernel_rfl) (Wants.free rfl) rfl (fun _ => hS1) (Rd.move (v := .bool (decide (t1 ≥ 1))) rfl) ?_
  obtain ⟨J1, hJ1, h1_J1, h0_J1⟩ := h
  suffices K1 : ∀ (b2 : Bool) (w3 : World), (w3.cell? (⟨b1, 0, none⟩ : Addr) = some (.int .i64 t1) ∧ w3.cell? (⟨b1, 1, none⟩ : Addr) = some (.int .i64 t2) ∧ True) → J1 b2 w3 → H 17 #[true, true, true, true, true, true, true, true, false, false, false, false, false, false, false, false, false, false, false, false, false, false, false, false, false] [(0, .pointer f1), (3, .pointer (some (⟨b1, 0, none⟩ : Addr))), (4, .bool false), (12, .bool b2)] w3 by
    rcases Bool.eq_false_or_eq_true (decide (t1 ≥ 1)) with hb1 | hb1
    · have h := h1_J1 hb1
      refine HW.pure (i := 4) hH rfl (by kernel_rfl) (Wants.on rfl rfl rfl rfl rfl hb1) rfl (fun _ => hS1) (Rd.fa (v := .pointer (some (⟨b1, 0, none⟩ : Addr))) rfl (fun _ => by kernel_rfl)) ?_
      refine HW.take (i := 5) hH rfl (by kernel_rfl) (by kernel_rfl) (Wants.on rfl rfl rfl rfl rfl hb1) rfl (fun _ => hS1) (Rd.ld (v := .int .i64 t1) rfl (by kernel_rfl) (fun w h => h.1)) ?_
      refine HW.pure (i := 6) hH rfl (by kernel_rfl) (Wants.on rfl rfl rfl rfl rfl hb1) rfl (fun _ => hS1) (Rd.bin (v := .bool (decide (t1 ≤ 17))) rfl rfl (fun w => by kernel_rfl)) ?_
      refine HW.pure (i := 7) hH rfl (by kernel_rfl) (Wants.free rfl) rfl (fun _ => hS1) (Rd.pickT rfl hb1 rfl) ?_
      exact HW.sub hH (by exact ⟨rfl, rfl, rfl, rfl, trivial⟩) (K1 (decide (t1 ≤ 17)) w2 hS1 h)
    · have h := h0_J1 hb1
      refine HW.skip (i := 4) hH rfl (by kernel_rfl) (Skips.on rfl rfl rfl rfl rfl hb1) rfl (fun _ => hS1) ?_
      refine HW.skip (i := 5) hH rfl (by kernel_rfl) (Skips.on rfl rfl rfl rfl rfl hb1) rfl (fun _ => hS1) ?_
      refine HW.skip (i := 6) hH rfl (by kernel_rfl) (Skips.on rfl rfl rfl rfl rfl hb1) rfl (fun _ => hS1) ?_
      refine HW.pure (i := 7) hH rfl (by kernel_rfl) (Wants.free rfl) rfl (fun _ => hS1) (Rd.pickF rfl hb1 rfl) ?_
      exact HW.sub hH (by exact ⟨rfl, rfl, rfl, rfl, trivial⟩) (K1 false w2 hS1 h)
  intro b2 w3 hS2 h_
  have h := hJ1 b2 w3 h_; clear h_
  refine HW.pure (i := 8) hH rfl (by kernel_rfl) (Wants.free rfl) rfl (fun _ => hS2) (Rd.move (v := .bool b2) rfl) ?_
  obtain ⟨J2, hJ2, h1_J2, h0_J2⟩ := h
  suffices K2 : ∀ (b3 : Bool) (w4 : World), (w4.cell? (⟨b1, 0, none⟩ : Addr) = some (.int .i64 t1) ∧ w4.cell? (⟨b1, 1, none⟩ : Addr) = some (.int .i64 t2) ∧ True) → J2 b3 w4 → H 12 #[true, true, true, true, true, true, true, true, true, true, true, true, true, false, false, false, false, false, false, false, false, false, false, false, false] [(0, .pointer f1), (3, .pointer (some (⟨b1, 0, none⟩ : Addr))), (4, .bool false), (17, .bool b3)] w4 by
    rcases Bool.eq_false_or_eq_true b2 with hb2 | hb2
    · have h := h1_J2 hb2
      refine HW.pure (i := 9) hH rfl (by kernel_rfl) (Wants.on rfl rfl rfl rfl rfl hb2) rfl (fun _ => hS2) (Rd.fa (v := .pointer (some (⟨b1, 1, none⟩ : Addr))) rfl (fun _ => by kernel_rfl)) ?_
      refine HW.take (i := 10) hH rfl (by kernel_rfl) (by kernel_rfl) (Wants.on rfl rfl rfl rfl rfl hb2) rfl (fun _ => hS2) (Rd.ld (v := .int .i64 t2) rfl (by kernel_rfl) (fun w h => h.2.1)) ?_
      refine HW.pure (i := 11) hH rfl (by kernel_rfl) (Wants.on rfl rfl rfl rfl rfl hb2) rfl (fun _ => hS2) (Rd.bin (v := .bool (decide (t2 ≥ 0))) rfl rfl (fun w => by kernel_rfl)) ?_
      refine HW.pure (i := 12) hH rfl (by kernel_rfl) (Wants.free rfl) rfl (fun _ => hS2) (Rd.pickT rfl hb2 rfl) ?_
      exact HW.sub hH (by exact ⟨rfl, rfl, rfl, rfl, trivial⟩) (K2 (decide (t2 ≥ 0)) w3 hS2 h)
    · have h := h0_J2 hb2
      refine HW.skip (i := 9) hH rfl (by kernel_rfl) (Skips.on rfl rfl rfl rfl rfl hb2) rfl (fun _ => hS2) ?_
      refine HW.skip (i := 10) hH rfl (by kernel_rfl) (Skips.on rfl rfl rfl rfl rfl hb2) rfl (fun _ => hS2) ?_
      refine HW.skip (i := 11) hH rfl (by kernel_rfl) (Skips.on rfl rfl rfl rfl rfl hb2) rfl (fun _ => hS2) ?_
      refine HW.pure (i := 12) hH rfl (by kernel_rfl) (Wants.free rfl) rfl (fun _ => hS2) (Rd.pickF rfl hb2 rfl) ?_
      exact HW.sub hH (by exact ⟨rfl, rfl, rfl, rfl, trivial⟩) (K2 false w3 hS2 h)
  intro b3 w4 hS3 h_
  have h := hJ2 b3 w4 h_; clear h_
  refine HW.pure (i := 13) hH rfl (by kernel_rfl) (Wants.free rfl) rfl (fun _ => hS3) (Rd.move (v := .bool b3) rfl) ?_
  obtain ⟨J3, hJ3, h1_J3, h0_J3⟩ := h
  suffices K3 : ∀ (b4 : Bool) (w5 : World), (w5.cell? (⟨b1, 0, none⟩ : Addr) = some (.int .i64 t1) ∧ w5.cell? (⟨b1, 1, none⟩ : Addr) = some (.int .i64 t2) ∧ True) → J3 b4 w5 → H 1 #[true, true, true, true, true, true, true, true, true, true, true, true, true, true, true, true, true, true, true, true, true, true, true, true, false] [(4, .bool false), (28, .bool b4)] w5 by
    rcases Bool.eq_false_or_eq_true b3 with hb3 | hb3
    · have h := h1_J3 hb3
      refine HW.pure (i := 14) hH rfl (by kernel_rfl) (Wants.on rfl rfl rfl rfl rfl hb3) rfl (fun _ => hS3) (Rd.fa (v := .pointer (some (⟨b1, 1, none⟩ : Addr))) rfl (fun _ => by kernel_rfl)) ?_
      refine HW.take (i := 15) hH rfl (by kernel_rfl) (by kernel_rfl) (Wants.on rfl rfl rfl rfl rfl hb3) rfl (fun _ => hS3) (Rd.ld (v := .int .i64 t2) rfl (by kernel_rfl) (fun w h => h.2.1)) ?_
      refine HW.pure (i := 16) hH rfl (by kernel_rfl) (Wants.on rfl rfl rfl rfl rfl hb3) rfl (fun _ => hS3) (Rd.move (v := .pointer f1) rfl) ?_
      refine HW.pure (i := 18) hH rfl (by kernel_rfl) (Wants.on rfl rfl rfl rfl rfl hb3) rfl (fun _ => hS3) (Rd.fa (v := .pointer (some (⟨b1, 0, none⟩ : Addr))) rfl (fun _ => by kernel_rfl)) ?_
      refine HW.take (i := 19) hH rfl (by kernel_rfl) (by kernel_rfl) (Wants.on rfl rfl rfl rfl rfl hb3) rfl (fun _ => hS3) (Rd.ld (v := .int .i64 t1) rfl (by kernel_rfl) (fun w h => h.1)) ?_
      refine HW.call (i := 17) hH (by kernel_rfl) rfl (Wants.on rfl rfl rfl rfl rfl hb3) rfl (Cl.fn (f := 108) rfl Try.func108 (by kernel_rfl) rfl) h (fun e w6 h_ => ?_)
      clear h
      obtain ⟨r2, r3, r4, r5, r6, r7, r8, r9, r10, r11, r12, r13, r14, r15, r16, r17, r18, r19, rfl, hS4, h⟩ := h_
      refine ⟨_, rfl, (fun _ => hS4), ?_⟩
      obtain ⟨x1, hx1, h⟩ := h
      refine HW.pure (i := 20) hH rfl (by kernel_rfl) (Wants.on rfl rfl rfl rfl rfl hb3) rfl (fun _ => hS4) (Rd.index (v := x1) rfl rfl hx1) ?_
      obtain ⟨f2, cap_f2, fn_f2, he_f2, hf_f2, hn_f2, hb_f2, h⟩ := h
      refine HW.call (i := 21) hH (by kernel_rfl) rfl (Wants.on rfl rfl rfl rfl rfl hb3) rfl (Cl.fv (f := f2) (cap := cap_f2) (by rw [← he_f2]; rfl) rfl hf_f2 hn_f2 hb_f2) h (fun e w7 h_ => ?_)
      clear h
      obtain ⟨r20, rfl, hS5, h⟩ := h_
      refine ⟨_, rfl, (fun _ => hS5), ?_⟩
      refine HW.pure (i := 22) hH rfl (by kernel_rfl) (Wants.on rfl rfl rfl rfl rfl hb3) rfl (fun _ => hS5) (Rd.bin (v := .bool (decide (t2 < r20))) rfl rfl (fun w => by kernel_rfl)) ?_
      refine HW.pure (i := 23) hH rfl (by kernel_rfl) (Wants.free rfl) rfl (fun _ => hS5) (Rd.pickT rfl hb3 rfl) ?_
      exact HW.sub hH (by exact ⟨rfl, rfl, trivial⟩) (K3 (decide (t2 < r20)) w7 hS5 h)
    · have h := h0_J3 hb3
      refine HW.skip (i := 14) hH rfl (by kernel_rfl) (Skips.on rfl rfl rfl rfl rfl hb3) rfl (fun _ => hS3) ?_
      refine HW.skip (i := 15) hH rfl (by kernel_rfl) (Skips.on rfl rfl rfl rfl rfl hb3) rfl (fun _ => hS3) ?_
      refine HW.skip (i := 16) hH rfl (by kernel_rfl) (Skips.on rfl rfl rfl rfl rfl hb3) rfl (fun _ => hS3) ?_
      refine HW.skip (i := 17) hH rfl (by kernel_rfl) (Skips.on rfl rfl rfl rfl rfl hb3) rfl (fun _ => hS3) ?_
      refine HW.skip (i := 18) hH rfl (by kernel_rfl) (Skips.on rfl rfl rfl rfl rfl hb3) rfl (fun _ => hS3) ?_
      refine HW.skip (i := 19) hH rfl (by kernel_rfl) (Skips.on rfl rfl rfl rfl rfl hb3) rfl (fun _ => hS3) ?_
      refine HW.skip (i := 20) hH rfl (by kernel_rfl) (Skips.on rfl rfl rfl rfl rfl hb3) rfl (fun _ => hS3) ?_
      refine HW.skip (i := 21) hH rfl (by kernel_rfl) (Skips.on rfl rfl rfl rfl rfl hb3) rfl (fun _ => hS3) ?_
      refine HW.skip (i := 22) hH rfl (by kernel_rfl) (Skips.on rfl rfl rfl rfl rfl hb3) rfl (fun _ => hS3) ?_
      refine HW.pure (i := 23) hH rfl (by kernel_rfl) (Wants.free rfl) rfl (fun _ => hS3) (Rd.pickF rfl hb3 rfl) ?_
      exact HW.sub hH (by exact ⟨rfl, rfl, trivial⟩) (K3 false w4 hS3 h)
  intro b4 w5 hS6 h_
  have h := hJ3 b4 w5 h_; clear h_
  refine HW.pure (i := 24) hH rfl (by kernel_rfl) (Wants.free rfl) rfl (fun _ => hS6) (Rd.assign (v := .bool b4) rfl) ?_
  refine HW.done hH (by kernel_rfl) ?_
  refine NW.then ?_
  refine CW.ret ?_
  exact res1 rfl rfl ⟨b4, rfl, h⟩

/- (*pomander/flow.Flow).get -/
def V_flow_Flow_get (f1 : Option Addr) (p1 : Int) (p2 : Int) (w : World) (R : Int → World → Prop) : Prop :=
  ∀ b1 : Nat, b1 = World.size w → ∀ w1 : World, w1 = World.alloc w (.cells #[.int .i64 p1, .int .i64 p2] 56) → (∃ (t1 : Int), w1.cell? (⟨b1, 0, none⟩ : Addr) = some (.int .i64 t1) ∧ (((t1 == 10) = true → ∀ w2 : World, w2 = World.drew w1 → ∃ a1 : Addr, f1 = some a1 ∧ (∃ (t2 : Option Addr), w2.cell? (a1.add 3) = some (.pointer t2) ∧ (∃ (t3 : Int), w2.cell? (⟨b1, 1, none⟩ : Addr) = some (.int .i64 t3) ∧ (Calls Try.prog 42 #[.pointer t2, .int .i64 t3] w2 fun e w3 => ∃ (r2 : Int) (r3 : Int), e = .returned (.tuple #[.int .u32 r2, .int .i64 r3]) ∧ (R r2 w3))))) ∧ ((t1 == 10) = false → ((t1 == 12) = true → ∀ w4 : World, w4 = World.drew w1 → ∃ a2 : Addr, f1 = some a2 ∧ (∃ (t4 : Option Addr), w4.cell? (a2.add 4) = some (.pointer t4) ∧ (∃ (t5 : Int), w4.cell? (⟨b1, 1, none⟩ : Addr) = some (.int .i64 t5) ∧ (Calls Try.prog 42 #[.pointer t4, .int .i64 t5] w4 fun e w5 => ∃ (r4 : Int) (r5 : Int), e = .returned (.tuple #[.int .u32 r4, .int .i64 r5]) ∧ (R r4 w5))))) ∧ ((t1 == 12) = false → ∀ w6 : World, w6 = World.drew w1 → ∃ a3 : Addr, f1 = some a3 ∧ (∃ (t6 : Option Nat), w6.cell? (a3.add 5) = some (.map t6) ∧ (∃ (t7 : Int) (t8 : Int), CellsAt w6 (⟨b1, 0, none⟩ : Addr) 0 [.int .i64 t7, .int .i64 t8] ∧ (∃ (v1 : Int), (Instr.lookup 143 (.map t6) (.agg #[.int .i64 t7, .int .i64 t8]) false).run Try.prog w6 = .ok (.int .u32 v1) w6 ∧ (R v1 w6))))))))
set_option maxRecDepth 100000 in
theorem ok_flow_Flow_get (f1 : Option Addr) (p1 : Int) (p2 : Int) (w : World) (R : Int → World → Prop) (h : V_flow_Flow_get f1 p1 p2 w R) : Calls Try.prog 75 #[.pointer f1, .agg #[.int .i64 p1, .int .i64 p2]] w (fun e w' => ∃ (r1 : Int), e = .returned (.int .u32 r1) ∧ R r1 w') := by
  unfold V_flow_Flow_get at h
  refine enter (N := 43) Try.func75 rfl rfl ?_
  refine CW.seq ?_
  refine CW.region fun L hL => ?_
  obtain ⟨b1, hb_b1⟩ : ∃ b1, b1 = World.size w := ⟨_, rfl⟩
  obtain ⟨w1, hw_w1⟩ : ∃ w1, w1 = World.alloc w (.cells #[.int .i64 p1, .int .i64 p2] 56) := ⟨_, rfl⟩
  replace h := h b1 hb_b1 w1 hw_w1
  refine LW.val hL rfl (Wants.free rfl) rfl (boxE hb_b1 hw_w1 (Vl.box (v := .agg #[.int .i64 p1, .int .i64 p2]) rfl)) ?_
  refine LW.rd hL rfl (Wants.free rfl) rfl (Rd.assign (v := .int .u32 0) rfl) ?_
  refine LW.nil hL rfl ?_
  refine NW.then ?_
  refine CW.seq ?_
  refine CW.seq ?_
  refine CW.region fun L hL => ?_
  refine LW.rd hL rfl (Wants.free rfl) rfl (Rd.fa (v := .pointer (some (⟨b1, 0, none⟩ : Addr))) rfl (fun _ => by kernel_rfl)) ?_
  obtain ⟨t1, hc1, h⟩ := h
  refine LW.rd hL rfl (Wants.free rfl) rfl (Rd.ld (v := .int .i64 t1) rfl (by kernel_rfl) (eqs hc1)) ?_
  refine LW.nil hL rfl ?_
  refine NW.then ?_
  refine CW.block ?_
  refine CW.seq ?_
  refine CW.region fun L hL => ?_
  refine LW.rd hL rfl (Wants.free rfl) rfl (Rd.bin (v := .bool (t1 == 10)) rfl rfl (fun w => by kernel_rfl)) ?_
  refine LW.rd hL rfl (Wants.free rfl) rfl (Rd.assign (v := .bool (t1 == 10)) rfl) ?_
  refine LW.nil hL rfl ?_
  refine NW.then ?_
  refine CW.cond rfl (fun hb1 => ?_) (fun hb1 => ?_)
  · replace h := h.1 hb1
    refine CW.seq ?_
    replace h := h _ rfl
    refine CW.drawn (fun w => w = World.drew w1) 6 (by kernel_rfl) fun H hH => ?_
    generalize World.drew w1 = w2 at h hH ⊢
    refine HW.pure (i := 0) hH rfl (by kernel_rfl) (Wants.free rfl) rfl (fun _ => rfl) (Rd.move (v := .pointer f1) rfl) ?_
    obtain ⟨a1, ha1, h⟩ := h
    refine HW.pure (i := 1) hH rfl (by kernel_rfl) (Wants.free rfl) rfl (fun _ => rfl) (Rd.nil (q := a1) (by rw [← ha1]; rfl)) ?_
    refine HW.pure (i := 2) hH rfl (by kernel_rfl) (Wants.free rfl) rfl (fun _ => rfl) (Rd.fa (v := .pointer (some (a1.add 3))) rfl (fun _ => by kernel_rfl)) ?_
    obtain ⟨t2, hc2, h⟩ := h
    refine HW.take (i := 3) hH rfl (by kernel_rfl) (by kernel_rfl) (Wants.free rfl) rfl (fun _ => rfl) (Rd.ld (v := .pointer t2) rfl (by kernel_rfl) (eqs hc2)) ?_
    refine HW.pure (i := 4) hH rfl (by kernel_rfl) (Wants.free rfl) rfl (fun _ => rfl) (Rd.fa (v := .pointer (some (⟨b1, 1, none⟩ : Addr))) rfl (fun _ => by kernel_rfl)) ?_
    obtain ⟨t3, hc3, h⟩ := h
    refine HW.take (i := 5) hH rfl (by kernel_rfl) (by kernel_rfl) (Wants.free rfl) rfl (fun _ => rfl) (Rd.ld (v := .int .i64 t3) rfl (by kernel_rfl) (eqs hc3)) ?_
    refine HW.call (i := 6) hH (by kernel_rfl) rfl (Wants.free rfl) rfl (Cl.fn (f := 42) rfl Try.func42 (by kernel_rfl) rfl) h (fun e w3 h_ => ?_)
    clear h
    obtain ⟨r2, r3, rfl, h⟩ := h_
    refine ⟨_, rfl, (fun hc => by cases hc), ?_⟩
    refine HW.pure (i := 7) hH rfl (by kernel_rfl) (Wants.free rfl) rfl (fun hc => by cases hc) (Rd.move (v := .tuple #[.int .u32 r2, .int .i64 r3]) rfl) ?_
    refine HW.pure (i := 8) hH rfl (by kernel_rfl) (Wants.free rfl) rfl (fun hc => by cases hc) (Rd.extract (v := .int .u32 r2) rfl rfl) ?_
    refine HW.pure (i := 9) hH rfl (by kernel_rfl) (Wants.free rfl) rfl (fun hc => by cases hc) (Rd.extract (v := .int .i64 r3) rfl rfl) ?_
    refine HW.pure (i := 10) hH rfl (by kernel_rfl) (Wants.free rfl) rfl (fun hc => by cases hc) (Rd.assign (v := .int .u32 r2) rfl) ?_
    refine HW.pure (i := 11) hH rfl (by kernel_rfl) (Wants.free rfl) rfl (fun hc => by cases hc) (Rd.assign (v := .int .i64 r3) rfl) ?_
    refine HW.done hH (by kernel_rfl) ?_
    refine NW.then ?_
    refine CW.seq ?_
    refine CW.region fun L hL => ?_
    refine LW.rd hL rfl (Wants.free rfl) rfl (Rd.move (v := .int .u32 r2) rfl) ?_
    refine LW.rd hL rfl (Wants.free rfl) rfl (Rd.assign (v := .int .u32 r2) rfl) ?_
    refine LW.nil hL rfl ?_
    refine NW.then ?_
    refine CW.ret ?_
    refine RW.block ?_
    refine RW.then ?_
    exact res1 rfl rfl ⟨r2, rfl, h⟩
  · replace h := h.2 hb1
    refine CW.seq ?_
    refine CW.region fun L hL => ?_
    refine LW.rd hL rfl (Wants.free rfl) rfl (Rd.bin (v := .bool (t1 == 12)) rfl rfl (fun w => by kernel_rfl)) ?_
    refine LW.rd hL rfl (Wants.free rfl) rfl (Rd.assign (v := .bool (t1 == 12)) rfl) ?_
    refine LW.nil hL rfl ?_
    refine NW.then ?_
    refine CW.cond rfl (fun hb2 => ?_) (fun hb2 => ?_)
    · replace h := h.1 hb2
      refine CW.seq ?_
      replace h := h _ rfl
      refine CW.drawn (fun w => w = World.drew w1) 6 (by kernel_rfl) fun H hH => ?_
      generalize World.drew w1 = w4 at h hH ⊢
      refine HW.pure (i := 0) hH rfl (by kernel_rfl) (Wants.free rfl) rfl (fun _ => rfl) (Rd.move (v := .pointer f1) rfl) ?_
      obtain ⟨a2, ha2, h⟩ := h
      refine HW.pure (i := 1) hH rfl (by kernel_rfl) (Wants.free rfl) rfl (fun _ => rfl) (Rd.nil (q := a2) (by rw [← ha2]; rfl)) ?_
      refine HW.pure (i := 2) hH rfl (by kernel_rfl) (Wants.free rfl) rfl (fun _ => rfl) (Rd.fa (v := .pointer (some (a2.add 4))) rfl (fun _ => by kernel_rfl)) ?_
      obtain ⟨t4, hc4, h⟩ := h
      refine HW.take (i := 3) hH rfl (by kernel_rfl) (by kernel_rfl) (Wants.free rfl) rfl (fun _ => rfl) (Rd.ld (v := .pointer t4) rfl (by kernel_rfl) (eqs hc4)) ?_
      refine HW.pure (i := 4) hH rfl (by kernel_rfl) (Wants.free rfl) rfl (fun _ => rfl) (Rd.fa (v := .pointer (some (⟨b1, 1, none⟩ : Addr))) rfl (fun _ => by kernel_rfl)) ?_
      obtain ⟨t5, hc5, h⟩ := h
      refine HW.take (i := 5) hH rfl (by kernel_rfl) (by kernel_rfl) (Wants.free rfl) rfl (fun _ => rfl) (Rd.ld (v := .int .i64 t5) rfl (by kernel_rfl) (eqs hc5)) ?_
      refine HW.call (i := 6) hH (by kernel_rfl) rfl (Wants.free rfl) rfl (Cl.fn (f := 42) rfl Try.func42 (by kernel_rfl) rfl) h (fun e w5 h_ => ?_)
      clear h
      obtain ⟨r4, r5, rfl, h⟩ := h_
      refine ⟨_, rfl, (fun hc => by cases hc), ?_⟩
      refine HW.pure (i := 7) hH rfl (by kernel_rfl) (Wants.free rfl) rfl (fun hc => by cases hc) (Rd.move (v := .tuple #[.int .u32 r4, .int .i64 r5]) rfl) ?_
      refine HW.pure (i := 8) hH rfl (by kernel_rfl) (Wants.free rfl) rfl (fun hc => by cases hc) (Rd.extract (v := .int .u32 r4) rfl rfl) ?_
      refine HW.pure (i := 9) hH rfl (by kernel_rfl) (Wants.free rfl) rfl (fun hc => by cases hc) (Rd.extract (v := .int .i64 r5) rfl rfl) ?_
      refine HW.pure (i := 10) hH rfl (by kernel_rfl) (Wants.free rfl) rfl (fun hc => by cases hc) (Rd.assign (v := .int .u32 r4) rfl) ?_
      refine HW.pure (i := 11) hH rfl (by kernel_rfl) (Wants.free rfl) rfl (fun hc => by cases hc) (Rd.assign (v := .int .i64 r5) rfl) ?_
      refine HW.done hH (by kernel_rfl) ?_
      refine NW.then ?_
      refine CW.seq ?_
      refine CW.region fun L hL => ?_
      refine LW.rd hL rfl (Wants.free rfl) rfl (Rd.move (v := .int .u32 r4) rfl) ?_
      refine LW.rd hL rfl (Wants.free rfl) rfl (Rd.assign (v := .int .u32 r4) rfl) ?_
      refine LW.nil hL rfl ?_
      refine NW.then ?_
      refine CW.ret ?_
      refine RW.block ?_
      refine RW.then ?_
      exact res1 rfl rfl ⟨r4, rfl, h⟩
    · replace h := h.2 hb2
      refine CW.skip ?_
      refine NW.block ?_
      refine NW.then ?_
      refine CW.seq ?_
      replace h := h _ rfl
      refine CW.drawn (fun w => w = World.drew w1) 7 (by kernel_rfl) fun H hH => ?_
      generalize World.drew w1 = w6 at h hH ⊢
      refine HW.pure (i := 0) hH rfl (by kernel_rfl) (Wants.free rfl) rfl (fun _ => rfl) (Rd.move (v := .pointer f1) rfl) ?_
      obtain ⟨a3, ha3, h⟩ := h
      refine HW.pure (i := 1) hH rfl (by kernel_rfl) (Wants.free rfl) rfl (fun _ => rfl) (Rd.nil (q := a3) (by rw [← ha3]; rfl)) ?_
      refine HW.pure (i := 2) hH rfl (by kernel_rfl) (Wants.free rfl) rfl (fun _ => rfl) (Rd.fa (v := .pointer (some (a3.add 5))) rfl (fun _ => by kernel_rfl)) ?_
      obtain ⟨t6, hc6, h⟩ := h
      refine HW.take (i := 3) hH rfl (by kernel_rfl) (by kernel_rfl) (Wants.free rfl) rfl (fun _ => rfl) (Rd.ld (v := .map t6) rfl (by kernel_rfl) (eqs hc6)) ?_
      obtain ⟨t7, t8, hc7, h⟩ := h
      refine HW.take (i := 4) hH rfl (by kernel_rfl) (by kernel_rfl) (Wants.free rfl) rfl (fun _ => rfl) (Rd.ldN (cs := [.int .i64 t7, .int .i64 t8]) rfl (by kernel_rfl) (by kernel_rfl) (cellsS hc7)) ?_
      obtain ⟨v1, hl1, h⟩ := h
      refine HW.take (i := 5) hH rfl (by kernel_rfl) (by kernel_rfl) (Wants.free rfl) rfl (fun _ => rfl) (Rd.lookup (v := .int .u32 v1) rfl rfl (fun _ e => e ▸ hl1)) ?_
      refine HW.pure (i := 6) hH rfl (by kernel_rfl) (Wants.free rfl) rfl (fun _ => rfl) (Rd.assign (v := .int .u32 v1) rfl) ?_
      refine HW.done hH (by kernel_rfl) ?_
      refine NW.then ?_
      refine CW.ret ?_
      exact res1 rfl rfl ⟨v1, rfl, h⟩

/- (*pomander/policy.Policy).change -/
def V_policy_Policy_change (p1 : Option Addr) (l1 : Option Addr) (kind1 : Int) (n1 : Int) (w : World) (R : Int → World → Prop) : Prop :=
  ∃ J1 : Bool → World → Prop, (∀ (b1 : Bool) (w1 : World), J1 b1 w1 → (b1 = true → R 2 w1) ∧ (b1 = false → ∃ a1 : Addr, l1 = some a1 ∧ ((0 : Int) ≤ kind1 ∧ (kind1 : Int) < 5 ∧ ((∃ o : Value, w1.cell? (a1.add (Int.toNat kind1 * 1)) = some o) ∧ w1.frozen? (a1.add (Int.toNat kind1 * 1)) = false ∧ ∀ w3 : World, w3 = World.setCell w1 (a1.add (Int.toNat kind1 * 1)) (.int .u32 n1) → (R 0 w3))))) ∧ (((decide (kind1 < 1) || decide (kind1 > 4)) = false → Calls Try.prog 66 #[.int .u32 n1] w fun e w2 => ∃ (r2 : Bool), e = .returned (.bool r2) ∧ (J1 (!r2) w2)) ∧ ((decide (kind1 < 1) || decide (kind1 > 4)) = true → J1 true w))
set_option maxRecDepth 100000 in
theorem ok_policy_Policy_change (p1 : Option Addr) (l1 : Option Addr) (kind1 : Int) (n1 : Int) (w : World) (R : Int → World → Prop) (h : V_policy_Policy_change p1 l1 kind1 n1 w R) : Calls Try.prog 76 #[.pointer p1, .pointer l1, .int .i64 kind1, .int .u32 n1] w (fun e w' => ∃ (r1 : Int), e = .returned (.int .i64 r1) ∧ R r1 w') := by
  unfold V_policy_Policy_change at h
  refine enter (N := 25) Try.func76 rfl rfl ?_
  refine CW.seq ?_
  refine CW.region fun L hL => ?_
  refine LW.rd hL rfl (Wants.free rfl) rfl (Rd.assign (v := .int .i64 0) rfl) ?_
  refine LW.nil hL rfl ?_
  refine NW.then ?_
  refine CW.seq ?_
  refine CW.seq ?_
  refine CW.region fun L hL => ?_
  refine LW.rd hL rfl (Wants.free rfl) rfl (Rd.move (v := .int .i64 kind1) rfl) ?_
  refine LW.rd hL rfl (Wants.free rfl) rfl (Rd.bin (v := .bool (decide (kind1 < 1))) rfl rfl (fun w => by kernel_rfl)) ?_
  refine LW.rd hL rfl (Wants.free rfl) rfl (Rd.move (v := .bool (decide (kind1 < 1))) rfl) ?_
  suffices K1 : L 6 [(1, .pointer l1), (2, .int .i64 kind1), (3, .int .u32 n1), (8, .int .i64 0), (14, .bool (decide (kind1 < 1) || decide (kind1 > 4)))] w by
    rcases Bool.eq_false_or_eq_true (decide (kind1 < 1)) with hb2 | hb2
    · skip
      refine LW.skip hL rfl (Skips.on rfl rfl rfl rfl rfl hb2) rfl ?_
      refine LW.skip hL rfl (Skips.on rfl rfl rfl rfl rfl hb2) rfl ?_
      refine LW.rd hL rfl (Wants.free rfl) rfl (Rd.pickT rfl hb2 rfl) ?_
      exact LW.sub hL (by exact ⟨rfl, rfl, rfl, rfl, (by rw [hb2]; rfl), trivial⟩) K1
    · skip
      refine LW.rd hL rfl (Wants.on rfl rfl rfl rfl rfl hb2) rfl (Rd.move (v := .int .i64 kind1) rfl) ?_
      refine LW.rd hL rfl (Wants.on rfl rfl rfl rfl rfl hb2) rfl (Rd.bin (v := .bool (decide (kind1 > 4))) rfl rfl (fun w => by kernel_rfl)) ?_
      refine LW.rd hL rfl (Wants.free rfl) rfl (Rd.pickF rfl hb2 rfl) ?_
      exact LW.sub hL (by exact ⟨rfl, rfl, rfl, rfl, (by rw [hb2]; rfl), trivial⟩) K1
  refine LW.rd hL rfl (Wants.free rfl) rfl (Rd.move (v := .bool (decide (kind1 < 1) || decide (kind1 > 4))) rfl) ?_
  obtain ⟨J1, hJ1, h1_J1, h0_J1⟩ := h
  suffices K2 : ∀ (b1 : Bool) (w1 : World), J1 b1 w1 → L 11 [(1, .pointer l1), (2, .int .i64 kind1), (3, .int .u32 n1), (8, .int .i64 0), (19, .bool b1)] w1 by
    rcases Bool.eq_false_or_eq_true (decide (kind1 < 1) || decide (kind1 > 4)) with hb3 | hb3
    · have h := h0_J1 hb3
      refine LW.skip hL rfl (Skips.on rfl rfl rfl rfl rfl hb3) rfl ?_
      refine LW.skip hL rfl (Skips.on rfl rfl rfl rfl rfl hb3) rfl ?_
      refine LW.skip hL rfl (Skips.on rfl rfl rfl rfl rfl hb3) rfl ?_
      refine LW.rd hL rfl (Wants.free rfl) rfl (Rd.pickT rfl hb3 rfl) ?_
      exact LW.sub hL (by exact ⟨rfl, rfl, rfl, rfl, rfl, trivial⟩) (K2 true w h)
    · have h := h1_J1 hb3
      refine LW.rd hL rfl (Wants.on rfl rfl rfl rfl rfl hb3) rfl (Rd.move (v := .int .u32 n1) rfl) ?_
      refine LW.call hL rfl (Wants.on rfl rfl rfl rfl rfl hb3) rfl (Cl.fn (f := 66) rfl Try.func66 (by kernel_rfl) rfl) h (fun e w2 h_ => ?_)
      clear h
      obtain ⟨r2, rfl, h⟩ := h_
      refine ⟨_, rfl, ?_⟩
      refine LW.rd hL rfl (Wants.on rfl rfl rfl rfl rfl hb3) rfl (Rd.un (v := .bool (!r2)) rfl (fun _ => by kernel_rfl)) ?_
      refine LW.rd hL rfl (Wants.free rfl) rfl (Rd.pickF rfl hb3 rfl) ?_
      exact LW.sub hL (by exact ⟨rfl, rfl, rfl, rfl, rfl, trivial⟩) (K2 (!r2) w2 h)
  intro b1 w1 h_
  have h := hJ1 b1 w1 h_; clear h_
  refine LW.nil hL rfl ?_
  refine NW.then ?_
  refine CW.cond rfl (fun hb4 => ?_) (fun hb4 => ?_)
  · replace h := h.1 hb4
    refine CW.seq ?_
    refine CW.region fun L hL => ?_
    refine LW.rd hL rfl (Wants.free rfl) rfl (Rd.assign (v := .int .i64 2) rfl) ?_
    refine LW.nil hL rfl ?_
    refine NW.then ?_
    refine CW.ret ?_
    refine RW.then ?_
    exact res1 rfl rfl ⟨2, rfl, h⟩
  · replace h := h.2 hb4
    refine CW.skip ?_
    refine NW.then ?_
    refine CW.seq ?_
    refine CW.region fun L hL => ?_
    refine LW.rd hL rfl (Wants.free rfl) rfl (Rd.move (v := .pointer l1) rfl) ?_
    refine LW.rd hL rfl (Wants.free rfl) rfl (Rd.move (v := .int .i64 kind1) rfl) ?_
    refine LW.rd hL rfl (Wants.free rfl) rfl (Rd.move (v := .int .u32 n1) rfl) ?_
    obtain ⟨a1, ha1, h⟩ := h
    refine LW.rd hL rfl (Wants.free rfl) rfl (Rd.nil (q := a1) (by rw [← ha1]; rfl)) ?_
    obtain ⟨hi1, hi2, h⟩ := h
    refine LW.rd hL rfl (Wants.free rfl) rfl (Rd.iaA (sz := 1) rfl rfl Try.underlying64 (by kernel_rfl) hi1 hi2) ?_
    obtain ⟨⟨o_w3, ho1⟩, hf1, h⟩ := h
    obtain ⟨w3, hw_w3⟩ : ∃ w3, w3 = World.setCell w1 (a1.add (Int.toNat kind1 * 1)) (.int .u32 n1) := ⟨_, rfl⟩
    replace h := h w3 hw_w3
    refine LW.eff hL rfl (Wants.free rfl) rfl (stE hw_w3 (Ef.st rfl rfl rfl (by kernel_rfl) ho1 hf1)) ?_
    refine LW.nil hL rfl ?_
    refine NW.then ?_
    refine CW.seq ?_
    refine CW.region fun L hL => ?_
    refine LW.rd hL rfl (Wants.free rfl) rfl (Rd.assign (v := .int .i64 0) rfl) ?_
    refine LW.nil hL rfl ?_
    refine NW.then ?_
    refine CW.ret ?_
    exact res1 rfl rfl ⟨0, rfl, h⟩

/- (*pomander/flow.Flow).keep -/
def V_flow_Flow_keep (f1 : Option Addr) (set1 : Int) (w : World) (R : Int → World → Prop) : Prop :=
  ∃ a1 : Addr, f1 = some a1 ∧ (∃ (t1 : Option Addr), w.cell? (a1.add 2) = some (.pointer t1) ∧ (Calls Try.prog 109 #[.pointer t1, .int .u32 set1] w fun e w1 => ∃ (r2 : Int) (r3 : Int), e = .returned (.tuple #[.int .i64 r2, .int .i64 r3]) ∧ (R r3 w1)))
set_option maxRecDepth 100000 in
theorem ok_flow_Flow_keep (f1 : Option Addr) (set1 : Int) (w : World) (R : Int → World → Prop) (h : V_flow_Flow_keep f1 set1 w R) : Calls Try.prog 77 #[.pointer f1, .int .u32 set1] w (fun e w' => ∃ (r1 : Int), e = .returned (.int .i64 r1) ∧ R r1 w') := by
  unfold V_flow_Flow_keep at h
  refine enter (N := 17) Try.func77 rfl rfl ?_
  refine CW.seq ?_
  refine CW.region fun L hL => ?_
  refine LW.rd hL rfl (Wants.free rfl) rfl (Rd.assign (v := .int .i64 0) rfl) ?_
  refine LW.nil hL rfl ?_
  refine NW.then ?_
  refine CW.seq ?_
  refine CW.region fun L hL => ?_
  refine LW.rd hL rfl (Wants.free rfl) rfl (Rd.move (v := .pointer f1) rfl) ?_
  obtain ⟨a1, ha1, h⟩ := h
  refine LW.rd hL rfl (Wants.free rfl) rfl (Rd.nil (q := a1) (by rw [← ha1]; rfl)) ?_
  refine LW.rd hL rfl (Wants.free rfl) rfl (Rd.fa (v := .pointer (some (a1.add 2))) rfl (fun _ => by kernel_rfl)) ?_
  obtain ⟨t1, hc1, h⟩ := h
  refine LW.rd hL rfl (Wants.free rfl) rfl (Rd.ld (v := .pointer t1) rfl (by kernel_rfl) (eqs hc1)) ?_
  refine LW.rd hL rfl (Wants.free rfl) rfl (Rd.move (v := .int .u32 set1) rfl) ?_
  refine LW.call hL rfl (Wants.free rfl) rfl (Cl.fn (f := 109) rfl Try.func109 (by kernel_rfl) rfl) h (fun e w1 h_ => ?_)
  clear h
  obtain ⟨r2, r3, rfl, h⟩ := h_
  refine ⟨_, rfl, ?_⟩
  refine LW.rd hL rfl (Wants.free rfl) rfl (Rd.move (v := .tuple #[.int .i64 r2, .int .i64 r3]) rfl) ?_
  refine LW.rd hL rfl (Wants.free rfl) rfl (Rd.extract (v := .int .i64 r2) rfl rfl) ?_
  refine LW.rd hL rfl (Wants.free rfl) rfl (Rd.extract (v := .int .i64 r3) rfl rfl) ?_
  refine LW.rd hL rfl (Wants.free rfl) rfl (Rd.assign (v := .int .i64 r2) rfl) ?_
  refine LW.rd hL rfl (Wants.free rfl) rfl (Rd.assign (v := .int .i64 r3) rfl) ?_
  refine LW.nil hL rfl ?_
  refine NW.then ?_
  refine CW.seq ?_
  refine CW.region fun L hL => ?_
  refine LW.rd hL rfl (Wants.free rfl) rfl (Rd.move (v := .int .i64 r3) rfl) ?_
  refine LW.rd hL rfl (Wants.free rfl) rfl (Rd.assign (v := .int .i64 r3) rfl) ?_
  refine LW.nil hL rfl ?_
  refine NW.then ?_
  refine CW.ret ?_
  exact res1 rfl rfl ⟨r3, rfl, h⟩

/- (*pomander/flow.Flow).put -/
def V_flow_Flow_put (f1 : Option Addr) (p1 : Int) (p2 : Int) (set1 : Int) (w : World) (R : World → Prop) : Prop :=
  ∀ b1 : Nat, b1 = World.size w → ∀ w1 : World, w1 = World.alloc w (.cells #[.int .i64 p1, .int .i64 p2] 56) → (∃ (t1 : Int), w1.cell? (⟨b1, 0, none⟩ : Addr) = some (.int .i64 t1) ∧ (((t1 == 10) = true → ∀ w2 : World, w2 = World.drew w1 → ∃ a1 : Addr, f1 = some a1 ∧ (∃ (t2 : Option Addr), w2.cell? (a1.add 3) = some (.pointer t2) ∧ (∃ (t3 : Int), w2.cell? (⟨b1, 1, none⟩ : Addr) = some (.int .i64 t3) ∧ (Calls Try.prog 52 #[.pointer t2, .int .i64 t3, .int .u32 set1] w2 fun e w3 => ∃ (r1 : Int), e = .returned (.int .i64 r1) ∧ (R w3))))) ∧ ((t1 == 10) = false → ∃ (t4 : Int), w1.cell? (⟨b1, 0, none⟩ : Addr) = some (.int .i64 t4) ∧ (((t4 == 12) = true → ∀ w4 : World, w4 = World.drew w1 → ∃ a2 : Addr, f1 = some a2 ∧ (∃ (t5 : Option Addr), w4.cell? (a2.add 4) = some (.pointer t5) ∧ (∃ (t6 : Int), w4.cell? (⟨b1, 1, none⟩ : Addr) = some (.int .i64 t6) ∧ (Calls Try.prog 52 #[.pointer t5, .int .i64 t6, .int .u32 set1] w4 fun e w5 => ∃ (r2 : Int), e = .returned (.int .i64 r2) ∧ (R w5))))) ∧ ((t4 == 12) = false → ((set1 == 0) = true → ∀ w6 : World, w6 = World.drew w1 → ∃ a3 : Addr, f1 = some a3 ∧ (∃ (t7 : Option Nat), w6.cell? (a3.add 5) = some (.map t7) ∧ (∃ (t8 : Int) (t9 : Int), CellsAt w6 (⟨b1, 0, none⟩ : Addr) 0 [.int .i64 t8, .int .i64 t9] ∧ (∃ w7 : World, (Builtin.delete_ #[143, 56] 0 #[.map t7, .agg #[.int .i64 t8, .int .i64 t9]]).run Try.prog w6 = .ok (.tuple #[]) w7 ∧ (R w7))))) ∧ ((set1 == 0) = false → ∀ w8 : World, w8 = World.drew w1 → ∃ a4 : Addr, f1 = some a4 ∧ (∃ (t10 : Option Nat), w8.cell? (a4.add 5) = some (.map t10) ∧ (∃ (t11 : Int) (t12 : Int), CellsAt w8 (⟨b1, 0, none⟩ : Addr) 0 [.int .i64 t11, .int .i64 t12] ∧ (∃ w9 : World, (Instr.mapUpdate 143 (.map t10) (.agg #[.int .i64 t11, .int .i64 t12]) (.int .u32 set1)).run Try.prog w8 = .ok () w9 ∧ (R w9))))))))))
set_option maxRecDepth 100000 in
theorem ok_flow_Flow_put (f1 : Option Addr) (p1 : Int) (p2 : Int) (set1 : Int) (w : World) (R : World → Prop) (h : V_flow_Flow_put f1 p1 p2 set1 w R) : Calls Try.prog 78 #[.pointer f1, .agg #[.int .i64 p1, .int .i64 p2], .int .u32 set1] w (fun e w' => e = .returned (.tuple #[]) ∧ R w') := by
  unfold V_flow_Flow_put at h
  refine enter (N := 44) Try.func78 rfl rfl ?_
  refine CW.seq ?_
  refine CW.region fun L hL => ?_
  obtain ⟨b1, hb_b1⟩ : ∃ b1, b1 = World.size w := ⟨_, rfl⟩
  obtain ⟨w1, hw_w1⟩ : ∃ w1, w1 = World.alloc w (.cells #[.int .i64 p1, .int .i64 p2] 56) := ⟨_, rfl⟩
  replace h := h b1 hb_b1 w1 hw_w1
  refine LW.val hL rfl (Wants.free rfl) rfl (boxE hb_b1 hw_w1 (Vl.box (v := .agg #[.int .i64 p1, .int .i64 p2]) rfl)) ?_
  refine LW.nil hL rfl ?_
  refine NW.then ?_
  refine CW.block ?_
  refine CW.seq ?_
  refine CW.region fun L hL => ?_
  refine LW.rd hL rfl (Wants.free rfl) rfl (Rd.fa (v := .pointer (some (⟨b1, 0, none⟩ : Addr))) rfl (fun _ => by kernel_rfl)) ?_
  obtain ⟨t1, hc1, h⟩ := h
  refine LW.rd hL rfl (Wants.free rfl) rfl (Rd.ld (v := .int .i64 t1) rfl (by kernel_rfl) (eqs hc1)) ?_
  refine LW.rd hL rfl (Wants.free rfl) rfl (Rd.bin (v := .bool (t1 == 10)) rfl rfl (fun w => by kernel_rfl)) ?_
  refine LW.rd hL rfl (Wants.free rfl) rfl (Rd.assign (v := .bool (t1 == 10)) rfl) ?_
  refine LW.nil hL rfl ?_
  refine NW.then ?_
  refine CW.cond rfl (fun hb1 => ?_) (fun hb1 => ?_)
  · replace h := h.1 hb1
    replace h := h _ rfl
    refine CW.drawn (fun w => w = World.drew w1) 7 (by kernel_rfl) fun H hH => ?_
    generalize World.drew w1 = w2 at h hH ⊢
    refine HW.pure (i := 0) hH rfl (by kernel_rfl) (Wants.free rfl) rfl (fun _ => rfl) (Rd.move (v := .pointer f1) rfl) ?_
    obtain ⟨a1, ha1, h⟩ := h
    refine HW.pure (i := 1) hH rfl (by kernel_rfl) (Wants.free rfl) rfl (fun _ => rfl) (Rd.nil (q := a1) (by rw [← ha1]; rfl)) ?_
    refine HW.pure (i := 2) hH rfl (by kernel_rfl) (Wants.free rfl) rfl (fun _ => rfl) (Rd.fa (v := .pointer (some (a1.add 3))) rfl (fun _ => by kernel_rfl)) ?_
    obtain ⟨t2, hc2, h⟩ := h
    refine HW.take (i := 3) hH rfl (by kernel_rfl) (by kernel_rfl) (Wants.free rfl) rfl (fun _ => rfl) (Rd.ld (v := .pointer t2) rfl (by kernel_rfl) (eqs hc2)) ?_
    refine HW.pure (i := 4) hH rfl (by kernel_rfl) (Wants.free rfl) rfl (fun _ => rfl) (Rd.fa (v := .pointer (some (⟨b1, 1, none⟩ : Addr))) rfl (fun _ => by kernel_rfl)) ?_
    obtain ⟨t3, hc3, h⟩ := h
    refine HW.take (i := 5) hH rfl (by kernel_rfl) (by kernel_rfl) (Wants.free rfl) rfl (fun _ => rfl) (Rd.ld (v := .int .i64 t3) rfl (by kernel_rfl) (eqs hc3)) ?_
    refine HW.pure (i := 6) hH rfl (by kernel_rfl) (Wants.free rfl) rfl (fun _ => rfl) (Rd.move (v := .int .u32 set1) rfl) ?_
    refine HW.call (i := 7) hH (by kernel_rfl) rfl (Wants.free rfl) rfl (Cl.fn (f := 52) rfl Try.func52 (by kernel_rfl) rfl) h (fun e w3 h_ => ?_)
    clear h
    obtain ⟨r1, rfl, h⟩ := h_
    refine ⟨_, rfl, (fun hc => by cases hc), ?_⟩
    refine HW.done hH (by kernel_rfl) ?_
    refine NW.block ?_
    exact res0n rfl (by exact ⟨rfl, h⟩)
  · replace h := h.2 hb1
    refine CW.seq ?_
    refine CW.region fun L hL => ?_
    refine LW.rd hL rfl (Wants.free rfl) rfl (Rd.fa (v := .pointer (some (⟨b1, 0, none⟩ : Addr))) rfl (fun _ => by kernel_rfl)) ?_
    obtain ⟨t4, hc4, h⟩ := h
    refine LW.rd hL rfl (Wants.free rfl) rfl (Rd.ld (v := .int .i64 t4) rfl (by kernel_rfl) (eqs hc4)) ?_
    refine LW.rd hL rfl (Wants.free rfl) rfl (Rd.bin (v := .bool (t4 == 12)) rfl rfl (fun w => by kernel_rfl)) ?_
    refine LW.rd hL rfl (Wants.free rfl) rfl (Rd.assign (v := .bool (t4 == 12)) rfl) ?_
    refine LW.nil hL rfl ?_
    refine NW.then ?_
    refine CW.cond rfl (fun hb2 => ?_) (fun hb2 => ?_)
    · replace h := h.1 hb2
      replace h := h _ rfl
      refine CW.drawn (fun w => w = World.drew w1) 7 (by kernel_rfl) fun H hH => ?_
      generalize World.drew w1 = w4 at h hH ⊢
      refine HW.pure (i := 0) hH rfl (by kernel_rfl) (Wants.free rfl) rfl (fun _ => rfl) (Rd.move (v := .pointer f1) rfl) ?_
      obtain ⟨a2, ha2, h⟩ := h
      refine HW.pure (i := 1) hH rfl (by kernel_rfl) (Wants.free rfl) rfl (fun _ => rfl) (Rd.nil (q := a2) (by rw [← ha2]; rfl)) ?_
      refine HW.pure (i := 2) hH rfl (by kernel_rfl) (Wants.free rfl) rfl (fun _ => rfl) (Rd.fa (v := .pointer (some (a2.add 4))) rfl (fun _ => by kernel_rfl)) ?_
      obtain ⟨t5, hc5, h⟩ := h
      refine HW.take (i := 3) hH rfl (by kernel_rfl) (by kernel_rfl) (Wants.free rfl) rfl (fun _ => rfl) (Rd.ld (v := .pointer t5) rfl (by kernel_rfl) (eqs hc5)) ?_
      refine HW.pure (i := 4) hH rfl (by kernel_rfl) (Wants.free rfl) rfl (fun _ => rfl) (Rd.fa (v := .pointer (some (⟨b1, 1, none⟩ : Addr))) rfl (fun _ => by kernel_rfl)) ?_
      obtain ⟨t6, hc6, h⟩ := h
      refine HW.take (i := 5) hH rfl (by kernel_rfl) (by kernel_rfl) (Wants.free rfl) rfl (fun _ => rfl) (Rd.ld (v := .int .i64 t6) rfl (by kernel_rfl) (eqs hc6)) ?_
      refine HW.pure (i := 6) hH rfl (by kernel_rfl) (Wants.free rfl) rfl (fun _ => rfl) (Rd.move (v := .int .u32 set1) rfl) ?_
      refine HW.call (i := 7) hH (by kernel_rfl) rfl (Wants.free rfl) rfl (Cl.fn (f := 52) rfl Try.func52 (by kernel_rfl) rfl) h (fun e w5 h_ => ?_)
      clear h
      obtain ⟨r2, rfl, h⟩ := h_
      refine ⟨_, rfl, (fun hc => by cases hc), ?_⟩
      refine HW.done hH (by kernel_rfl) ?_
      refine NW.block ?_
      exact res0n rfl (by exact ⟨rfl, h⟩)
    · replace h := h.2 hb2
      refine CW.seq ?_
      refine CW.region fun L hL => ?_
      refine LW.rd hL rfl (Wants.free rfl) rfl (Rd.move (v := .int .u32 set1) rfl) ?_
      refine LW.rd hL rfl (Wants.free rfl) rfl (Rd.bin (v := .bool (set1 == 0)) rfl rfl (fun w => by kernel_rfl)) ?_
      refine LW.rd hL rfl (Wants.free rfl) rfl (Rd.assign (v := .bool (set1 == 0)) rfl) ?_
      refine LW.nil hL rfl ?_
      refine NW.then ?_
      refine CW.cond rfl (fun hb3 => ?_) (fun hb3 => ?_)
      · replace h := h.1 hb3
        replace h := h _ rfl
        refine CW.drawn (fun w => w = World.drew w1) 5 (by kernel_rfl) fun H hH => ?_
        generalize World.drew w1 = w6 at h hH ⊢
        refine HW.pure (i := 0) hH rfl (by kernel_rfl) (Wants.free rfl) rfl (fun _ => rfl) (Rd.move (v := .pointer f1) rfl) ?_
        obtain ⟨a3, ha3, h⟩ := h
        refine HW.pure (i := 1) hH rfl (by kernel_rfl) (Wants.free rfl) rfl (fun _ => rfl) (Rd.nil (q := a3) (by rw [← ha3]; rfl)) ?_
        refine HW.pure (i := 2) hH rfl (by kernel_rfl) (Wants.free rfl) rfl (fun _ => rfl) (Rd.fa (v := .pointer (some (a3.add 5))) rfl (fun _ => by kernel_rfl)) ?_
        obtain ⟨t7, hc7, h⟩ := h
        refine HW.take (i := 3) hH rfl (by kernel_rfl) (by kernel_rfl) (Wants.free rfl) rfl (fun _ => rfl) (Rd.ld (v := .map t7) rfl (by kernel_rfl) (eqs hc7)) ?_
        obtain ⟨t8, t9, hc8, h⟩ := h
        refine HW.take (i := 4) hH rfl (by kernel_rfl) (by kernel_rfl) (Wants.free rfl) rfl (fun _ => rfl) (Rd.ldN (cs := [.int .i64 t8, .int .i64 t9]) rfl (by kernel_rfl) (by kernel_rfl) (cellsS hc8)) ?_
        obtain ⟨w7, hd1, h⟩ := h
        refine HW.val (i := 5) hH (by kernel_rfl) rfl (Wants.free rfl) rfl (Vl.builtin (v := .tuple #[]) rfl (valB hd1)) (fun hc => by cases hc) ?_
        refine HW.done hH (by kernel_rfl) ?_
        refine NW.block ?_
        exact res0n rfl (by exact ⟨rfl, h⟩)
      · replace h := h.2 hb3
        replace h := h _ rfl
        refine CW.drawn (fun w => w = World.drew w1) 6 (by kernel_rfl) fun H hH => ?_
        generalize World.drew w1 = w8 at h hH ⊢
        refine HW.pure (i := 0) hH rfl (by kernel_rfl) (Wants.free rfl) rfl (fun _ => rfl) (Rd.move (v := .pointer f1) rfl) ?_
        obtain ⟨a4, ha4, h⟩ := h
        refine HW.pure (i := 1) hH rfl (by kernel_rfl) (Wants.free rfl) rfl (fun _ => rfl) (Rd.nil (q := a4) (by rw [← ha4]; rfl)) ?_
        refine HW.pure (i := 2) hH rfl (by kernel_rfl) (Wants.free rfl) rfl (fun _ => rfl) (Rd.fa (v := .pointer (some (a4.add 5))) rfl (fun _ => by kernel_rfl)) ?_
        obtain ⟨t10, hc9, h⟩ := h
        refine HW.take (i := 3) hH rfl (by kernel_rfl) (by kernel_rfl) (Wants.free rfl) rfl (fun _ => rfl) (Rd.ld (v := .map t10) rfl (by kernel_rfl) (eqs hc9)) ?_
        obtain ⟨t11, t12, hc10, h⟩ := h
        refine HW.take (i := 4) hH rfl (by kernel_rfl) (by kernel_rfl) (Wants.free rfl) rfl (fun _ => rfl) (Rd.ldN (cs := [.int .i64 t11, .int .i64 t12]) rfl (by kernel_rfl) (by kernel_rfl) (cellsS hc10)) ?_
        refine HW.pure (i := 5) hH rfl (by kernel_rfl) (Wants.free rfl) rfl (fun _ => rfl) (Rd.move (v := .int .u32 set1) rfl) ?_
        obtain ⟨w9, hm1, h⟩ := h
        refine HW.eff (i := 6) hH (by kernel_rfl) rfl (Wants.free rfl) rfl (Ef.mapUpdate rfl rfl rfl hm1) (fun hc => by cases hc) ?_
        refine HW.done hH (by kernel_rfl) ?_
        refine NW.block ?_
        exact res0n rfl (by exact ⟨rfl, h⟩)

/- (*pomander/flow.Flow).right -/
def V_flow_Flow_right (f1 : Option Addr) (l1 : Option Addr) (l1n : Nat) (l1c : Nat) (w : World) (R : Bool → World → Prop) : Prop :=
  ∃ (I1 : Bool × Int → World → Prop) (m1 : Bool × Int → World → Nat), I1 (false, 0) w ∧ ∀ (s1 : Bool × Int) (w1 : World), I1 s1 w1 → ((decide (s1.2 < (l1n : Int))) = true → ∃ a1 : Addr, l1 = some a1 ∧ (0 : Int) ≤ s1.2 ∧ s1.2 < (l1n : Int) ∧ (∃ (t1 : Int) (t2 : Int) (t3 : Option Addr) (t3n : Nat) (t3c : Nat), CellsAt w1 (a1.add (Int.toNat s1.2 * 3)) 0 [.int .i64 t1, .int .i64 t2, .slice t3 t3n t3c] ∧ (∀ b1 : Nat, b1 = World.size w1 → ∀ w2 : World, w2 = World.alloc w1 (.cells #[.int .i64 0, .int .i64 0, .slice none 0 0] 81) → (Has w2 (⟨b1, 0, none⟩ : Addr) 3 ∧ Free w2 (⟨b1, 0, none⟩ : Addr) 3 ∧ ∀ w3 : World, w3 = setCells w2 (⟨b1, 0, none⟩ : Addr) 0 [.int .i64 t1, .int .i64 t2, .slice t3 t3n t3c] → (∃ (t4 : Int) (t5 : Int), CellsAt w3 (⟨b1, 0, none⟩ : Addr) 0 [.int .i64 t4, .int .i64 t5] ∧ (∃ J1 : Bool → World → Prop, (∀ (b2 : Bool) (w4 : World), J1 b2 w4 → (b2 = true → R false w4) ∧ (b2 = false → ∃ (t8 : Option Addr) (t8n : Nat) (t8c : Nat), w4.cell? (⟨b1, 2, none⟩ : Addr) = some (.slice t8 t8n t8c) ∧ (∃ (I2 : Bool × Int → World → Prop) (m2 : Bool × Int → World → Nat), I2 (s1.1, 0) w4 ∧ ∀ (s2 : Bool × Int) (w6 : World), I2 s2 w6 → ((decide (s2.2 < (t8n : Int))) = true → ∃ a2 : Addr, t8 = some a2 ∧ (0 : Int) ≤ s2.2 ∧ s2.2 < (t8n : Int) ∧ (∃ (t9 : Int) (t10 : Int), CellsAt w6 (a2.add (Int.toNat s2.2 * 2)) 0 [.int .i64 t9, .int .i64 t10] ∧ (∀ b3 : Nat, b3 = World.size w6 → ∀ w7 : World, w7 = World.alloc w6 (.cells #[.int .i64 0, .int .i64 0] 56) → (Has w7 (⟨b3, 0, none⟩ : Addr) 2 ∧ Free w7 (⟨b3, 0, none⟩ : Addr) 2 ∧ ∀ w8 : World, w8 = setCells w7 (⟨b3, 0, none⟩ : Addr) 0 [.int .i64 t9, .int .i64 t10] → (∃ (t11 : Int) (t12 : Int), CellsAt w8 (⟨b3, 0, none⟩ : Addr) 0 [.int .i64 t11, .int .i64 t12] ∧ (Calls Try.prog 74 #[.pointer f1, .agg #[.int .i64 t11, .int .i64 t12]] w8 fun e w9 => ∃ (r3 : Bool), e = .returned (.bool r3) ∧ (((!r3) = true → R false w9) ∧ ((!r3) = false → (I2 (s2.1, IntKind.wrap .i64 (s2.2 + 1)) w9 ∧ m2 (s2.1, IntKind.wrap .i64 (s2.2 + 1)) w9 < m2 s2 w6))))))))) ∧ ((decide (s2.2 < (t8n : Int))) = false → (I1 (s2.1, IntKind.wrap .i64 (s1.2 + 1)) w6 ∧ m1 (s2.1, IntKind.wrap .i64 (s1.2 + 1)) w6 < m1 s1 w1))))) ∧ (((!((t4 == 0) && (t5 == 0))) = true → ∃ (t6 : Int) (t7 : Int), CellsAt w3 (⟨b1, 0, none⟩ : Addr) 0 [.int .i64 t6, .int .i64 t7] ∧ (Calls Try.prog 74 #[.pointer f1, .agg #[.int .i64 t6, .int .i64 t7]] w3 fun e w5 => ∃ (r2 : Bool), e = .returned (.bool r2) ∧ (J1 (!r2) w5))) ∧ ((!((t4 == 0) && (t5 == 0))) = false → J1 false w3)))))))) ∧ ((decide (s1.2 < (l1n : Int))) = false → R true w1)
set_option maxRecDepth 100000 in
theorem ok_flow_Flow_right (f1 : Option Addr) (l1 : Option Addr) (l1n : Nat) (l1c : Nat) (w : World) (R : Bool → World → Prop) (h : V_flow_Flow_right f1 l1 l1n l1c w R) : Calls Try.prog 81 #[.pointer f1, .slice l1 l1n l1c] w (fun e w' => ∃ (r1 : Bool), e = .returned (.bool r1) ∧ R r1 w') := by
  unfold V_flow_Flow_right at h
  refine enter (N := 39) Try.func81 rfl rfl ?_
  refine CW.seq ?_
  refine CW.region fun L hL => ?_
  refine LW.rd hL rfl (Wants.free rfl) rfl (Rd.assign (v := .bool false) rfl) ?_
  refine LW.nil hL rfl ?_
  refine NW.then ?_
  refine CW.seq ?_
  refine CW.seq ?_
  refine CW.region fun L hL => ?_
  refine LW.rd hL rfl (Wants.free rfl) rfl (Rd.move (v := .slice l1 l1n l1c) rfl) ?_
  refine LW.rd hL rfl (Wants.free rfl) rfl (Rd.builtin (v := .int .i64 (l1n : Int)) rfl (fun _ _ => by kernel_rfl)) ?_
  refine LW.rd hL rfl (Wants.free rfl) rfl (Rd.move (v := .int .i64 0) rfl) ?_
  refine LW.nil hL rfl ?_
  refine NW.then ?_
  refine CW.block ?_
  obtain ⟨I1, m1, hI1, h⟩ := h
  refine CW.loop (S := Bool × Int) (fun s1 => [(0, .pointer f1), (9, .slice l1 l1n l1c), (10, .int .i64 (l1n : Int)), (4, .bool s1.1), (11, .int .i64 s1.2)]) I1 m1 (false, 0) (by exact ⟨rfl, rfl, rfl, rfl, rfl, trivial⟩) hI1 (fun s1 w1 hI1 => ?_)
  replace h := h s1 w1 hI1
  refine CW.seq ?_
  refine CW.region fun L hL => ?_
  refine LW.rd hL rfl (Wants.free rfl) rfl (Rd.bin (v := .bool (decide (s1.2 < (l1n : Int)))) rfl rfl (fun w => by kernel_rfl)) ?_
  refine LW.nil hL rfl ?_
  refine NW.then ?_
  refine CW.seq ?_
  refine CW.cond rfl (fun hb1 => ?_) (fun hb1 => ?_)
  · replace h := h.1 hb1
    refine CW.skip ?_
    refine NW.then ?_
    refine CW.seq ?_
    refine CW.block ?_
    refine CW.seq ?_
    refine CW.region fun L hL => ?_
    obtain ⟨a1, he1, hi1, hi2, h⟩ := h
    refine LW.rd hL rfl (Wants.free rfl) rfl (Rd.iaS (q := a1) (sz := 3) (by rw [← he1]; rfl) rfl Try.underlying25 (by kernel_rfl) hi1 hi2) ?_
    obtain ⟨t1, t2, t3, t3n, t3c, hc1, h⟩ := h
    refine LW.rd hL rfl (Wants.free rfl) rfl (Rd.ldN (cs := [.int .i64 t1, .int .i64 t2, .slice t3 t3n t3c]) rfl (by kernel_rfl) (by kernel_rfl) (cellsS hc1)) ?_
    obtain ⟨b1, hb_b1⟩ : ∃ b1, b1 = World.size w1 := ⟨_, rfl⟩
    obtain ⟨w2, hw_w2⟩ : ∃ w2, w2 = World.alloc w1 (.cells #[.int .i64 0, .int .i64 0, .slice none 0 0] 81) := ⟨_, rfl⟩
    replace h := h b1 hb_b1 w2 hw_w2
    refine LW.val hL rfl (Wants.free rfl) rfl (boxE hb_b1 hw_w2 (Vl.alloc (z := .agg #[.int .i64 0, .int .i64 0, .slice none 0 0]) (by kernel_rfl))) ?_
    obtain ⟨ho1, hf1, h⟩ := h
    obtain ⟨w3, hw_w3⟩ : ∃ w3, w3 = setCells w2 (⟨b1, 0, none⟩ : Addr) 0 [.int .i64 t1, .int .i64 t2, .slice t3 t3n t3c] := ⟨_, rfl⟩
    replace h := h w3 hw_w3
    refine LW.eff hL rfl (Wants.free rfl) rfl (stNE hw_w3 (Ef.stN (cs := [.int .i64 t1, .int .i64 t2, .slice t3 t3n t3c]) rfl rfl (by kernel_rfl) (List.forall_mem_cons.2 ⟨rfl, (List.forall_mem_cons.2 ⟨rfl, (List.forall_mem_cons.2 ⟨rfl, (List.forall_mem_nil _)⟩)⟩)⟩) ho1 hf1)) ?_
    refine LW.nil hL rfl ?_
    refine NW.then ?_
    refine CW.seq ?_
    refine CW.seq ?_
    refine CW.region fun L hL => ?_
    refine LW.rd hL rfl (Wants.free rfl) rfl (Rd.fa (v := .pointer (some (⟨b1, 0, none⟩ : Addr))) rfl (fun _ => by kernel_rfl)) ?_
    obtain ⟨t4, t5, hc2, h⟩ := h
    refine LW.rd hL rfl (Wants.free rfl) rfl (Rd.ldN (cs := [.int .i64 t4, .int .i64 t5]) rfl (by kernel_rfl) (by kernel_rfl) (cellsS hc2)) ?_
    refine LW.rd hL rfl (Wants.free rfl) rfl (Rd.build (v := .agg #[.int .i64 0, .int .i64 0]) rfl (fun _ => by kernel_rfl)) ?_
    refine LW.rd hL rfl (Wants.free rfl) rfl (Rd.bin (v := .bool (!((t4 == 0) && (t5 == 0)))) rfl rfl (fun w => neS_56 _ _ _ _ w)) ?_
    refine LW.rd hL rfl (Wants.free rfl) rfl (Rd.move (v := .bool (!((t4 == 0) && (t5 == 0)))) rfl) ?_
    obtain ⟨J1, hJ1, h1_J1, h0_J1⟩ := h
    suffices K1 : ∀ (b2 : Bool) (w4 : World), J1 b2 w4 → L 11 [(0, .pointer f1), (4, .bool s1.1), (6, .pointer (some (⟨b1, 0, none⟩ : Addr))), (9, .slice l1 l1n l1c), (10, .int .i64 (l1n : Int)), (11, .int .i64 s1.2), (25, .bool b2)] w4 by
      rcases Bool.eq_false_or_eq_true (!((t4 == 0) && (t5 == 0))) with hb2 | hb2
      · have h := h1_J1 hb2
        refine LW.rd hL rfl (Wants.on rfl rfl rfl rfl rfl hb2) rfl (Rd.move (v := .pointer f1) rfl) ?_
        refine LW.rd hL rfl (Wants.on rfl rfl rfl rfl rfl hb2) rfl (Rd.fa (v := .pointer (some (⟨b1, 0, none⟩ : Addr))) rfl (fun _ => by kernel_rfl)) ?_
        obtain ⟨t6, t7, hc3, h⟩ := h
        refine LW.rd hL rfl (Wants.on rfl rfl rfl rfl rfl hb2) rfl (Rd.ldN (cs := [.int .i64 t6, .int .i64 t7]) rfl (by kernel_rfl) (by kernel_rfl) (cellsS hc3)) ?_
        refine LW.call hL rfl (Wants.on rfl rfl rfl rfl rfl hb2) rfl (Cl.fn (f := 74) rfl Try.func74 (by kernel_rfl) rfl) h (fun e w5 h_ => ?_)
        clear h
        obtain ⟨r2, rfl, h⟩ := h_
        refine ⟨_, rfl, ?_⟩
        refine LW.rd hL rfl (Wants.on rfl rfl rfl rfl rfl hb2) rfl (Rd.un (v := .bool (!r2)) rfl (fun _ => by kernel_rfl)) ?_
        refine LW.rd hL rfl (Wants.free rfl) rfl (Rd.pickT rfl hb2 rfl) ?_
        exact LW.sub hL (by exact ⟨rfl, rfl, rfl, rfl, rfl, rfl, rfl, trivial⟩) (K1 (!r2) w5 h)
      · have h := h0_J1 hb2
        refine LW.skip hL rfl (Skips.on rfl rfl rfl rfl rfl hb2) rfl ?_
        refine LW.skip hL rfl (Skips.on rfl rfl rfl rfl rfl hb2) rfl ?_
        refine LW.skip hL rfl (Skips.on rfl rfl rfl rfl rfl hb2) rfl ?_
        refine LW.skip hL rfl (Skips.on rfl rfl rfl rfl rfl hb2) rfl ?_
        refine LW.skip hL rfl (Skips.on rfl rfl rfl rfl rfl hb2) rfl ?_
        refine LW.rd hL rfl (Wants.free rfl) rfl (Rd.pickF rfl hb2 rfl) ?_
        exact LW.sub hL (by exact ⟨rfl, rfl, rfl, rfl, rfl, rfl, rfl, trivial⟩) (K1 false w3 h)
    intro b2 w4 h_
    have h := hJ1 b2 w4 h_; clear h_
    refine LW.nil hL rfl ?_
    refine NW.then ?_
    refine CW.cond rfl (fun hb3 => ?_) (fun hb3 => ?_)
    · replace h := h.1 hb3
      refine CW.seq ?_
      refine CW.region fun L hL => ?_
      refine LW.rd hL rfl (Wants.free rfl) rfl (Rd.assign (v := .bool false) rfl) ?_
      refine LW.nil hL rfl ?_
      refine NW.then ?_
      refine CW.ret ?_
      refine RW.then ?_
      refine RW.block ?_
      refine RW.then ?_
      refine RW.then ?_
      refine RW.block ?_
      refine RW.then ?_
      exact res1 rfl rfl ⟨false, rfl, h⟩
    · replace h := h.2 hb3
      refine CW.skip ?_
      refine NW.then ?_
      refine CW.seq ?_
      refine CW.region fun L hL => ?_
      refine LW.rd hL rfl (Wants.free rfl) rfl (Rd.fa (v := .pointer (some (⟨b1, 2, none⟩ : Addr))) rfl (fun _ => by kernel_rfl)) ?_
      obtain ⟨t8, t8n, t8c, hc4, h⟩ := h
      refine LW.rd hL rfl (Wants.free rfl) rfl (Rd.ld (v := .slice t8 t8n t8c) rfl (by kernel_rfl) (eqs hc4)) ?_
      refine LW.rd hL rfl (Wants.free rfl) rfl (Rd.builtin (v := .int .i64 (t8n : Int)) rfl (fun _ _ => by kernel_rfl)) ?_
      refine LW.rd hL rfl (Wants.free rfl) rfl (Rd.move (v := .int .i64 0) rfl) ?_
      refine LW.nil hL rfl ?_
      refine NW.then ?_
      refine CW.block ?_
      obtain ⟨I2, m2, hI2, h⟩ := h
      refine CW.loop (S := Bool × Int) (fun s2 => [(0, .pointer f1), (9, .slice l1 l1n l1c), (10, .int .i64 (l1n : Int)), (11, .int .i64 s1.2), (27, .slice t8 t8n t8c), (28, .int .i64 (t8n : Int)), (4, .bool s2.1), (29, .int .i64 s2.2)]) I2 m2 (s1.1, 0) (by exact ⟨rfl, rfl, rfl, rfl, rfl, rfl, rfl, rfl, trivial⟩) hI2 (fun s2 w6 hI2 => ?_)
      replace h := h s2 w6 hI2
      refine CW.seq ?_
      refine CW.region fun L hL => ?_
      refine LW.rd hL rfl (Wants.free rfl) rfl (Rd.bin (v := .bool (decide (s2.2 < (t8n : Int)))) rfl rfl (fun w => by kernel_rfl)) ?_
      refine LW.nil hL rfl ?_
      refine NW.then ?_
      refine CW.seq ?_
      refine CW.cond rfl (fun hb4 => ?_) (fun hb4 => ?_)
      · replace h := h.1 hb4
        refine CW.skip ?_
        refine NW.then ?_
        refine CW.seq ?_
        refine CW.block ?_
        refine CW.seq ?_
        refine CW.region fun L hL => ?_
        obtain ⟨a2, he2, hi3, hi4, h⟩ := h
        refine LW.rd hL rfl (Wants.free rfl) rfl (Rd.iaS (q := a2) (sz := 2) (by rw [← he2]; rfl) rfl Try.underlying47 (by kernel_rfl) hi3 hi4) ?_
        obtain ⟨t9, t10, hc5, h⟩ := h
        refine LW.rd hL rfl (Wants.free rfl) rfl (Rd.ldN (cs := [.int .i64 t9, .int .i64 t10]) rfl (by kernel_rfl) (by kernel_rfl) (cellsS hc5)) ?_
        obtain ⟨b3, hb_b3⟩ : ∃ b3, b3 = World.size w6 := ⟨_, rfl⟩
        obtain ⟨w7, hw_w7⟩ : ∃ w7, w7 = World.alloc w6 (.cells #[.int .i64 0, .int .i64 0] 56) := ⟨_, rfl⟩
        replace h := h b3 hb_b3 w7 hw_w7
        refine LW.val hL rfl (Wants.free rfl) rfl (boxE hb_b3 hw_w7 (Vl.alloc (z := .agg #[.int .i64 0, .int .i64 0]) (by kernel_rfl))) ?_
        obtain ⟨ho2, hf2, h⟩ := h
        obtain ⟨w8, hw_w8⟩ : ∃ w8, w8 = setCells w7 (⟨b3, 0, none⟩ : Addr) 0 [.int .i64 t9, .int .i64 t10] := ⟨_, rfl⟩
        replace h := h w8 hw_w8
        refine LW.eff hL rfl (Wants.free rfl) rfl (stNE hw_w8 (Ef.stN (cs := [.int .i64 t9, .int .i64 t10]) rfl rfl (by kernel_rfl) (List.forall_mem_cons.2 ⟨rfl, (List.forall_mem_cons.2 ⟨rfl, (List.forall_mem_nil _)⟩)⟩) ho2 hf2)) ?_
        refine LW.nil hL rfl ?_
        refine NW.then ?_
        refine CW.seq ?_
        refine CW.region fun L hL => ?_
        refine LW.rd hL rfl (Wants.free rfl) rfl (Rd.move (v := .pointer f1) rfl) ?_
        obtain ⟨t11, t12, hc6, h⟩ := h
        refine LW.rd hL rfl (Wants.free rfl) rfl (Rd.ldN (cs := [.int .i64 t11, .int .i64 t12]) rfl (by kernel_rfl) (by kernel_rfl) (cellsS hc6)) ?_
        refine LW.call hL rfl (Wants.free rfl) rfl (Cl.fn (f := 74) rfl Try.func74 (by kernel_rfl) rfl) h (fun e w9 h_ => ?_)
        clear h
        obtain ⟨r3, rfl, h⟩ := h_
        refine ⟨_, rfl, ?_⟩
        refine LW.rd hL rfl (Wants.free rfl) rfl (Rd.un (v := .bool (!r3)) rfl (fun _ => by kernel_rfl)) ?_
        refine LW.nil hL rfl ?_
        refine NW.then ?_
        refine CW.cond rfl (fun hb5 => ?_) (fun hb5 => ?_)
        · replace h := h.1 hb5
          refine CW.seq ?_
          refine CW.region fun L hL => ?_
          refine LW.rd hL rfl (Wants.free rfl) rfl (Rd.assign (v := .bool false) rfl) ?_
          refine LW.nil hL rfl ?_
          refine NW.then ?_
          refine CW.ret ?_
          refine RW.block ?_
          refine RW.then ?_
          refine RW.then ?_
          refine RW.block ?_
          refine RW.block ?_
          refine RW.then ?_
          refine RW.then ?_
          refine RW.block ?_
          refine RW.then ?_
          exact res1 rfl rfl ⟨false, rfl, h⟩
        · replace h := h.2 hb5
          refine CW.skip ?_
          refine NW.block ?_
          refine NW.then ?_
          refine CW.region fun L hL => ?_
          refine LW.rd hL rfl (Wants.free rfl) rfl (Rd.bin (v := .int .i64 (IntKind.wrap .i64 (s2.2 + 1))) rfl rfl (fun w => by kernel_rfl)) ?_
          refine LW.rd hL rfl (Wants.free rfl) rfl (Rd.move (v := .int .i64 (IntKind.wrap .i64 (s2.2 + 1))) rfl) ?_
          refine LW.nil hL rfl ?_
          exact NW.loop (S := Bool × Int) (Ek := fun s2 => [(0, .pointer f1), (9, .slice l1 l1n l1c), (10, .int .i64 (l1n : Int)), (11, .int .i64 s1.2), (27, .slice t8 t8n t8c), (28, .int .i64 (t8n : Int)), (4, .bool s2.1), (29, .int .i64 s2.2)]) (s2.1, IntKind.wrap .i64 (s2.2 + 1)) (by exact ⟨rfl, rfl, rfl, rfl, rfl, rfl, rfl, rfl, trivial⟩) h
      · replace h := h.2 hb4
        refine CW.exit ?_
        refine XW.then ?_
        refine XW.then ?_
        refine XW.hit ?_
        refine NW.block ?_
        refine NW.then ?_
        refine CW.region fun L hL => ?_
        refine LW.rd hL rfl (Wants.free rfl) rfl (Rd.bin (v := .int .i64 (IntKind.wrap .i64 (s1.2 + 1))) rfl rfl (fun w => by kernel_rfl)) ?_
        refine LW.rd hL rfl (Wants.free rfl) rfl (Rd.move (v := .int .i64 (IntKind.wrap .i64 (s1.2 + 1))) rfl) ?_
        refine LW.nil hL rfl ?_
        exact NW.loop (S := Bool × Int) (Ek := fun s1 => [(0, .pointer f1), (9, .slice l1 l1n l1c), (10, .int .i64 (l1n : Int)), (4, .bool s1.1), (11, .int .i64 s1.2)]) (s2.1, IntKind.wrap .i64 (s1.2 + 1)) (by exact ⟨rfl, rfl, rfl, rfl, rfl, trivial⟩) h
  · replace h := h.2 hb1
    refine CW.exit ?_
    refine XW.then ?_
    refine XW.then ?_
    refine XW.hit ?_
    refine NW.then ?_
    refine CW.seq ?_
    refine CW.region fun L hL => ?_
    refine LW.rd hL rfl (Wants.free rfl) rfl (Rd.assign (v := .bool true) rfl) ?_
    refine LW.nil hL rfl ?_
    refine NW.then ?_
    refine CW.ret ?_
    exact res1 rfl rfl ⟨true, rfl, h⟩

/- (*pomander/flow.Flow).together -/
def V_flow_Flow_together (f1 : Option Addr) (l1 : Option Addr) (l1n : Nat) (l1c : Nat) (w : World) (R : Int → World → Prop) : Prop :=
  ∃ (I1 : Int × Int → World → Prop) (m1 : Int × Int → World → Nat), I1 (0, 0) w ∧ ∀ (s1 : Int × Int) (w1 : World), I1 s1 w1 → ((decide (s1.2 < (l1n : Int))) = true → ∃ a1 : Addr, l1 = some a1 ∧ (0 : Int) ≤ s1.2 ∧ s1.2 < (l1n : Int) ∧ (∃ (t1 : Int) (t2 : Int), CellsAt w1 (a1.add (Int.toNat s1.2 * 2)) 0 [.int .i64 t1, .int .i64 t2] ∧ (∀ b1 : Nat, b1 = World.size w1 → ∀ w2 : World, w2 = World.alloc w1 (.cells #[.int .i64 0, .int .i64 0] 56) → (Has w2 (⟨b1, 0, none⟩ : Addr) 2 ∧ Free w2 (⟨b1, 0, none⟩ : Addr) 2 ∧ ∀ w3 : World, w3 = setCells w2 (⟨b1, 0, none⟩ : Addr) 0 [.int .i64 t1, .int .i64 t2] → (∃ (t3 : Int) (t4 : Int), CellsAt w3 (⟨b1, 0, none⟩ : Addr) 0 [.int .i64 t3, .int .i64 t4] ∧ (Calls Try.prog 75 #[.pointer f1, .agg #[.int .i64 t3, .int .i64 t4]] w3 fun e w4 => ∃ (r2 : Int), e = .returned (.int .u32 r2) ∧ ((I1 (bits .or .u32 s1.1 r2, IntKind.wrap .i64 (s1.2 + 1)) w4 ∧ m1 (bits .or .u32 s1.1 r2, IntKind.wrap .i64 (s1.2 + 1)) w4 < m1 s1 w1)))))))) ∧ ((decide (s1.2 < (l1n : Int))) = false → R s1.1 w1)
set_option maxRecDepth 100000 in
theorem ok_flow_Flow_together (f1 : Option Addr) (l1 : Option Addr) (l1n : Nat) (l1c : Nat) (w : World) (R : Int → World → Prop) (h : V_flow_Flow_together f1 l1 l1n l1c w R) : Calls Try.prog 82 #[.pointer f1, .slice l1 l1n l1c] w (fun e w' => ∃ (r1 : Int), e = .returned (.int .u32 r1) ∧ R r1 w') := by
  unfold V_flow_Flow_together at h
  refine enter (N := 21) Try.func82 rfl rfl ?_
  refine CW.seq ?_
  refine CW.region fun L hL => ?_
  refine LW.rd hL rfl (Wants.free rfl) rfl (Rd.assign (v := .int .u32 0) rfl) ?_
  refine LW.nil hL rfl ?_
  refine NW.then ?_
  refine CW.seq ?_
  refine CW.region fun L hL => ?_
  refine LW.rd hL rfl (Wants.free rfl) rfl (Rd.assign (v := .int .u32 0) rfl) ?_
  refine LW.nil hL rfl ?_
  refine NW.then ?_
  refine CW.seq ?_
  refine CW.seq ?_
  refine CW.region fun L hL => ?_
  refine LW.rd hL rfl (Wants.free rfl) rfl (Rd.move (v := .slice l1 l1n l1c) rfl) ?_
  refine LW.rd hL rfl (Wants.free rfl) rfl (Rd.builtin (v := .int .i64 (l1n : Int)) rfl (fun _ _ => by kernel_rfl)) ?_
  refine LW.rd hL rfl (Wants.free rfl) rfl (Rd.move (v := .int .i64 0) rfl) ?_
  refine LW.nil hL rfl ?_
  refine NW.then ?_
  refine CW.block ?_
  obtain ⟨I1, m1, hI1, h⟩ := h
  refine CW.loop (S := Int × Int) (fun s1 => [(0, .pointer f1), (4, .int .u32 0), (8, .slice l1 l1n l1c), (9, .int .i64 (l1n : Int)), (5, .int .u32 s1.1), (10, .int .i64 s1.2)]) I1 m1 (0, 0) (by exact ⟨rfl, rfl, rfl, rfl, rfl, rfl, trivial⟩) hI1 (fun s1 w1 hI1 => ?_)
  replace h := h s1 w1 hI1
  refine CW.seq ?_
  refine CW.region fun L hL => ?_
  refine LW.rd hL rfl (Wants.free rfl) rfl (Rd.bin (v := .bool (decide (s1.2 < (l1n : Int)))) rfl rfl (fun w => by kernel_rfl)) ?_
  refine LW.nil hL rfl ?_
  refine NW.then ?_
  refine CW.seq ?_
  refine CW.cond rfl (fun hb1 => ?_) (fun hb1 => ?_)
  · replace h := h.1 hb1
    refine CW.skip ?_
    refine NW.then ?_
    refine CW.seq ?_
    refine CW.block ?_
    refine CW.seq ?_
    refine CW.region fun L hL => ?_
    obtain ⟨a1, he1, hi1, hi2, h⟩ := h
    refine LW.rd hL rfl (Wants.free rfl) rfl (Rd.iaS (q := a1) (sz := 2) (by rw [← he1]; rfl) rfl Try.underlying47 (by kernel_rfl) hi1 hi2) ?_
    obtain ⟨t1, t2, hc1, h⟩ := h
    refine LW.rd hL rfl (Wants.free rfl) rfl (Rd.ldN (cs := [.int .i64 t1, .int .i64 t2]) rfl (by kernel_rfl) (by kernel_rfl) (cellsS hc1)) ?_
    obtain ⟨b1, hb_b1⟩ : ∃ b1, b1 = World.size w1 := ⟨_, rfl⟩
    obtain ⟨w2, hw_w2⟩ : ∃ w2, w2 = World.alloc w1 (.cells #[.int .i64 0, .int .i64 0] 56) := ⟨_, rfl⟩
    replace h := h b1 hb_b1 w2 hw_w2
    refine LW.val hL rfl (Wants.free rfl) rfl (boxE hb_b1 hw_w2 (Vl.alloc (z := .agg #[.int .i64 0, .int .i64 0]) (by kernel_rfl))) ?_
    obtain ⟨ho1, hf1, h⟩ := h
    obtain ⟨w3, hw_w3⟩ : ∃ w3, w3 = setCells w2 (⟨b1, 0, none⟩ : Addr) 0 [.int .i64 t1, .int .i64 t2] := ⟨_, rfl⟩
    replace h := h w3 hw_w3
    refine LW.eff hL rfl (Wants.free rfl) rfl (stNE hw_w3 (Ef.stN (cs := [.int .i64 t1, .int .i64 t2]) rfl rfl (by kernel_rfl) (List.forall_mem_cons.2 ⟨rfl, (List.forall_mem_cons.2 ⟨rfl, (List.forall_mem_nil _)⟩)⟩) ho1 hf1)) ?_
    refine LW.nil hL rfl ?_
    refine NW.then ?_
    refine CW.region fun L hL => ?_
    refine LW.rd hL rfl (Wants.free rfl) rfl (Rd.move (v := .int .u32 s1.1) rfl) ?_
    refine LW.rd hL rfl (Wants.free rfl) rfl (Rd.move (v := .pointer f1) rfl) ?_
    obtain ⟨t3, t4, hc2, h⟩ := h
    refine LW.rd hL rfl (Wants.free rfl) rfl (Rd.ldN (cs := [.int .i64 t3, .int .i64 t4]) rfl (by kernel_rfl) (by kernel_rfl) (cellsS hc2)) ?_
    refine LW.call hL rfl (Wants.free rfl) rfl (Cl.fn (f := 75) rfl Try.func75 (by kernel_rfl) rfl) h (fun e w4 h_ => ?_)
    clear h
    obtain ⟨r2, rfl, h⟩ := h_
    refine ⟨_, rfl, ?_⟩
    refine LW.rd hL rfl (Wants.free rfl) rfl (Rd.bin (v := .int .u32 (bits .or .u32 s1.1 r2)) rfl rfl (fun w => by kernel_rfl)) ?_
    refine LW.rd hL rfl (Wants.free rfl) rfl (Rd.assign (v := .int .u32 (bits .or .u32 s1.1 r2)) rfl) ?_
    refine LW.nil hL rfl ?_
    refine NW.block ?_
    refine NW.then ?_
    refine CW.region fun L hL => ?_
    refine LW.rd hL rfl (Wants.free rfl) rfl (Rd.bin (v := .int .i64 (IntKind.wrap .i64 (s1.2 + 1))) rfl rfl (fun w => by kernel_rfl)) ?_
    refine LW.rd hL rfl (Wants.free rfl) rfl (Rd.move (v := .int .i64 (IntKind.wrap .i64 (s1.2 + 1))) rfl) ?_
    refine LW.nil hL rfl ?_
    exact NW.loop (S := Int × Int) (Ek := fun s1 => [(0, .pointer f1), (4, .int .u32 0), (8, .slice l1 l1n l1c), (9, .int .i64 (l1n : Int)), (5, .int .u32 s1.1), (10, .int .i64 s1.2)]) (bits .or .u32 s1.1 r2, IntKind.wrap .i64 (s1.2 + 1)) (by exact ⟨rfl, rfl, rfl, rfl, rfl, rfl, trivial⟩) h
  · replace h := h.2 hb1
    refine CW.exit ?_
    refine XW.then ?_
    refine XW.then ?_
    refine XW.hit ?_
    refine NW.then ?_
    refine CW.seq ?_
    refine CW.region fun L hL => ?_
    refine LW.rd hL rfl (Wants.free rfl) rfl (Rd.move (v := .int .u32 s1.1) rfl) ?_
    refine LW.rd hL rfl (Wants.free rfl) rfl (Rd.assign (v := .int .u32 s1.1) rfl) ?_
    refine LW.nil hL rfl ?_
    refine NW.then ?_
    refine CW.ret ?_
    exact res1 rfl rfl ⟨s1.1, rfl, h⟩

end Go.Proofs.Ytkfncibmfcdokaa
