import Derived.Test.YtkfncibmfcdokaaProg
import Derived.Test.YtkfncibmfcdokaaXEq
set_option linter.unusedVariables false
set_option linter.unusedSimpArgs false
namespace Go.Proofs.Ytkfncibmfcdokaa
open Go.X

/- pomander/pomanderlaw13.PolicyNil -/
def V_pomanderlaw13_PolicyNil (set1 : Int) (l1 : Option Addr) (l1n : Nat) (l1c : Nat) (w : World) (R : Bool → World → Prop) : Prop :=
  Calls Try.prog 17 #[.slice none 0 0, .slice l1 l1n l1c] w fun e w1 => ∃ (r2 : Bool), e = .returned (.bool r2) ∧ ((r2 = true → Calls Try.prog 18 #[] w1 fun e w2 => ∃ (r3 : Bool), e = .returned (.bool r3) ∧ (R r3 w2)) ∧ (r2 = false → ∀ b1 : Nat, b1 = World.size w1 → ∀ w3 : World, w3 = World.alloc w1 (.cells #[.int .u32 0, .int .u32 0, .int .u32 0, .int .u32 0, .int .u32 0, .int .u32 0, .int .u32 0, .int .u32 0, .int .u32 0, .int .u32 0, .int .u32 0, .bool false] 85) → (Calls Try.prog 25 #[.agg #[.int .i64 1, .int .i64 1], .int .i64 1] w3 fun e w4 => ∃ (r4 : Option Addr) (r5 : Int), e = .returned (.tuple #[.pointer r4, .int .i64 r5]) ∧ (Calls Try.prog 21 #[.pointer none, .pointer r4, .slice l1 l1n l1c] w4 fun e w5 => ∃ (r6 : Bool) (r7 : Int), e = .returned (.tuple #[.bool r6, .int .i64 r7]) ∧ (Calls Try.prog 39 #[.pointer (some (⟨b1, 0, none⟩ : Addr)), .pointer r4, .slice l1 l1n l1c] w5 fun e w6 => ∃ (r8 : Option Addr) (r8n : Nat) (r8c : Nat) (r9 : Int), e = .returned (.tuple #[.slice r8 r8n r8c, .int .i64 r9]) ∧ (Calls Try.prog 20 #[] w6 fun e w7 => ∃ (r10 : Option Addr), e = .returned (.pointer r10) ∧ (Calls Try.prog 21 #[.pointer r10, .pointer none, .slice l1 l1n l1c] w7 fun e w8 => ∃ (r11 : Bool) (r12 : Int), e = .returned (.tuple #[.bool r11, .int .i64 r12]) ∧ (Calls Try.prog 20 #[] w8 fun e w9 => ∃ (r13 : Option Addr), e = .returned (.pointer r13) ∧ (Calls Try.prog 39 #[.pointer r13, .pointer none, .slice l1 l1n l1c] w9 fun e w10 => ∃ (r14 : Option Addr) (r14n : Nat) (r14c : Nat) (r15 : Int), e = .returned (.tuple #[.slice r14 r14n r14c, .int .i64 r15]) ∧ (Calls Try.prog 33 #[.pointer none, .int .i64 1, .int .u32 set1] w10 fun e w11 => ∃ (r16 : Int), e = .returned (.int .i64 r16) ∧ (∃ J1 : Bool → World → Prop, (∀ (b2 : Bool) (w12 : World), J1 b2 w12 → ∃ J2 : Bool → World → Prop, (∀ (b3 : Bool) (w14 : World), J2 b3 w14 → ∃ J3 : Bool → World → Prop, (∀ (b4 : Bool) (w16 : World), J3 b4 w16 → ∃ J4 : Bool → World → Prop, (∀ (b5 : Bool) (w18 : World), J4 b5 w18 → ∃ J5 : Bool → World → Prop, (∀ (b6 : Bool) (w20 : World), J5 b6 w20 → R b6 w20) ∧ ((b5 = true → Calls Try.prog 18 #[] w18 fun e w21 => ∃ (r31 : Bool), e = .returned (.bool r31) ∧ (J5 r31 w21)) ∧ (b5 = false → J5 false w18))) ∧ ((b4 = true → Calls Try.prog 32 #[.pointer none] w16 fun e w19 => ∃ (r30 : Option Addr), e = .returned (.pointer r30) ∧ (J4 (Option.isNone r30) w19)) ∧ (b4 = false → J4 false w16))) ∧ ((((((b3 && r7 == 1) && r9 == 1) && r12 == 1) && r15 == 1) = true → Calls Try.prog 35 #[.pointer (some (⟨b1, 0, none⟩ : Addr))] w14 fun e w17 => ∃ (r19 : Int) (r20 : Int) (r21 : Int) (r22 : Int) (r23 : Int) (r24 : Int) (r25 : Int) (r26 : Int) (r27 : Int) (r28 : Int) (r29 : Int), e = .returned (.agg #[.int .u32 r19, .int .u32 r20, .int .u32 r21, .int .u32 r22, .int .u32 r23, .int .u32 r24, .int .u32 r25, .int .u32 r26, .int .u32 r27, .int .u32 r28, .int .u32 r29]) ∧ (∃ (t1 : Bool), (∀ w : World, ((do eqGuard .eql 66 (.tmp 87) (.tmp 88) (.agg #[.int .u32 r19, .int .u32 r20, .int .u32 r21, .int .u32 r22, .int .u32 r23, .int .u32 r24, .int .u32 r25, .int .u32 r26, .int .u32 r27, .int .u32 r28, .int .u32 r29]) (.agg #[.int .u32 0, .int .u32 0, .int .u32 0, .int .u32 0, .int .u32 0, .int .u32 0, .int .u32 0, .int .u32 0, .int .u32 0, .int .u32 0, .int .u32 0]); binOp .eql 66 (.agg #[.int .u32 r19, .int .u32 r20, .int .u32 r21, .int .u32 r22, .int .u32 r23, .int .u32 r24, .int .u32 r25, .int .u32 r26, .int .u32 r27, .int .u32 r28, .int .u32 r29]) (.agg #[.int .u32 0, .int .u32 0, .int .u32 0, .int .u32 0, .int .u32 0, .int .u32 0, .int .u32 0, .int .u32 0, .int .u32 0, .int .u32 0, .int .u32 0]) : Sem Value)).run Try.prog w = .ok (.bool t1) w) ∧ (J3 t1 w17))) ∧ (((((b3 && r7 == 1) && r9 == 1) && r12 == 1) && r15 == 1) = false → J3 false w14))) ∧ ((b2 = true → Calls Try.prog 22 #[.pointer none, .int .u32 set1] w12 fun e w15 => ∃ (r18 : Int), e = .returned (.int .i64 r18) ∧ (J2 (r18 == 1) w15)) ∧ (b2 = false → J2 false w12))) ∧ (((r16 == 1) = true → Calls Try.prog 34 #[.pointer (some (⟨b1, 0, none⟩ : Addr)), .int .i64 1, .int .u32 set1] w11 fun e w13 => ∃ (r17 : Int), e = .returned (.int .i64 r17) ∧ (J1 (r17 == 1) w13)) ∧ ((r16 == 1) = false → J1 false w11)))))))))))))
set_option maxRecDepth 100000 in
theorem ok_pomanderlaw13_PolicyNil (set1 : Int) (l1 : Option Addr) (l1n : Nat) (l1c : Nat) (w : World) (R : Bool → World → Prop) (h : V_pomanderlaw13_PolicyNil set1 l1 l1n l1c w R) : Calls Try.prog 7 #[.int .u32 set1, .slice l1 l1n l1c] w (fun e w' => ∃ (r1 : Bool), e = .returned (.bool r1) ∧ R r1 w') := by
  unfold V_pomanderlaw13_PolicyNil at h
  refine enter (N := 99) Try.func7 rfl rfl ?_
  refine CW.seq ?_
  refine CW.region fun L hL => ?_
  refine LW.rd hL rfl (Wants.free rfl) rfl (Rd.assign (v := .bool false) rfl) ?_
  refine LW.nil hL rfl ?_
  refine NW.then ?_
  refine CW.seq ?_
  refine CW.seq ?_
  refine CW.region fun L hL => ?_
  refine LW.rd hL rfl (Wants.free rfl) rfl (Rd.move (v := .slice l1 l1n l1c) rfl) ?_
  refine LW.call hL rfl (Wants.free rfl) rfl (Cl.fn (f := 17) rfl Try.func17 (by kernel_rfl) rfl) h (fun e w1 h_ => ?_)
  clear h
  obtain ⟨r2, rfl, h⟩ := h_
  refine ⟨_, rfl, ?_⟩
  refine LW.nil hL rfl ?_
  refine NW.then ?_
  refine CW.cond rfl (fun hb1 => ?_) (fun hb1 => ?_)
  · replace h := h.1 hb1
    refine CW.seq ?_
    refine CW.region fun L hL => ?_
    refine LW.call hL rfl (Wants.free rfl) rfl (Cl.fn (f := 18) rfl Try.func18 (by kernel_rfl) rfl) h (fun e w2 h_ => ?_)
    clear h
    obtain ⟨r3, rfl, h⟩ := h_
    refine ⟨_, rfl, ?_⟩
    refine LW.rd hL rfl (Wants.free rfl) rfl (Rd.assign (v := .bool r3) rfl) ?_
    refine LW.nil hL rfl ?_
    refine NW.then ?_
    refine CW.ret ?_
    refine RW.then ?_
    exact res1 rfl rfl ⟨r3, rfl, h⟩
  · replace h := h.2 hb1
    refine CW.skip ?_
    refine NW.then ?_
    refine CW.seq ?_
    refine CW.region fun L hL => ?_
    refine LW.rd hL rfl (Wants.free rfl) rfl (Rd.assign (v := .pointer none) rfl) ?_
    refine LW.nil hL rfl ?_
    refine NW.then ?_
    refine CW.seq ?_
    refine CW.region fun L hL => ?_
    refine LW.rd hL rfl (Wants.free rfl) rfl (Rd.build (v := .agg #[.int .u32 0, .int .u32 0, .int .u32 0, .int .u32 0, .int .u32 0, .int .u32 0, .int .u32 0, .int .u32 0, .int .u32 0, .int .u32 0, .int .u32 0, .bool false]) rfl (fun _ => by kernel_rfl)) ?_
    obtain ⟨b1, hb_b1⟩ : ∃ b1, b1 = World.size w1 := ⟨_, rfl⟩
    obtain ⟨w3, hw_w3⟩ : ∃ w3, w3 = World.alloc w1 (.cells #[.int .u32 0, .int .u32 0, .int .u32 0, .int .u32 0, .int .u32 0, .int .u32 0, .int .u32 0, .int .u32 0, .int .u32 0, .int .u32 0, .int .u32 0, .bool false] 85) := ⟨_, rfl⟩
    replace h := h b1 hb_b1 w3 hw_w3
    refine LW.val hL rfl (Wants.free rfl) rfl (boxE hb_b1 hw_w3 (Vl.box (v := .agg #[.int .u32 0, .int .u32 0, .int .u32 0, .int .u32 0, .int .u32 0, .int .u32 0, .int .u32 0, .int .u32 0, .int .u32 0, .int .u32 0, .int .u32 0, .bool false]) rfl)) ?_
    refine LW.rd hL rfl (Wants.free rfl) rfl (Rd.assign (v := .pointer (some (⟨b1, 0, none⟩ : Addr))) rfl) ?_
    refine LW.nil hL rfl ?_
    refine NW.then ?_
    refine CW.seq ?_
    refine CW.region fun L hL => ?_
    refine LW.rd hL rfl (Wants.free rfl) rfl (Rd.build (v := .agg #[.int .i64 1, .int .i64 1]) rfl (fun _ => by kernel_rfl)) ?_
    refine LW.call hL rfl (Wants.free rfl) rfl (Cl.fn (f := 25) rfl Try.func25 (by kernel_rfl) rfl) h (fun e w4 h_ => ?_)
    clear h
    obtain ⟨r4, r5, rfl, h⟩ := h_
    refine ⟨_, rfl, ?_⟩
    refine LW.rd hL rfl (Wants.free rfl) rfl (Rd.move (v := .tuple #[.pointer r4, .int .i64 r5]) rfl) ?_
    refine LW.rd hL rfl (Wants.free rfl) rfl (Rd.extract (v := .pointer r4) rfl rfl) ?_
    refine LW.rd hL rfl (Wants.free rfl) rfl (Rd.extract (v := .int .i64 r5) rfl rfl) ?_
    refine LW.rd hL rfl (Wants.free rfl) rfl (Rd.assign (v := .pointer r4) rfl) ?_
    refine LW.rd hL rfl (Wants.free rfl) rfl (Rd.assign (v := .int .i64 r5) rfl) ?_
    refine LW.nil hL rfl ?_
    refine NW.then ?_
    refine CW.seq ?_
    refine CW.region fun L hL => ?_
    refine LW.rd hL rfl (Wants.free rfl) rfl (Rd.move (v := .pointer none) rfl) ?_
    refine LW.rd hL rfl (Wants.free rfl) rfl (Rd.move (v := .pointer r4) rfl) ?_
    refine LW.rd hL rfl (Wants.free rfl) rfl (Rd.move (v := .slice l1 l1n l1c) rfl) ?_
    refine LW.call hL rfl (Wants.free rfl) rfl (Cl.fn (f := 21) rfl Try.func21 (by kernel_rfl) rfl) h (fun e w5 h_ => ?_)
    clear h
    obtain ⟨r6, r7, rfl, h⟩ := h_
    refine ⟨_, rfl, ?_⟩
    refine LW.rd hL rfl (Wants.free rfl) rfl (Rd.move (v := .tuple #[.bool r6, .int .i64 r7]) rfl) ?_
    refine LW.rd hL rfl (Wants.free rfl) rfl (Rd.extract (v := .bool r6) rfl rfl) ?_
    refine LW.rd hL rfl (Wants.free rfl) rfl (Rd.extract (v := .int .i64 r7) rfl rfl) ?_
    refine LW.rd hL rfl (Wants.free rfl) rfl (Rd.assign (v := .bool r6) rfl) ?_
    refine LW.rd hL rfl (Wants.free rfl) rfl (Rd.assign (v := .int .i64 r7) rfl) ?_
    refine LW.nil hL rfl ?_
    refine NW.then ?_
    refine CW.seq ?_
    refine CW.region fun L hL => ?_
    refine LW.rd hL rfl (Wants.free rfl) rfl (Rd.move (v := .pointer (some (⟨b1, 0, none⟩ : Addr))) rfl) ?_
    refine LW.rd hL rfl (Wants.free rfl) rfl (Rd.move (v := .pointer r4) rfl) ?_
    refine LW.rd hL rfl (Wants.free rfl) rfl (Rd.move (v := .slice l1 l1n l1c) rfl) ?_
    refine LW.call hL rfl (Wants.free rfl) rfl (Cl.fn (f := 39) rfl Try.func39 (by kernel_rfl) rfl) h (fun e w6 h_ => ?_)
    clear h
    obtain ⟨r8, r8n, r8c, r9, rfl, h⟩ := h_
    refine ⟨_, rfl, ?_⟩
    refine LW.rd hL rfl (Wants.free rfl) rfl (Rd.move (v := .tuple #[.slice r8 r8n r8c, .int .i64 r9]) rfl) ?_
    refine LW.rd hL rfl (Wants.free rfl) rfl (Rd.extract (v := .slice r8 r8n r8c) rfl rfl) ?_
    refine LW.rd hL rfl (Wants.free rfl) rfl (Rd.extract (v := .int .i64 r9) rfl rfl) ?_
    refine LW.rd hL rfl (Wants.free rfl) rfl (Rd.assign (v := .slice r8 r8n r8c) rfl) ?_
    refine LW.rd hL rfl (Wants.free rfl) rfl (Rd.assign (v := .int .i64 r9) rfl) ?_
    refine LW.nil hL rfl ?_
    refine NW.then ?_
    refine CW.seq ?_
    refine CW.region fun L hL => ?_
    refine LW.call hL rfl (Wants.free rfl) rfl (Cl.fn (f := 20) rfl Try.func20 (by kernel_rfl) rfl) h (fun e w7 h_ => ?_)
    clear h
    obtain ⟨r10, rfl, h⟩ := h_
    refine ⟨_, rfl, ?_⟩
    refine LW.rd hL rfl (Wants.free rfl) rfl (Rd.move (v := .slice l1 l1n l1c) rfl) ?_
    refine LW.call hL rfl (Wants.free rfl) rfl (Cl.fn (f := 21) rfl Try.func21 (by kernel_rfl) rfl) h (fun e w8 h_ => ?_)
    clear h
    obtain ⟨r11, r12, rfl, h⟩ := h_
    refine ⟨_, rfl, ?_⟩
    refine LW.rd hL rfl (Wants.free rfl) rfl (Rd.move (v := .tuple #[.bool r11, .int .i64 r12]) rfl) ?_
    refine LW.rd hL rfl (Wants.free rfl) rfl (Rd.extract (v := .bool r11) rfl rfl) ?_
    refine LW.rd hL rfl (Wants.free rfl) rfl (Rd.extract (v := .int .i64 r12) rfl rfl) ?_
    refine LW.rd hL rfl (Wants.free rfl) rfl (Rd.assign (v := .bool r11) rfl) ?_
    refine LW.rd hL rfl (Wants.free rfl) rfl (Rd.assign (v := .int .i64 r12) rfl) ?_
    refine LW.nil hL rfl ?_
    refine NW.then ?_
    refine CW.seq ?_
    refine CW.region fun L hL => ?_
    refine LW.call hL rfl (Wants.free rfl) rfl (Cl.fn (f := 20) rfl Try.func20 (by kernel_rfl) rfl) h (fun e w9 h_ => ?_)
    clear h
    obtain ⟨r13, rfl, h⟩ := h_
    refine ⟨_, rfl, ?_⟩
    refine LW.rd hL rfl (Wants.free rfl) rfl (Rd.move (v := .slice l1 l1n l1c) rfl) ?_
    refine LW.call hL rfl (Wants.free rfl) rfl (Cl.fn (f := 39) rfl Try.func39 (by kernel_rfl) rfl) h (fun e w10 h_ => ?_)
    clear h
    obtain ⟨r14, r14n, r14c, r15, rfl, h⟩ := h_
    refine ⟨_, rfl, ?_⟩
    refine LW.rd hL rfl (Wants.free rfl) rfl (Rd.move (v := .tuple #[.slice r14 r14n r14c, .int .i64 r15]) rfl) ?_
    refine LW.rd hL rfl (Wants.free rfl) rfl (Rd.extract (v := .slice r14 r14n r14c) rfl rfl) ?_
    refine LW.rd hL rfl (Wants.free rfl) rfl (Rd.extract (v := .int .i64 r15) rfl rfl) ?_
    refine LW.rd hL rfl (Wants.free rfl) rfl (Rd.assign (v := .slice r14 r14n r14c) rfl) ?_
    refine LW.rd hL rfl (Wants.free rfl) rfl (Rd.assign (v := .int .i64 r15) rfl) ?_
    refine LW.nil hL rfl ?_
    refine NW.then ?_
    refine CW.seq ?_
    refine CW.region fun L hL => ?_
    refine LW.rd hL rfl (Wants.free rfl) rfl (Rd.move (v := .pointer none) rfl) ?_
    refine LW.rd hL rfl (Wants.free rfl) rfl (Rd.move (v := .int .u32 set1) rfl) ?_
    refine LW.call hL rfl (Wants.free rfl) rfl (Cl.fn (f := 33) rfl Try.func33 (by kernel_rfl) rfl) h (fun e w11 h_ => ?_)
    clear h
    obtain ⟨r16, rfl, h⟩ := h_
    refine ⟨_, rfl, ?_⟩
    refine LW.rd hL rfl (Wants.free rfl) rfl (Rd.bin (v := .bool (r16 == 1)) rfl rfl (fun w => by kernel_rfl)) ?_
    refine LW.rd hL rfl (Wants.free rfl) rfl (Rd.move (v := .bool (r16 == 1)) rfl) ?_
    obtain ⟨J1, hJ1, h1_J1, h0_J1⟩ := h
    suffices K1 : ∀ (b2 : Bool) (w12 : World), J1 b2 w12 → L 10 [(0, .int .u32 set1), (4, .bool false), (5, .pointer none), (6, .pointer (some (⟨b1, 0, none⟩ : Addr))), (10, .int .i64 r7), (12, .int .i64 r9), (14, .int .i64 r12), (16, .int .i64 r15), (62, .bool b2)] w12 by
      rcases Bool.eq_false_or_eq_true (r16 == 1) with hb2 | hb2
      · have h := h1_J1 hb2
        refine LW.rd hL rfl (Wants.on rfl rfl rfl rfl rfl hb2) rfl (Rd.move (v := .pointer (some (⟨b1, 0, none⟩ : Addr))) rfl) ?_
        refine LW.rd hL rfl (Wants.on rfl rfl rfl rfl rfl hb2) rfl (Rd.move (v := .int .u32 set1) rfl) ?_
        refine LW.call hL rfl (Wants.on rfl rfl rfl rfl rfl hb2) rfl (Cl.fn (f := 34) rfl Try.func34 (by kernel_rfl) rfl) h (fun e w13 h_ => ?_)
        clear h
        obtain ⟨r17, rfl, h⟩ := h_
        refine ⟨_, rfl, ?_⟩
        refine LW.rd hL rfl (Wants.on rfl rfl rfl rfl rfl hb2) rfl (Rd.bin (v := .bool (r17 == 1)) rfl rfl (fun w => by kernel_rfl)) ?_
        refine LW.rd hL rfl (Wants.free rfl) rfl (Rd.pickT rfl hb2 rfl) ?_
        exact LW.sub hL (by exact ⟨rfl, rfl, rfl, rfl, rfl, rfl, rfl, rfl, rfl, trivial⟩) (K1 (r17 == 1) w13 h)
      · have h := h0_J1 hb2
        refine LW.skip hL rfl (Skips.on rfl rfl rfl rfl rfl hb2) rfl ?_
        refine LW.skip hL rfl (Skips.on rfl rfl rfl rfl rfl hb2) rfl ?_
        refine LW.skip hL rfl (Skips.on rfl rfl rfl rfl rfl hb2) rfl ?_
        refine LW.skip hL rfl (Skips.on rfl rfl rfl rfl rfl hb2) rfl ?_
        refine LW.rd hL rfl (Wants.free rfl) rfl (Rd.pickF rfl hb2 rfl) ?_
        exact LW.sub hL (by exact ⟨rfl, rfl, rfl, rfl, rfl, rfl, rfl, rfl, rfl, trivial⟩) (K1 false w11 h)
    intro b2 w12 h_
    have h := hJ1 b2 w12 h_; clear h_
    refine LW.rd hL rfl (Wants.free rfl) rfl (Rd.move (v := .bool b2) rfl) ?_
    obtain ⟨J2, hJ2, h1_J2, h0_J2⟩ := h
    suffices K2 : ∀ (b3 : Bool) (w14 : World), J2 b3 w14 → L 16 [(4, .bool false), (5, .pointer none), (6, .pointer (some (⟨b1, 0, none⟩ : Addr))), (10, .int .i64 r7), (12, .int .i64 r9), (14, .int .i64 r12), (16, .int .i64 r15), (68, .bool b3)] w14 by
      rcases Bool.eq_false_or_eq_true b2 with hb3 | hb3
      · have h := h1_J2 hb3
        refine LW.rd hL rfl (Wants.on rfl rfl rfl rfl rfl hb3) rfl (Rd.move (v := .pointer none) rfl) ?_
        refine LW.rd hL rfl (Wants.on rfl rfl rfl rfl rfl hb3) rfl (Rd.move (v := .int .u32 set1) rfl) ?_
        refine LW.call hL rfl (Wants.on rfl rfl rfl rfl rfl hb3) rfl (Cl.fn (f := 22) rfl Try.func22 (by kernel_rfl) rfl) h (fun e w15 h_ => ?_)
        clear h
        obtain ⟨r18, rfl, h⟩ := h_
        refine ⟨_, rfl, ?_⟩
        refine LW.rd hL rfl (Wants.on rfl rfl rfl rfl rfl hb3) rfl (Rd.bin (v := .bool (r18 == 1)) rfl rfl (fun w => by kernel_rfl)) ?_
        refine LW.rd hL rfl (Wants.free rfl) rfl (Rd.pickT rfl hb3 rfl) ?_
        exact LW.sub hL (by exact ⟨rfl, rfl, rfl, rfl, rfl, rfl, rfl, rfl, trivial⟩) (K2 (r18 == 1) w15 h)
      · have h := h0_J2 hb3
        refine LW.skip hL rfl (Skips.on rfl rfl rfl rfl rfl hb3) rfl ?_
        refine LW.skip hL rfl (Skips.on rfl rfl rfl rfl rfl hb3) rfl ?_
        refine LW.skip hL rfl (Skips.on rfl rfl rfl rfl rfl hb3) rfl ?_
        refine LW.skip hL rfl (Skips.on rfl rfl rfl rfl rfl hb3) rfl ?_
        refine LW.rd hL rfl (Wants.free rfl) rfl (Rd.pickF rfl hb3 rfl) ?_
        exact LW.sub hL (by exact ⟨rfl, rfl, rfl, rfl, rfl, rfl, rfl, rfl, trivial⟩) (K2 false w12 h)
    intro b3 w14 h_
    have h := hJ2 b3 w14 h_; clear h_
    refine LW.rd hL rfl (Wants.free rfl) rfl (Rd.move (v := .bool b3) rfl) ?_
    suffices K3 : L 20 [(4, .bool false), (5, .pointer none), (6, .pointer (some (⟨b1, 0, none⟩ : Addr))), (12, .int .i64 r9), (14, .int .i64 r12), (16, .int .i64 r15), (72, .bool (b3 && r7 == 1))] w14 by
      rcases Bool.eq_false_or_eq_true b3 with hb5 | hb5
      · skip
        refine LW.rd hL rfl (Wants.on rfl rfl rfl rfl rfl hb5) rfl (Rd.move (v := .int .i64 r7) rfl) ?_
        refine LW.rd hL rfl (Wants.on rfl rfl rfl rfl rfl hb5) rfl (Rd.bin (v := .bool (r7 == 1)) rfl rfl (fun w => by kernel_rfl)) ?_
        refine LW.rd hL rfl (Wants.free rfl) rfl (Rd.pickT rfl hb5 rfl) ?_
        exact LW.sub hL (by exact ⟨rfl, rfl, rfl, rfl, rfl, rfl, (by rw [hb5]; rfl), trivial⟩) K3
      · skip
        refine LW.skip hL rfl (Skips.on rfl rfl rfl rfl rfl hb5) rfl ?_
        refine LW.skip hL rfl (Skips.on rfl rfl rfl rfl rfl hb5) rfl ?_
        refine LW.rd hL rfl (Wants.free rfl) rfl (Rd.pickF rfl hb5 rfl) ?_
        exact LW.sub hL (by exact ⟨rfl, rfl, rfl, rfl, rfl, rfl, (by rw [hb5]; rfl), trivial⟩) K3
    refine LW.rd hL rfl (Wants.free rfl) rfl (Rd.move (v := .bool (b3 && r7 == 1)) rfl) ?_
    suffices K4 : L 24 [(4, .bool false), (5, .pointer none), (6, .pointer (some (⟨b1, 0, none⟩ : Addr))), (14, .int .i64 r12), (16, .int .i64 r15), (76, .bool ((b3 && r7 == 1) && r9 == 1))] w14 by
      rcases Bool.eq_false_or_eq_true (b3 && r7 == 1) with hb7 | hb7
      · skip
        refine LW.rd hL rfl (Wants.on rfl rfl rfl rfl rfl hb7) rfl (Rd.move (v := .int .i64 r9) rfl) ?_
        refine LW.rd hL rfl (Wants.on rfl rfl rfl rfl rfl hb7) rfl (Rd.bin (v := .bool (r9 == 1)) rfl rfl (fun w => by kernel_rfl)) ?_
        refine LW.rd hL rfl (Wants.free rfl) rfl (Rd.pickT rfl hb7 rfl) ?_
        exact LW.sub hL (by exact ⟨rfl, rfl, rfl, rfl, rfl, (by rw [hb7]; rfl), trivial⟩) K4
      · skip
        refine LW.skip hL rfl (Skips.on rfl rfl rfl rfl rfl hb7) rfl ?_
        refine LW.skip hL rfl (Skips.on rfl rfl rfl rfl rfl hb7) rfl ?_
        refine LW.rd hL rfl (Wants.free rfl) rfl (Rd.pickF rfl hb7 rfl) ?_
        exact LW.sub hL (by exact ⟨rfl, rfl, rfl, rfl, rfl, (by rw [hb7]; rfl), trivial⟩) K4
    refine LW.rd hL rfl (Wants.free rfl) rfl (Rd.move (v := .bool ((b3 && r7 == 1) && r9 == 1)) rfl) ?_
    suffices K5 : L 28 [(4, .bool false), (5, .pointer none), (6, .pointer (some (⟨b1, 0, none⟩ : Addr))), (16, .int .i64 r15), (80, .bool (((b3 && r7 == 1) && r9 == 1) && r12 == 1))] w14 by
      rcases Bool.eq_false_or_eq_true ((b3 && r7 == 1) && r9 == 1) with hb9 | hb9
      · skip
        refine LW.rd hL rfl (Wants.on rfl rfl rfl rfl rfl hb9) rfl (Rd.move (v := .int .i64 r12) rfl) ?_
        refine LW.rd hL rfl (Wants.on rfl rfl rfl rfl rfl hb9) rfl (Rd.bin (v := .bool (r12 == 1)) rfl rfl (fun w => by kernel_rfl)) ?_
        refine LW.rd hL rfl (Wants.free rfl) rfl (Rd.pickT rfl hb9 rfl) ?_
        exact LW.sub hL (by exact ⟨rfl, rfl, rfl, rfl, (by rw [hb9]; rfl), trivial⟩) K5
      · skip
        refine LW.skip hL rfl (Skips.on rfl rfl rfl rfl rfl hb9) rfl ?_
        refine LW.skip hL rfl (Skips.on rfl rfl rfl rfl rfl hb9) rfl ?_
        refine LW.rd hL rfl (Wants.free rfl) rfl (Rd.pickF rfl hb9 rfl) ?_
        exact LW.sub hL (by exact ⟨rfl, rfl, rfl, rfl, (by rw [hb9]; rfl), trivial⟩) K5
    refine LW.rd hL rfl (Wants.free rfl) rfl (Rd.move (v := .bool (((b3 && r7 == 1) && r9 == 1) && r12 == 1)) rfl) ?_
    suffices K6 : L 32 [(4, .bool false), (5, .pointer none), (6, .pointer (some (⟨b1, 0, none⟩ : Addr))), (84, .bool ((((b3 && r7 == 1) && r9 == 1) && r12 == 1) && r15 == 1))] w14 by
      rcases Bool.eq_false_or_eq_true (((b3 && r7 == 1) && r9 == 1) && r12 == 1) with hb11 | hb11
      · skip
        refine LW.rd hL rfl (Wants.on rfl rfl rfl rfl rfl hb11) rfl (Rd.move (v := .int .i64 r15) rfl) ?_
        refine LW.rd hL rfl (Wants.on rfl rfl rfl rfl rfl hb11) rfl (Rd.bin (v := .bool (r15 == 1)) rfl rfl (fun w => by kernel_rfl)) ?_
        refine LW.rd hL rfl (Wants.free rfl) rfl (Rd.pickT rfl hb11 rfl) ?_
        exact LW.sub hL (by exact ⟨rfl, rfl, rfl, (by rw [hb11]; rfl), trivial⟩) K6
      · skip
        refine LW.skip hL rfl (Skips.on rfl rfl rfl rfl rfl hb11) rfl ?_
        refine LW.skip hL rfl (Skips.on rfl rfl rfl rfl rfl hb11) rfl ?_
        refine LW.rd hL rfl (Wants.free rfl) rfl (Rd.pickF rfl hb11 rfl) ?_
        exact LW.sub hL (by exact ⟨rfl, rfl, rfl, (by rw [hb11]; rfl), trivial⟩) K6
    refine LW.rd hL rfl (Wants.free rfl) rfl (Rd.move (v := .bool ((((b3 && r7 == 1) && r9 == 1) && r12 == 1) && r15 == 1)) rfl) ?_
    obtain ⟨J3, hJ3, h1_J3, h0_J3⟩ := h
    suffices K7 : ∀ (b4 : Bool) (w16 : World), J3 b4 w16 → L 38 [(4, .bool false), (5, .pointer none), (90, .bool b4)] w16 by
      rcases Bool.eq_false_or_eq_true ((((b3 && r7 == 1) && r9 == 1) && r12 == 1) && r15 == 1) with hb12 | hb12
      · have h := h1_J3 hb12
        refine LW.rd hL rfl (Wants.on rfl rfl rfl rfl rfl hb12) rfl (Rd.move (v := .pointer (some (⟨b1, 0, none⟩ : Addr))) rfl) ?_
        refine LW.call hL rfl (Wants.on rfl rfl rfl rfl rfl hb12) rfl (Cl.fn (f := 35) rfl Try.func35 (by kernel_rfl) rfl) h (fun e w17 h_ => ?_)
        clear h
        obtain ⟨r19, r20, r21, r22, r23, r24, r25, r26, r27, r28, r29, rfl, h⟩ := h_
        refine ⟨_, rfl, ?_⟩
        refine LW.rd hL rfl (Wants.on rfl rfl rfl rfl rfl hb12) rfl (Rd.build (v := .agg #[.int .u32 0, .int .u32 0, .int .u32 0, .int .u32 0, .int .u32 0, .int .u32 0, .int .u32 0, .int .u32 0, .int .u32 0, .int .u32 0, .int .u32 0]) rfl (fun _ => by kernel_rfl)) ?_
        obtain ⟨t1, hx1, h⟩ := h
        refine LW.rd hL rfl (Wants.on rfl rfl rfl rfl rfl hb12) rfl (Rd.bin (v := .bool t1) rfl rfl hx1) ?_
        refine LW.rd hL rfl (Wants.free rfl) rfl (Rd.pickT rfl hb12 rfl) ?_
        exact LW.sub hL (by exact ⟨rfl, rfl, rfl, trivial⟩) (K7 t1 w17 h)
      · have h := h0_J3 hb12
        refine LW.skip hL rfl (Skips.on rfl rfl rfl rfl rfl hb12) rfl ?_
        refine LW.skip hL rfl (Skips.on rfl rfl rfl rfl rfl hb12) rfl ?_
        refine LW.skip hL rfl (Skips.on rfl rfl rfl rfl rfl hb12) rfl ?_
        refine LW.skip hL rfl (Skips.on rfl rfl rfl rfl rfl hb12) rfl ?_
        refine LW.rd hL rfl (Wants.free rfl) rfl (Rd.pickF rfl hb12 rfl) ?_
        exact LW.sub hL (by exact ⟨rfl, rfl, rfl, trivial⟩) (K7 false w14 h)
    intro b4 w16 h_
    have h := hJ3 b4 w16 h_; clear h_
    refine LW.rd hL rfl (Wants.free rfl) rfl (Rd.move (v := .bool b4) rfl) ?_
    obtain ⟨J4, hJ4, h1_J4, h0_J4⟩ := h
    suffices K8 : ∀ (b5 : Bool) (w18 : World), J4 b5 w18 → L 43 [(4, .bool false), (95, .bool b5)] w18 by
      rcases Bool.eq_false_or_eq_true b4 with hb13 | hb13
      · have h := h1_J4 hb13
        refine LW.rd hL rfl (Wants.on rfl rfl rfl rfl rfl hb13) rfl (Rd.move (v := .pointer none) rfl) ?_
        refine LW.call hL rfl (Wants.on rfl rfl rfl rfl rfl hb13) rfl (Cl.fn (f := 32) rfl Try.func32 (by kernel_rfl) rfl) h (fun e w19 h_ => ?_)
        clear h
        obtain ⟨r30, rfl, h⟩ := h_
        refine ⟨_, rfl, ?_⟩
        refine LW.rd hL rfl (Wants.on rfl rfl rfl rfl rfl hb13) rfl (Rd.bin (v := .bool (Option.isNone r30)) rfl rfl (fun w => ptr_nil_eq (by kernel_rfl) r30 w)) ?_
        refine LW.rd hL rfl (Wants.free rfl) rfl (Rd.pickT rfl hb13 rfl) ?_
        exact LW.sub hL (by exact ⟨rfl, rfl, trivial⟩) (K8 (Option.isNone r30) w19 h)
      · have h := h0_J4 hb13
        refine LW.skip hL rfl (Skips.on rfl rfl rfl rfl rfl hb13) rfl ?_
        refine LW.skip hL rfl (Skips.on rfl rfl rfl rfl rfl hb13) rfl ?_
        refine LW.skip hL rfl (Skips.on rfl rfl rfl rfl rfl hb13) rfl ?_
        refine LW.rd hL rfl (Wants.free rfl) rfl (Rd.pickF rfl hb13 rfl) ?_
        exact LW.sub hL (by exact ⟨rfl, rfl, trivial⟩) (K8 false w16 h)
    intro b5 w18 h_
    have h := hJ4 b5 w18 h_; clear h_
    refine LW.rd hL rfl (Wants.free rfl) rfl (Rd.move (v := .bool b5) rfl) ?_
    obtain ⟨J5, hJ5, h1_J5, h0_J5⟩ := h
    suffices K9 : ∀ (b6 : Bool) (w20 : World), J5 b6 w20 → L 46 [(4, .bool false), (98, .bool b6)] w20 by
      rcases Bool.eq_false_or_eq_true b5 with hb14 | hb14
      · have h := h1_J5 hb14
        refine LW.call hL rfl (Wants.on rfl rfl rfl rfl rfl hb14) rfl (Cl.fn (f := 18) rfl Try.func18 (by kernel_rfl) rfl) h (fun e w21 h_ => ?_)
        clear h
        obtain ⟨r31, rfl, h⟩ := h_
        refine ⟨_, rfl, ?_⟩
        refine LW.rd hL rfl (Wants.free rfl) rfl (Rd.pickT rfl hb14 rfl) ?_
        exact LW.sub hL (by exact ⟨rfl, rfl, trivial⟩) (K9 r31 w21 h)
      · have h := h0_J5 hb14
        refine LW.skip hL rfl (Skips.on rfl rfl rfl rfl rfl hb14) rfl ?_
        refine LW.rd hL rfl (Wants.free rfl) rfl (Rd.pickF rfl hb14 rfl) ?_
        exact LW.sub hL (by exact ⟨rfl, rfl, trivial⟩) (K9 false w18 h)
    intro b6 w20 h_
    have h := hJ5 b6 w20 h_; clear h_
    refine LW.rd hL rfl (Wants.free rfl) rfl (Rd.assign (v := .bool b6) rfl) ?_
    refine LW.nil hL rfl ?_
    refine NW.then ?_
    refine CW.ret ?_
    exact res1 rfl rfl ⟨b6, rfl, h⟩

end Go.Proofs.Ytkfncibmfcdokaa
