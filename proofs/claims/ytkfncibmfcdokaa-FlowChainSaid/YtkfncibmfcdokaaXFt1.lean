import Derived.Test.YtkfncibmfcdokaaProg
import Derived.Test.YtkfncibmfcdokaaXEq
set_option linter.unusedVariables false
set_option linter.unusedSimpArgs false
namespace Go.Proofs.Ytkfncibmfcdokaa
open Go.X

/- pomander/pomanderlaw13.PolicyMore -/
def V_pomanderlaw13_PolicyMore (sets1 : Int) (sets2 : Int) (m1 : Option Addr) (m1n : Nat) (m1c : Nat) (l1 : Option Addr) (l1n : Nat) (l1c : Nat) (w : World) (R : Bool → World → Prop) : Prop :=
  ∀ b1 : Nat, b1 = World.size w → ∀ w1 : World, w1 = World.alloc w (.cells #[.int .u32 sets1, .int .u32 sets2] 23) → (Calls Try.prog 17 #[.slice m1 m1n m1c, .slice l1 l1n l1c] w1 fun e w2 => ∃ (r2 : Bool), e = .returned (.bool r2) ∧ (∃ J1 : Bool → World → Prop, (∀ (b2 : Bool) (w3 : World), J1 b2 w3 → ∃ J2 : Bool → World → Prop, (∀ (b3 : Bool) (w4 : World), J2 b3 w4 → (b3 = true → Calls Try.prog 18 #[] w4 fun e w5 => ∃ (r3 : Bool), e = .returned (.bool r3) ∧ (R r3 w5)) ∧ (b3 = false → Calls Try.prog 19 #[.slice m1 m1n m1c] w4 fun e w6 => ∃ (r4 : Option Addr) (r5 : Int) (r6 : Int) (r7 : Int) (r8 : Option Addr) (r8n : Nat) (r8c : Nat) (r9 : Option Addr) (r9n : Nat) (r9c : Nat), e = .returned (.tuple #[.pointer r4, .agg #[.int .i64 r5, .int .i64 r6, .int .i64 r7, .slice r8 r8n r8c, .slice r9 r9n r9c]]) ∧ (∀ b4 : Nat, b4 = World.size w6 → ∀ w7 : World, w7 = World.alloc w6 (.cells #[.int .i64 0, .int .i64 0, .int .i64 0, .slice none 0 0, .slice none 0 0] 36) → (Has w7 (⟨b4, 0, none⟩ : Addr) 5 ∧ Free w7 (⟨b4, 0, none⟩ : Addr) 5 ∧ ∀ w8 : World, w8 = setCells w7 (⟨b4, 0, none⟩ : Addr) 0 [.int .i64 r5, .int .i64 r6, .int .i64 r7, .slice r8 r8n r8c, .slice r9 r9n r9c] → (Calls Try.prog 20 #[] w8 fun e w9 => ∃ (r10 : Option Addr), e = .returned (.pointer r10) ∧ (Calls Try.prog 21 #[.pointer r10, .pointer r4, .slice l1 l1n l1c] w9 fun e w10 => ∃ (r11 : Bool) (r12 : Int), e = .returned (.tuple #[.bool r11, .int .i64 r12]) ∧ ((0 : Int) ≤ 0 ∧ (0 : Int) < 2 ∧ (∃ (t3 : Int), w10.cell? ((⟨b1, 0, none⟩ : Addr).add (Int.toNat 0 * 1)) = some (.int .u32 t3) ∧ (Calls Try.prog 22 #[.pointer r10, .int .u32 t3] w10 fun e w11 => ∃ (r13 : Int), e = .returned (.int .i64 r13) ∧ (Calls Try.prog 21 #[.pointer r10, .pointer r4, .slice l1 l1n l1c] w11 fun e w12 => ∃ (r14 : Bool) (r15 : Int), e = .returned (.tuple #[.bool r14, .int .i64 r15]) ∧ ((0 : Int) ≤ 0 ∧ (0 : Int) < 2 ∧ (∃ (t4 : Int), w12.cell? ((⟨b1, 0, none⟩ : Addr).add (Int.toNat 0 * 1)) = some (.int .u32 t4) ∧ ((0 : Int) ≤ 1 ∧ (1 : Int) < 2 ∧ (∃ (t5 : Int), w12.cell? ((⟨b1, 0, none⟩ : Addr).add (Int.toNat 1 * 1)) = some (.int .u32 t5) ∧ (Calls Try.prog 22 #[.pointer r10, .int .u32 (bits .or .u32 t4 t5)] w12 fun e w13 => ∃ (r16 : Int), e = .returned (.int .i64 r16) ∧ (Calls Try.prog 21 #[.pointer r10, .pointer r4, .slice l1 l1n l1c] w13 fun e w14 => ∃ (r17 : Bool) (r18 : Int), e = .returned (.tuple #[.bool r17, .int .i64 r18]) ∧ (∃ J3 : Bool → World → Prop, (∀ (b5 : Bool) (w15 : World), J3 b5 w15 → R b5 w15) ∧ (((((r12 == r15 && r15 == r18) && !r11) && (!r14 || r17)) = true → Calls Try.prog 18 #[] w14 fun e w16 => ∃ (r19 : Bool), e = .returned (.bool r19) ∧ (J3 r19 w16)) ∧ ((((r12 == r15 && r15 == r18) && !r11) && (!r14 || r17)) = false → J3 false w14))))))))))))))))))) ∧ ((b2 = false → (0 : Int) ≤ 1 ∧ (1 : Int) < 2 ∧ (∃ (t2 : Int), w3.cell? ((⟨b1, 0, none⟩ : Addr).add (Int.toNat 1 * 1)) = some (.int .u32 t2) ∧ (J2 (decide (t2 ≥ 65536)) w3))) ∧ (b2 = true → J2 true w3))) ∧ ((r2 = false → (0 : Int) ≤ 0 ∧ (0 : Int) < 2 ∧ (∃ (t1 : Int), w2.cell? ((⟨b1, 0, none⟩ : Addr).add (Int.toNat 0 * 1)) = some (.int .u32 t1) ∧ (J1 (decide (t1 ≥ 65536)) w2))) ∧ (r2 = true → J1 true w2))))
set_option maxRecDepth 100000 in
theorem ok_pomanderlaw13_PolicyMore (sets1 : Int) (sets2 : Int) (m1 : Option Addr) (m1n : Nat) (m1c : Nat) (l1 : Option Addr) (l1n : Nat) (l1c : Nat) (w : World) (R : Bool → World → Prop) (h : V_pomanderlaw13_PolicyMore sets1 sets2 m1 m1n m1c l1 l1n l1c w R) : Calls Try.prog 3 #[.agg #[.int .u32 sets1, .int .u32 sets2], .slice m1 m1n m1c, .slice l1 l1n l1c] w (fun e w' => ∃ (r1 : Bool), e = .returned (.bool r1) ∧ R r1 w') := by
  unfold V_pomanderlaw13_PolicyMore at h
  refine enter (N := 90) Try.func3 rfl rfl ?_
  refine CW.seq ?_
  refine CW.region fun L hL => ?_
  obtain ⟨b1, hb_b1⟩ : ∃ b1, b1 = World.size w := ⟨_, rfl⟩
  obtain ⟨w1, hw_w1⟩ : ∃ w1, w1 = World.alloc w (.cells #[.int .u32 sets1, .int .u32 sets2] 23) := ⟨_, rfl⟩
  replace h := h b1 hb_b1 w1 hw_w1
  refine LW.val hL rfl (Wants.free rfl) rfl (boxE hb_b1 hw_w1 (Vl.box (v := .agg #[.int .u32 sets1, .int .u32 sets2]) rfl)) ?_
  refine LW.rd hL rfl (Wants.free rfl) rfl (Rd.assign (v := .bool false) rfl) ?_
  refine LW.nil hL rfl ?_
  refine NW.then ?_
  refine CW.seq ?_
  refine CW.seq ?_
  refine CW.region fun L hL => ?_
  refine LW.rd hL rfl (Wants.free rfl) rfl (Rd.move (v := .slice m1 m1n m1c) rfl) ?_
  refine LW.rd hL rfl (Wants.free rfl) rfl (Rd.move (v := .slice l1 l1n l1c) rfl) ?_
  refine LW.call hL rfl (Wants.free rfl) rfl (Cl.fn (f := 17) rfl Try.func17 (by kernel_rfl) rfl) h (fun e w2 h_ => ?_)
  clear h
  obtain ⟨r2, rfl, h⟩ := h_
  refine ⟨_, rfl, ?_⟩
  refine LW.rd hL rfl (Wants.free rfl) rfl (Rd.move (v := .bool r2) rfl) ?_
  obtain ⟨J1, hJ1, h1_J1, h0_J1⟩ := h
  suffices K1 : ∀ (b2 : Bool) (w3 : World), J1 b2 w3 → L 8 [(1, .slice m1 m1n m1c), (2, .slice l1 l1n l1c), (3, .pointer (some (⟨b1, 0, none⟩ : Addr))), (6, .bool false), (23, .bool b2)] w3 by
    rcases Bool.eq_false_or_eq_true r2 with hb1 | hb1
    · have h := h0_J1 hb1
      refine LW.skip hL rfl (Skips.on rfl rfl rfl rfl rfl hb1) rfl ?_
      refine LW.skip hL rfl (Skips.on rfl rfl rfl rfl rfl hb1) rfl ?_
      refine LW.skip hL rfl (Skips.on rfl rfl rfl rfl rfl hb1) rfl ?_
      refine LW.rd hL rfl (Wants.free rfl) rfl (Rd.pickT rfl hb1 rfl) ?_
      exact LW.sub hL (by exact ⟨rfl, rfl, rfl, rfl, rfl, trivial⟩) (K1 true w2 h)
    · have h := h1_J1 hb1
      obtain ⟨hi1, hi2, h⟩ := h
      refine LW.rd hL rfl (Wants.on rfl rfl rfl rfl rfl hb1) rfl (Rd.iaA (sz := 1) rfl rfl Try.underlying23 (by kernel_rfl) hi1 hi2) ?_
      obtain ⟨t1, hc1, h⟩ := h
      refine LW.rd hL rfl (Wants.on rfl rfl rfl rfl rfl hb1) rfl (Rd.ld (v := .int .u32 t1) rfl (by kernel_rfl) (eqs hc1)) ?_
      refine LW.rd hL rfl (Wants.on rfl rfl rfl rfl rfl hb1) rfl (Rd.bin (v := .bool (decide (t1 ≥ 65536))) rfl rfl (fun w => by kernel_rfl)) ?_
      refine LW.rd hL rfl (Wants.free rfl) rfl (Rd.pickF rfl hb1 rfl) ?_
      exact LW.sub hL (by exact ⟨rfl, rfl, rfl, rfl, rfl, trivial⟩) (K1 (decide (t1 ≥ 65536)) w2 h)
  intro b2 w3 h_
  have h := hJ1 b2 w3 h_; clear h_
  refine LW.rd hL rfl (Wants.free rfl) rfl (Rd.move (v := .bool b2) rfl) ?_
  obtain ⟨J2, hJ2, h1_J2, h0_J2⟩ := h
  suffices K2 : ∀ (b3 : Bool) (w4 : World), J2 b3 w4 → L 13 [(1, .slice m1 m1n m1c), (2, .slice l1 l1n l1c), (3, .pointer (some (⟨b1, 0, none⟩ : Addr))), (6, .bool false), (28, .bool b3)] w4 by
    rcases Bool.eq_false_or_eq_true b2 with hb2 | hb2
    · have h := h0_J2 hb2
      refine LW.skip hL rfl (Skips.on rfl rfl rfl rfl rfl hb2) rfl ?_
      refine LW.skip hL rfl (Skips.on rfl rfl rfl rfl rfl hb2) rfl ?_
      refine LW.skip hL rfl (Skips.on rfl rfl rfl rfl rfl hb2) rfl ?_
      refine LW.rd hL rfl (Wants.free rfl) rfl (Rd.pickT rfl hb2 rfl) ?_
      exact LW.sub hL (by exact ⟨rfl, rfl, rfl, rfl, rfl, trivial⟩) (K2 true w3 h)
    · have h := h1_J2 hb2
      obtain ⟨hi3, hi4, h⟩ := h
      refine LW.rd hL rfl (Wants.on rfl rfl rfl rfl rfl hb2) rfl (Rd.iaA (sz := 1) rfl rfl Try.underlying23 (by kernel_rfl) hi3 hi4) ?_
      obtain ⟨t2, hc2, h⟩ := h
      refine LW.rd hL rfl (Wants.on rfl rfl rfl rfl rfl hb2) rfl (Rd.ld (v := .int .u32 t2) rfl (by kernel_rfl) (eqs hc2)) ?_
      refine LW.rd hL rfl (Wants.on rfl rfl rfl rfl rfl hb2) rfl (Rd.bin (v := .bool (decide (t2 ≥ 65536))) rfl rfl (fun w => by kernel_rfl)) ?_
      refine LW.rd hL rfl (Wants.free rfl) rfl (Rd.pickF rfl hb2 rfl) ?_
      exact LW.sub hL (by exact ⟨rfl, rfl, rfl, rfl, rfl, trivial⟩) (K2 (decide (t2 ≥ 65536)) w3 h)
  intro b3 w4 h_
  have h := hJ2 b3 w4 h_; clear h_
  refine LW.nil hL rfl ?_
  refine NW.then ?_
  refine CW.cond rfl (fun hb3 => ?_) (fun hb3 => ?_)
  · replace h := h.1 hb3
    refine CW.seq ?_
    refine CW.region fun L hL => ?_
    refine LW.call hL rfl (Wants.free rfl) rfl (Cl.fn (f := 18) rfl Try.func18 (by kernel_rfl) rfl) h (fun e w5 h_ => ?_)
    clear h
    obtain ⟨r3, rfl, h⟩ := h_
    refine ⟨_, rfl, ?_⟩
    refine LW.rd hL rfl (Wants.free rfl) rfl (Rd.assign (v := .bool r3) rfl) ?_
    refine LW.nil hL rfl ?_
    refine NW.then ?_
    refine CW.ret ?_
    refine RW.then ?_
    exact res1 rfl rfl ⟨r3, rfl, h⟩
  · replace h := h.2 hb3
    refine CW.skip ?_
    refine NW.then ?_
    refine CW.seq ?_
    refine CW.region fun L hL => ?_
    refine LW.rd hL rfl (Wants.free rfl) rfl (Rd.move (v := .slice m1 m1n m1c) rfl) ?_
    refine LW.call hL rfl (Wants.free rfl) rfl (Cl.fn (f := 19) rfl Try.func19 (by kernel_rfl) rfl) h (fun e w6 h_ => ?_)
    clear h
    obtain ⟨r4, r5, r6, r7, r8, r8n, r8c, r9, r9n, r9c, rfl, h⟩ := h_
    refine ⟨_, rfl, ?_⟩
    refine LW.rd hL rfl (Wants.free rfl) rfl (Rd.move (v := .tuple #[.pointer r4, .agg #[.int .i64 r5, .int .i64 r6, .int .i64 r7, .slice r8 r8n r8c, .slice r9 r9n r9c]]) rfl) ?_
    refine LW.rd hL rfl (Wants.free rfl) rfl (Rd.extract (v := .pointer r4) rfl rfl) ?_
    refine LW.rd hL rfl (Wants.free rfl) rfl (Rd.extract (v := .agg #[.int .i64 r5, .int .i64 r6, .int .i64 r7, .slice r8 r8n r8c, .slice r9 r9n r9c]) rfl rfl) ?_
    obtain ⟨b4, hb_b4⟩ : ∃ b4, b4 = World.size w6 := ⟨_, rfl⟩
    obtain ⟨w7, hw_w7⟩ : ∃ w7, w7 = World.alloc w6 (.cells #[.int .i64 0, .int .i64 0, .int .i64 0, .slice none 0 0, .slice none 0 0] 36) := ⟨_, rfl⟩
    replace h := h b4 hb_b4 w7 hw_w7
    refine LW.val hL rfl (Wants.free rfl) rfl (boxE hb_b4 hw_w7 (Vl.alloc (z := .agg #[.int .i64 0, .int .i64 0, .int .i64 0, .slice none 0 0, .slice none 0 0]) (by kernel_rfl))) ?_
    refine LW.rd hL rfl (Wants.free rfl) rfl (Rd.assign (v := .pointer r4) rfl) ?_
    obtain ⟨ho1, hf1, h⟩ := h
    obtain ⟨w8, hw_w8⟩ : ∃ w8, w8 = setCells w7 (⟨b4, 0, none⟩ : Addr) 0 [.int .i64 r5, .int .i64 r6, .int .i64 r7, .slice r8 r8n r8c, .slice r9 r9n r9c] := ⟨_, rfl⟩
    replace h := h w8 hw_w8
    refine LW.eff hL rfl (Wants.free rfl) rfl (stNE hw_w8 (Ef.stN (cs := [.int .i64 r5, .int .i64 r6, .int .i64 r7, .slice r8 r8n r8c, .slice r9 r9n r9c]) rfl rfl (by kernel_rfl) (List.forall_mem_cons.2 ⟨rfl, (List.forall_mem_cons.2 ⟨rfl, (List.forall_mem_cons.2 ⟨rfl, (List.forall_mem_cons.2 ⟨rfl, (List.forall_mem_cons.2 ⟨rfl, (List.forall_mem_nil _)⟩)⟩)⟩)⟩)⟩) ho1 hf1)) ?_
    refine LW.nil hL rfl ?_
    refine NW.then ?_
    refine CW.seq ?_
    refine CW.region fun L hL => ?_
    refine LW.call hL rfl (Wants.free rfl) rfl (Cl.fn (f := 20) rfl Try.func20 (by kernel_rfl) rfl) h (fun e w9 h_ => ?_)
    clear h
    obtain ⟨r10, rfl, h⟩ := h_
    refine ⟨_, rfl, ?_⟩
    refine LW.rd hL rfl (Wants.free rfl) rfl (Rd.assign (v := .pointer r10) rfl) ?_
    refine LW.nil hL rfl ?_
    refine NW.then ?_
    refine CW.seq ?_
    refine CW.region fun L hL => ?_
    refine LW.rd hL rfl (Wants.free rfl) rfl (Rd.move (v := .pointer r10) rfl) ?_
    refine LW.rd hL rfl (Wants.free rfl) rfl (Rd.move (v := .pointer r4) rfl) ?_
    refine LW.rd hL rfl (Wants.free rfl) rfl (Rd.move (v := .slice l1 l1n l1c) rfl) ?_
    refine LW.call hL rfl (Wants.free rfl) rfl (Cl.fn (f := 21) rfl Try.func21 (by kernel_rfl) rfl) h (fun e w10 h_ => ?_)
    clear h
    obtain ⟨r11, r12, rfl, h⟩ := h_
    refine ⟨_, rfl, ?_⟩
    refine LW.rd hL rfl (Wants.free rfl) rfl (Rd.move (v := .tuple #[.bool r11, .int .i64 r12]) rfl) ?_
    refine LW.rd hL rfl (Wants.free rfl) rfl (Rd.extract (v := .bool r11) rfl rfl) ?_
    refine LW.rd hL rfl (Wants.free rfl) rfl (Rd.extract (v := .int .i64 r12) rfl rfl) ?_
    refine LW.rd hL rfl (Wants.free rfl) rfl (Rd.assign (v := .bool r11) rfl) ?_
    refine LW.rd hL rfl (Wants.free rfl) rfl (Rd.assign (v := .int .i64 r12) rfl) ?_
    refine LW.nil hL rfl ?_
    refine NW.then ?_
    refine CW.seq ?_
    refine CW.region fun L hL => ?_
    refine LW.rd hL rfl (Wants.free rfl) rfl (Rd.move (v := .pointer r10) rfl) ?_
    obtain ⟨hi5, hi6, h⟩ := h
    refine LW.rd hL rfl (Wants.free rfl) rfl (Rd.iaA (sz := 1) rfl rfl Try.underlying23 (by kernel_rfl) hi5 hi6) ?_
    obtain ⟨t3, hc3, h⟩ := h
    refine LW.rd hL rfl (Wants.free rfl) rfl (Rd.ld (v := .int .u32 t3) rfl (by kernel_rfl) (eqs hc3)) ?_
    refine LW.call hL rfl (Wants.free rfl) rfl (Cl.fn (f := 22) rfl Try.func22 (by kernel_rfl) rfl) h (fun e w11 h_ => ?_)
    clear h
    obtain ⟨r13, rfl, h⟩ := h_
    refine ⟨_, rfl, ?_⟩
    refine LW.nil hL rfl ?_
    refine NW.then ?_
    refine CW.seq ?_
    refine CW.region fun L hL => ?_
    refine LW.rd hL rfl (Wants.free rfl) rfl (Rd.move (v := .pointer r10) rfl) ?_
    refine LW.rd hL rfl (Wants.free rfl) rfl (Rd.move (v := .pointer r4) rfl) ?_
    refine LW.rd hL rfl (Wants.free rfl) rfl (Rd.move (v := .slice l1 l1n l1c) rfl) ?_
    refine LW.call hL rfl (Wants.free rfl) rfl (Cl.fn (f := 21) rfl Try.func21 (by kernel_rfl) rfl) h (fun e w12 h_ => ?_)
    clear h
    obtain ⟨r14, r15, rfl, h⟩ := h_
    refine ⟨_, rfl, ?_⟩
    refine LW.rd hL rfl (Wants.free rfl) rfl (Rd.move (v := .tuple #[.bool r14, .int .i64 r15]) rfl) ?_
    refine LW.rd hL rfl (Wants.free rfl) rfl (Rd.extract (v := .bool r14) rfl rfl) ?_
    refine LW.rd hL rfl (Wants.free rfl) rfl (Rd.extract (v := .int .i64 r15) rfl rfl) ?_
    refine LW.rd hL rfl (Wants.free rfl) rfl (Rd.assign (v := .bool r14) rfl) ?_
    refine LW.rd hL rfl (Wants.free rfl) rfl (Rd.assign (v := .int .i64 r15) rfl) ?_
    refine LW.nil hL rfl ?_
    refine NW.then ?_
    refine CW.seq ?_
    refine CW.region fun L hL => ?_
    refine LW.rd hL rfl (Wants.free rfl) rfl (Rd.move (v := .pointer r10) rfl) ?_
    obtain ⟨hi7, hi8, h⟩ := h
    refine LW.rd hL rfl (Wants.free rfl) rfl (Rd.iaA (sz := 1) rfl rfl Try.underlying23 (by kernel_rfl) hi7 hi8) ?_
    obtain ⟨t4, hc4, h⟩ := h
    refine LW.rd hL rfl (Wants.free rfl) rfl (Rd.ld (v := .int .u32 t4) rfl (by kernel_rfl) (eqs hc4)) ?_
    obtain ⟨hi9, hi10, h⟩ := h
    refine LW.rd hL rfl (Wants.free rfl) rfl (Rd.iaA (sz := 1) rfl rfl Try.underlying23 (by kernel_rfl) hi9 hi10) ?_
    obtain ⟨t5, hc5, h⟩ := h
    refine LW.rd hL rfl (Wants.free rfl) rfl (Rd.ld (v := .int .u32 t5) rfl (by kernel_rfl) (eqs hc5)) ?_
    refine LW.rd hL rfl (Wants.free rfl) rfl (Rd.bin (v := .int .u32 (bits .or .u32 t4 t5)) rfl rfl (fun w => by kernel_rfl)) ?_
    refine LW.call hL rfl (Wants.free rfl) rfl (Cl.fn (f := 22) rfl Try.func22 (by kernel_rfl) rfl) h (fun e w13 h_ => ?_)
    clear h
    obtain ⟨r16, rfl, h⟩ := h_
    refine ⟨_, rfl, ?_⟩
    refine LW.nil hL rfl ?_
    refine NW.then ?_
    refine CW.seq ?_
    refine CW.region fun L hL => ?_
    refine LW.rd hL rfl (Wants.free rfl) rfl (Rd.move (v := .pointer r10) rfl) ?_
    refine LW.rd hL rfl (Wants.free rfl) rfl (Rd.move (v := .pointer r4) rfl) ?_
    refine LW.rd hL rfl (Wants.free rfl) rfl (Rd.move (v := .slice l1 l1n l1c) rfl) ?_
    refine LW.call hL rfl (Wants.free rfl) rfl (Cl.fn (f := 21) rfl Try.func21 (by kernel_rfl) rfl) h (fun e w14 h_ => ?_)
    clear h
    obtain ⟨r17, r18, rfl, h⟩ := h_
    refine ⟨_, rfl, ?_⟩
    refine LW.rd hL rfl (Wants.free rfl) rfl (Rd.move (v := .tuple #[.bool r17, .int .i64 r18]) rfl) ?_
    refine LW.rd hL rfl (Wants.free rfl) rfl (Rd.extract (v := .bool r17) rfl rfl) ?_
    refine LW.rd hL rfl (Wants.free rfl) rfl (Rd.extract (v := .int .i64 r18) rfl rfl) ?_
    refine LW.rd hL rfl (Wants.free rfl) rfl (Rd.assign (v := .bool r17) rfl) ?_
    refine LW.rd hL rfl (Wants.free rfl) rfl (Rd.assign (v := .int .i64 r18) rfl) ?_
    refine LW.nil hL rfl ?_
    refine NW.then ?_
    refine CW.seq ?_
    refine CW.region fun L hL => ?_
    refine LW.rd hL rfl (Wants.free rfl) rfl (Rd.move (v := .int .i64 r12) rfl) ?_
    refine LW.rd hL rfl (Wants.free rfl) rfl (Rd.move (v := .int .i64 r15) rfl) ?_
    refine LW.rd hL rfl (Wants.free rfl) rfl (Rd.bin (v := .bool (r12 == r15)) rfl rfl (fun w => by kernel_rfl)) ?_
    refine LW.rd hL rfl (Wants.free rfl) rfl (Rd.move (v := .bool (r12 == r15)) rfl) ?_
    suffices K3 : L 8 [(6, .bool false), (10, .bool r11), (12, .bool r14), (14, .bool r17), (75, .bool (r12 == r15 && r15 == r18))] w14 by
      rcases Bool.eq_false_or_eq_true (r12 == r15) with hb5 | hb5
      · skip
        refine LW.rd hL rfl (Wants.on rfl rfl rfl rfl rfl hb5) rfl (Rd.move (v := .int .i64 r15) rfl) ?_
        refine LW.rd hL rfl (Wants.on rfl rfl rfl rfl rfl hb5) rfl (Rd.move (v := .int .i64 r18) rfl) ?_
        refine LW.rd hL rfl (Wants.on rfl rfl rfl rfl rfl hb5) rfl (Rd.bin (v := .bool (r15 == r18)) rfl rfl (fun w => by kernel_rfl)) ?_
        refine LW.rd hL rfl (Wants.free rfl) rfl (Rd.pickT rfl hb5 rfl) ?_
        exact LW.sub hL (by exact ⟨rfl, rfl, rfl, rfl, (by rw [hb5]; rfl), trivial⟩) K3
      · skip
        refine LW.skip hL rfl (Skips.on rfl rfl rfl rfl rfl hb5) rfl ?_
        refine LW.skip hL rfl (Skips.on rfl rfl rfl rfl rfl hb5) rfl ?_
        refine LW.skip hL rfl (Skips.on rfl rfl rfl rfl rfl hb5) rfl ?_
        refine LW.rd hL rfl (Wants.free rfl) rfl (Rd.pickF rfl hb5 rfl) ?_
        exact LW.sub hL (by exact ⟨rfl, rfl, rfl, rfl, (by rw [hb5]; rfl), trivial⟩) K3
    refine LW.rd hL rfl (Wants.free rfl) rfl (Rd.move (v := .bool (r12 == r15 && r15 == r18)) rfl) ?_
    suffices K4 : L 12 [(6, .bool false), (12, .bool r14), (14, .bool r17), (79, .bool ((r12 == r15 && r15 == r18) && !r11))] w14 by
      rcases Bool.eq_false_or_eq_true (r12 == r15 && r15 == r18) with hb7 | hb7
      · skip
        refine LW.rd hL rfl (Wants.on rfl rfl rfl rfl rfl hb7) rfl (Rd.move (v := .bool r11) rfl) ?_
        refine LW.rd hL rfl (Wants.on rfl rfl rfl rfl rfl hb7) rfl (Rd.un (v := .bool (!r11)) rfl (fun _ => by kernel_rfl)) ?_
        refine LW.rd hL rfl (Wants.free rfl) rfl (Rd.pickT rfl hb7 rfl) ?_
        exact LW.sub hL (by exact ⟨rfl, rfl, rfl, (by rw [hb7]; rfl), trivial⟩) K4
      · skip
        refine LW.skip hL rfl (Skips.on rfl rfl rfl rfl rfl hb7) rfl ?_
        refine LW.skip hL rfl (Skips.on rfl rfl rfl rfl rfl hb7) rfl ?_
        refine LW.rd hL rfl (Wants.free rfl) rfl (Rd.pickF rfl hb7 rfl) ?_
        exact LW.sub hL (by exact ⟨rfl, rfl, rfl, (by rw [hb7]; rfl), trivial⟩) K4
    refine LW.rd hL rfl (Wants.free rfl) rfl (Rd.move (v := .bool ((r12 == r15 && r15 == r18) && !r11)) rfl) ?_
    suffices K5 : L 19 [(6, .bool false), (86, .bool (((r12 == r15 && r15 == r18) && !r11) && (!r14 || r17)))] w14 by
      rcases Bool.eq_false_or_eq_true ((r12 == r15 && r15 == r18) && !r11) with hb9 | hb9
      · skip
        refine LW.rd hL rfl (Wants.on rfl rfl rfl rfl rfl hb9) rfl (Rd.move (v := .bool r14) rfl) ?_
        refine LW.rd hL rfl (Wants.on rfl rfl rfl rfl rfl hb9) rfl (Rd.un (v := .bool (!r14)) rfl (fun _ => by kernel_rfl)) ?_
        refine LW.rd hL rfl (Wants.on rfl rfl rfl rfl rfl hb9) rfl (Rd.move (v := .bool (!r14)) rfl) ?_
        suffices K6 : L 18 [(6, .bool false), (80, .bool ((r12 == r15 && r15 == r18) && !r11)), (85, .bool (!r14 || r17))] w14 by
          rcases Bool.eq_false_or_eq_true (!r14) with hb11 | hb11
          · skip
            refine LW.skip hL rfl (Skips.on rfl rfl rfl rfl rfl hb11) rfl ?_
            refine LW.rd hL rfl (Wants.on rfl rfl rfl rfl rfl hb9) rfl (Rd.pickT rfl hb11 rfl) ?_
            exact LW.sub hL (by exact ⟨rfl, rfl, (by rw [hb11]; rfl), trivial⟩) K6
          · skip
            refine LW.rd hL rfl (Wants.on rfl rfl rfl rfl rfl hb11) rfl (Rd.move (v := .bool r17) rfl) ?_
            refine LW.rd hL rfl (Wants.on rfl rfl rfl rfl rfl hb9) rfl (Rd.pickF rfl hb11 rfl) ?_
            exact LW.sub hL (by exact ⟨rfl, rfl, (by rw [hb11]; rfl), trivial⟩) K6
        refine LW.rd hL rfl (Wants.free rfl) rfl (Rd.pickT rfl hb9 rfl) ?_
        exact LW.sub hL (by exact ⟨rfl, (by rw [hb9]; rfl), trivial⟩) K5
      · skip
        refine LW.skip hL rfl (Skips.on rfl rfl rfl rfl rfl hb9) rfl ?_
        refine LW.skip hL rfl (Skips.on rfl rfl rfl rfl rfl hb9) rfl ?_
        refine LW.skip hL rfl (Skips.on rfl rfl rfl rfl rfl hb9) rfl ?_
        refine LW.skip hL rfl (Skips.un rfl rfl rfl rfl rfl) rfl ?_
        refine LW.skip hL rfl (Skips.on rfl rfl rfl rfl rfl hb9) rfl ?_
        refine LW.rd hL rfl (Wants.free rfl) rfl (Rd.pickF rfl hb9 rfl) ?_
        exact LW.sub hL (by exact ⟨rfl, (by rw [hb9]; rfl), trivial⟩) K5
    refine LW.rd hL rfl (Wants.free rfl) rfl (Rd.move (v := .bool (((r12 == r15 && r15 == r18) && !r11) && (!r14 || r17))) rfl) ?_
    obtain ⟨J3, hJ3, h1_J3, h0_J3⟩ := h
    suffices K7 : ∀ (b5 : Bool) (w15 : World), J3 b5 w15 → L 22 [(6, .bool false), (89, .bool b5)] w15 by
      rcases Bool.eq_false_or_eq_true (((r12 == r15 && r15 == r18) && !r11) && (!r14 || r17)) with hb12 | hb12
      · have h := h1_J3 hb12
        refine LW.call hL rfl (Wants.on rfl rfl rfl rfl rfl hb12) rfl (Cl.fn (f := 18) rfl Try.func18 (by kernel_rfl) rfl) h (fun e w16 h_ => ?_)
        clear h
        obtain ⟨r19, rfl, h⟩ := h_
        refine ⟨_, rfl, ?_⟩
        refine LW.rd hL rfl (Wants.free rfl) rfl (Rd.pickT rfl hb12 rfl) ?_
        exact LW.sub hL (by exact ⟨rfl, rfl, trivial⟩) (K7 r19 w16 h)
      · have h := h0_J3 hb12
        refine LW.skip hL rfl (Skips.on rfl rfl rfl rfl rfl hb12) rfl ?_
        refine LW.rd hL rfl (Wants.free rfl) rfl (Rd.pickF rfl hb12 rfl) ?_
        exact LW.sub hL (by exact ⟨rfl, rfl, trivial⟩) (K7 false w14 h)
    intro b5 w15 h_
    have h := hJ3 b5 w15 h_; clear h_
    refine LW.rd hL rfl (Wants.free rfl) rfl (Rd.assign (v := .bool b5) rfl) ?_
    refine LW.nil hL rfl ?_
    refine NW.then ?_
    refine CW.ret ?_
    exact res1 rfl rfl ⟨b5, rfl, h⟩

/- pomander/pomanderlaw13.broad -/
def V_pomanderlaw13_broad (m1 : Option Addr) (m1n : Nat) (m1c : Nat) (l1 : Option Addr) (l1n : Nat) (l1c : Nat) (w : World) (R : Bool → World → Prop) : Prop :=
  ((decide ((m1n : Int) > 30) || decide ((l1n : Int) > 20)) = true → R true w) ∧ ((decide ((m1n : Int) > 30) || decide ((l1n : Int) > 20)) = false → ∃ (I1 : Bool × Int → World → Prop) (m2 : Bool × Int → World → Nat), I1 (false, 0) w ∧ ∀ (s1 : Bool × Int) (w1 : World), I1 s1 w1 → ((decide (s1.2 < (l1n : Int))) = true → ∃ a1 : Addr, l1 = some a1 ∧ (0 : Int) ≤ s1.2 ∧ s1.2 < (l1n : Int) ∧ (∃ (t1 : Option Addr) (t1n : Nat) (t1c : Nat), w1.cell? ((a1.add (Int.toNat s1.2 * 3)).add 2) = some (.slice t1 t1n t1c) ∧ (((decide ((t1n : Int) > 20)) = true → R true w1) ∧ ((decide ((t1n : Int) > 20)) = false → (I1 (s1.1, IntKind.wrap .i64 (s1.2 + 1)) w1 ∧ m2 (s1.1, IntKind.wrap .i64 (s1.2 + 1)) w1 < m2 s1 w1))))) ∧ ((decide (s1.2 < (l1n : Int))) = false → R false w1))
set_option maxRecDepth 100000 in
theorem ok_pomanderlaw13_broad (m1 : Option Addr) (m1n : Nat) (m1c : Nat) (l1 : Option Addr) (l1n : Nat) (l1c : Nat) (w : World) (R : Bool → World → Prop) (h : V_pomanderlaw13_broad m1 m1n m1c l1 l1n l1c w R) : Calls Try.prog 17 #[.slice m1 m1n m1c, .slice l1 l1n l1c] w (fun e w' => ∃ (r1 : Bool), e = .returned (.bool r1) ∧ R r1 w') := by
  unfold V_pomanderlaw13_broad at h
  refine enter (N := 27) Try.func17 rfl rfl ?_
  refine CW.seq ?_
  refine CW.region fun L hL => ?_
  refine LW.rd hL rfl (Wants.free rfl) rfl (Rd.assign (v := .bool false) rfl) ?_
  refine LW.nil hL rfl ?_
  refine NW.then ?_
  refine CW.seq ?_
  refine CW.seq ?_
  refine CW.region fun L hL => ?_
  refine LW.rd hL rfl (Wants.free rfl) rfl (Rd.move (v := .slice m1 m1n m1c) rfl) ?_
  refine LW.rd hL rfl (Wants.free rfl) rfl (Rd.builtin (v := .int .i64 (m1n : Int)) rfl (fun _ _ => by kernel_rfl)) ?_
  refine LW.rd hL rfl (Wants.free rfl) rfl (Rd.bin (v := .bool (decide ((m1n : Int) > 30))) rfl rfl (fun w => by kernel_rfl)) ?_
  refine LW.rd hL rfl (Wants.free rfl) rfl (Rd.move (v := .bool (decide ((m1n : Int) > 30))) rfl) ?_
  suffices K1 : L 8 [(1, .slice l1 l1n l1c), (4, .bool false), (13, .bool (decide ((m1n : Int) > 30) || decide ((l1n : Int) > 20)))] w by
    rcases Bool.eq_false_or_eq_true (decide ((m1n : Int) > 30)) with hb2 | hb2
    · skip
      refine LW.skip hL rfl (Skips.on rfl rfl rfl rfl rfl hb2) rfl ?_
      refine LW.skip hL rfl (Skips.on rfl rfl rfl rfl rfl hb2) rfl ?_
      refine LW.skip hL rfl (Skips.on rfl rfl rfl rfl rfl hb2) rfl ?_
      refine LW.rd hL rfl (Wants.free rfl) rfl (Rd.pickT rfl hb2 rfl) ?_
      exact LW.sub hL (by exact ⟨rfl, rfl, (by rw [hb2]; rfl), trivial⟩) K1
    · skip
      refine LW.rd hL rfl (Wants.on rfl rfl rfl rfl rfl hb2) rfl (Rd.move (v := .slice l1 l1n l1c) rfl) ?_
      refine LW.rd hL rfl (Wants.on rfl rfl rfl rfl rfl hb2) rfl (Rd.builtin (v := .int .i64 (l1n : Int)) rfl (fun _ _ => by kernel_rfl)) ?_
      refine LW.rd hL rfl (Wants.on rfl rfl rfl rfl rfl hb2) rfl (Rd.bin (v := .bool (decide ((l1n : Int) > 20))) rfl rfl (fun w => by kernel_rfl)) ?_
      refine LW.rd hL rfl (Wants.free rfl) rfl (Rd.pickF rfl hb2 rfl) ?_
      exact LW.sub hL (by exact ⟨rfl, rfl, (by rw [hb2]; rfl), trivial⟩) K1
  refine LW.nil hL rfl ?_
  refine NW.then ?_
  refine CW.cond rfl (fun hb3 => ?_) (fun hb3 => ?_)
  · replace h := h.1 hb3
    refine CW.seq ?_
    refine CW.region fun L hL => ?_
    refine LW.rd hL rfl (Wants.free rfl) rfl (Rd.assign (v := .bool true) rfl) ?_
    refine LW.nil hL rfl ?_
    refine NW.then ?_
    refine CW.ret ?_
    refine RW.then ?_
    exact res1 rfl rfl ⟨true, rfl, h⟩
  · replace h := h.2 hb3
    refine CW.skip ?_
    refine NW.then ?_
    refine CW.seq ?_
    refine CW.seq ?_
    refine CW.region fun L hL => ?_
    refine LW.rd hL rfl (Wants.free rfl) rfl (Rd.assign (v := .int .i64 0) rfl) ?_
    refine LW.nil hL rfl ?_
    refine NW.then ?_
    refine CW.block ?_
    obtain ⟨I1, m2, hI1, h⟩ := h
    refine CW.loop (S := Bool × Int) (fun s1 => [(1, .slice l1 l1n l1c), (4, .bool s1.1), (5, .int .i64 s1.2)]) I1 m2 (false, 0) (by exact ⟨rfl, rfl, rfl, trivial⟩) hI1 (fun s1 w1 hI1 => ?_)
    replace h := h s1 w1 hI1
    refine CW.seq ?_
    refine CW.seq ?_
    refine CW.region fun L hL => ?_
    refine LW.rd hL rfl (Wants.free rfl) rfl (Rd.move (v := .int .i64 s1.2) rfl) ?_
    refine LW.rd hL rfl (Wants.free rfl) rfl (Rd.move (v := .slice l1 l1n l1c) rfl) ?_
    refine LW.rd hL rfl (Wants.free rfl) rfl (Rd.builtin (v := .int .i64 (l1n : Int)) rfl (fun _ _ => by kernel_rfl)) ?_
    refine LW.rd hL rfl (Wants.free rfl) rfl (Rd.bin (v := .bool (decide (s1.2 < (l1n : Int)))) rfl rfl (fun w => by kernel_rfl)) ?_
    refine LW.nil hL rfl ?_
    refine NW.then ?_
    refine CW.cond rfl (fun hb4 => ?_) (fun hb4 => ?_)
    · replace h := h.1 hb4
      refine CW.skip ?_
      refine NW.then ?_
      refine CW.seq ?_
      refine CW.block ?_
      refine CW.seq ?_
      refine CW.region fun L hL => ?_
      refine LW.rd hL rfl (Wants.free rfl) rfl (Rd.move (v := .slice l1 l1n l1c) rfl) ?_
      refine LW.rd hL rfl (Wants.free rfl) rfl (Rd.move (v := .int .i64 s1.2) rfl) ?_
      obtain ⟨a1, he1, hi1, hi2, h⟩ := h
      refine LW.rd hL rfl (Wants.free rfl) rfl (Rd.iaS (q := a1) (sz := 3) (by rw [← he1]; rfl) rfl Try.underlying25 (by kernel_rfl) hi1 hi2) ?_
      refine LW.rd hL rfl (Wants.free rfl) rfl (Rd.fa (v := .pointer (some ((a1.add (Int.toNat s1.2 * 3)).add 2))) rfl (fun _ => by kernel_rfl)) ?_
      obtain ⟨t1, t1n, t1c, hc1, h⟩ := h
      refine LW.rd hL rfl (Wants.free rfl) rfl (Rd.ld (v := .slice t1 t1n t1c) rfl (by kernel_rfl) (eqs hc1)) ?_
      refine LW.rd hL rfl (Wants.free rfl) rfl (Rd.builtin (v := .int .i64 (t1n : Int)) rfl (fun _ _ => by kernel_rfl)) ?_
      refine LW.rd hL rfl (Wants.free rfl) rfl (Rd.bin (v := .bool (decide ((t1n : Int) > 20))) rfl rfl (fun w => by kernel_rfl)) ?_
      refine LW.nil hL rfl ?_
      refine NW.then ?_
      refine CW.cond rfl (fun hb5 => ?_) (fun hb5 => ?_)
      · replace h := h.1 hb5
        refine CW.seq ?_
        refine CW.region fun L hL => ?_
        refine LW.rd hL rfl (Wants.free rfl) rfl (Rd.assign (v := .bool true) rfl) ?_
        refine LW.nil hL rfl ?_
        refine NW.then ?_
        refine CW.ret ?_
        refine RW.block ?_
        refine RW.then ?_
        refine RW.then ?_
        refine RW.block ?_
        refine RW.then ?_
        exact res1 rfl rfl ⟨true, rfl, h⟩
      · replace h := h.2 hb5
        refine CW.skip ?_
        refine NW.block ?_
        refine NW.then ?_
        refine CW.region fun L hL => ?_
        refine LW.rd hL rfl (Wants.free rfl) rfl (Rd.move (v := .int .i64 s1.2) rfl) ?_
        refine LW.rd hL rfl (Wants.free rfl) rfl (Rd.bin (v := .int .i64 (IntKind.wrap .i64 (s1.2 + 1))) rfl rfl (fun w => by kernel_rfl)) ?_
        refine LW.rd hL rfl (Wants.free rfl) rfl (Rd.assign (v := .int .i64 (IntKind.wrap .i64 (s1.2 + 1))) rfl) ?_
        refine LW.nil hL rfl ?_
        exact NW.loop (S := Bool × Int) (Ek := fun s1 => [(1, .slice l1 l1n l1c), (4, .bool s1.1), (5, .int .i64 s1.2)]) (s1.1, IntKind.wrap .i64 (s1.2 + 1)) (by exact ⟨rfl, rfl, rfl, trivial⟩) h
    · replace h := h.2 hb4
      refine CW.exit ?_
      refine XW.then ?_
      refine XW.then ?_
      refine XW.hit ?_
      refine NW.then ?_
      refine CW.seq ?_
      refine CW.region fun L hL => ?_
      refine LW.rd hL rfl (Wants.free rfl) rfl (Rd.assign (v := .bool false) rfl) ?_
      refine LW.nil hL rfl ?_
      refine NW.then ?_
      refine CW.ret ?_
      exact res1 rfl rfl ⟨false, rfl, h⟩

/- pomander/pomanderlaw13.known -/
def V_pomanderlaw13_known  (w : World) (R : Bool → World → Prop) : Prop :=
  Calls Try.prog 20 #[] w fun e w1 => ∃ (r2 : Option Addr), e = .returned (.pointer r2) ∧ (Calls Try.prog 22 #[.pointer r2, .int .u32 1] w1 fun e w2 => ∃ (r3 : Int), e = .returned (.int .i64 r3) ∧ (Calls Try.prog 25 #[.agg #[.int .i64 1, .int .i64 1], .int .i64 4] w2 fun e w3 => ∃ (r4 : Option Addr) (r5 : Int), e = .returned (.tuple #[.pointer r4, .int .i64 r5]) ∧ (∀ b1 : Nat, b1 = World.size w3 → ∀ w4 : World, w4 = World.alloc w3 (.cells #[.int .i64 0, .int .i64 0] 56) → (Has w4 (⟨b1, 0, none⟩ : Addr) 2 ∧ Free w4 (⟨b1, 0, none⟩ : Addr) 2 ∧ ∀ w5 : World, w5 = setCells w4 (⟨b1, 0, none⟩ : Addr) 0 [.int .i64 13, .int .i64 0] → (∃ (t1 : Int) (t2 : Int), CellsAt w5 (⟨b1, 0, none⟩ : Addr) 0 [.int .i64 t1, .int .i64 t2] ∧ (Calls Try.prog 36 #[.pointer r4, .agg #[.int .i64 t1, .int .i64 t2], .int .i64 1, .int .u32 1] w5 fun e w6 => ∃ (r6 : Int), e = .returned (.int .i64 r6) ∧ (∃ (t3 : Int) (t4 : Int), CellsAt w6 (⟨b1, 0, none⟩ : Addr) 0 [.int .i64 t3, .int .i64 t4] ∧ (∀ b2 : Nat, b2 = World.size w6 → ∀ w7 : World, w7 = World.alloc w6 (.cells #[.int .i64 t3, .int .i64 t4] 56) → (∀ b3 : Nat, b3 = World.size w7 → ∀ w8 : World, w8 = World.alloc w7 (.cells #[.int .i64 0, .int .i64 0, .slice (some (⟨b2, 0, none⟩ : Addr)) 1 1] 81) → (Calls Try.prog 21 #[.pointer r2, .pointer r4, .slice (some (⟨b3, 0, none⟩ : Addr)) 1 1] w8 fun e w9 => ∃ (r7 : Bool) (r8 : Int), e = .returned (.tuple #[.bool r7, .int .i64 r8]) ∧ (∃ (t5 : Int) (t6 : Int), CellsAt w9 (⟨b1, 0, none⟩ : Addr) 0 [.int .i64 t5, .int .i64 t6] ∧ (∃ (t7 : Int) (t8 : Int), CellsAt w9 (⟨b1, 0, none⟩ : Addr) 0 [.int .i64 t7, .int .i64 t8] ∧ (∀ b4 : Nat, b4 = World.size w9 → ∀ w10 : World, w10 = World.alloc w9 (.cells #[.int .i64 t7, .int .i64 t8] 56) → (∀ b5 : Nat, b5 = World.size w10 → ∀ w11 : World, w11 = World.alloc w10 (.cells #[.int .i64 t5, .int .i64 t6, .slice (some (⟨b4, 0, none⟩ : Addr)) 1 1] 81) → (Calls Try.prog 21 #[.pointer r2, .pointer r4, .slice (some (⟨b5, 0, none⟩ : Addr)) 1 1] w11 fun e w12 => ∃ (r9 : Bool) (r10 : Int), e = .returned (.tuple #[.bool r9, .int .i64 r10]) ∧ (R ((((r3 == 0 && r7) && r8 == 0) && !r9) && r10 == 0) w12))))))))))))))))
set_option maxRecDepth 100000 in
theorem ok_pomanderlaw13_known  (w : World) (R : Bool → World → Prop) (h : V_pomanderlaw13_known  w R) : Calls Try.prog 18 #[] w (fun e w' => ∃ (r1 : Bool), e = .returned (.bool r1) ∧ R r1 w') := by
  unfold V_pomanderlaw13_known at h
  refine enter (N := 60) Try.func18 rfl rfl ?_
  refine CW.seq ?_
  refine CW.region fun L hL => ?_
  refine LW.rd hL rfl (Wants.free rfl) rfl (Rd.assign (v := .bool false) rfl) ?_
  refine LW.nil hL rfl ?_
  refine NW.then ?_
  refine CW.seq ?_
  refine CW.region fun L hL => ?_
  refine LW.call hL rfl (Wants.free rfl) rfl (Cl.fn (f := 20) rfl Try.func20 (by kernel_rfl) rfl) h (fun e w1 h_ => ?_)
  clear h
  obtain ⟨r2, rfl, h⟩ := h_
  refine ⟨_, rfl, ?_⟩
  refine LW.rd hL rfl (Wants.free rfl) rfl (Rd.assign (v := .pointer r2) rfl) ?_
  refine LW.nil hL rfl ?_
  refine NW.then ?_
  refine CW.seq ?_
  refine CW.region fun L hL => ?_
  refine LW.rd hL rfl (Wants.free rfl) rfl (Rd.move (v := .pointer r2) rfl) ?_
  refine LW.call hL rfl (Wants.free rfl) rfl (Cl.fn (f := 22) rfl Try.func22 (by kernel_rfl) rfl) h (fun e w2 h_ => ?_)
  clear h
  obtain ⟨r3, rfl, h⟩ := h_
  refine ⟨_, rfl, ?_⟩
  refine LW.rd hL rfl (Wants.free rfl) rfl (Rd.assign (v := .int .i64 r3) rfl) ?_
  refine LW.nil hL rfl ?_
  refine NW.then ?_
  refine CW.seq ?_
  refine CW.region fun L hL => ?_
  refine LW.rd hL rfl (Wants.free rfl) rfl (Rd.build (v := .agg #[.int .i64 1, .int .i64 1]) rfl (fun _ => by kernel_rfl)) ?_
  refine LW.call hL rfl (Wants.free rfl) rfl (Cl.fn (f := 25) rfl Try.func25 (by kernel_rfl) rfl) h (fun e w3 h_ => ?_)
  clear h
  obtain ⟨r4, r5, rfl, h⟩ := h_
  refine ⟨_, rfl, ?_⟩
  refine LW.rd hL rfl (Wants.free rfl) rfl (Rd.move (v := .tuple #[.pointer r4, .int .i64 r5]) rfl) ?_
  refine LW.rd hL rfl (Wants.free rfl) rfl (Rd.extract (v := .pointer r4) rfl rfl) ?_
  refine LW.rd hL rfl (Wants.free rfl) rfl (Rd.extract (v := .int .i64 r5) rfl rfl) ?_
  refine LW.rd hL rfl (Wants.free rfl) rfl (Rd.assign (v := .pointer r4) rfl) ?_
  refine LW.rd hL rfl (Wants.free rfl) rfl (Rd.assign (v := .int .i64 r5) rfl) ?_
  refine LW.nil hL rfl ?_
  refine NW.then ?_
  refine CW.seq ?_
  refine CW.region fun L hL => ?_
  refine LW.rd hL rfl (Wants.free rfl) rfl (Rd.build (v := .agg #[.int .i64 13, .int .i64 0]) rfl (fun _ => by kernel_rfl)) ?_
  obtain ⟨b1, hb_b1⟩ : ∃ b1, b1 = World.size w3 := ⟨_, rfl⟩
  obtain ⟨w4, hw_w4⟩ : ∃ w4, w4 = World.alloc w3 (.cells #[.int .i64 0, .int .i64 0] 56) := ⟨_, rfl⟩
  replace h := h b1 hb_b1 w4 hw_w4
  refine LW.val hL rfl (Wants.free rfl) rfl (boxE hb_b1 hw_w4 (Vl.alloc (z := .agg #[.int .i64 0, .int .i64 0]) (by kernel_rfl))) ?_
  obtain ⟨ho1, hf1, h⟩ := h
  obtain ⟨w5, hw_w5⟩ : ∃ w5, w5 = setCells w4 (⟨b1, 0, none⟩ : Addr) 0 [.int .i64 13, .int .i64 0] := ⟨_, rfl⟩
  replace h := h w5 hw_w5
  refine LW.eff hL rfl (Wants.free rfl) rfl (stNE hw_w5 (Ef.stN (cs := [.int .i64 13, .int .i64 0]) rfl rfl (by kernel_rfl) (List.forall_mem_cons.2 ⟨rfl, (List.forall_mem_cons.2 ⟨rfl, (List.forall_mem_nil _)⟩)⟩) ho1 hf1)) ?_
  refine LW.nil hL rfl ?_
  refine NW.then ?_
  refine CW.seq ?_
  refine CW.region fun L hL => ?_
  refine LW.rd hL rfl (Wants.free rfl) rfl (Rd.move (v := .pointer r4) rfl) ?_
  obtain ⟨t1, t2, hc1, h⟩ := h
  refine LW.rd hL rfl (Wants.free rfl) rfl (Rd.ldN (cs := [.int .i64 t1, .int .i64 t2]) rfl (by kernel_rfl) (by kernel_rfl) (cellsS hc1)) ?_
  refine LW.call hL rfl (Wants.free rfl) rfl (Cl.fn (f := 36) rfl Try.func36 (by kernel_rfl) rfl) h (fun e w6 h_ => ?_)
  clear h
  obtain ⟨r6, rfl, h⟩ := h_
  refine ⟨_, rfl, ?_⟩
  refine LW.nil hL rfl ?_
  refine NW.then ?_
  refine CW.seq ?_
  refine CW.region fun L hL => ?_
  refine LW.rd hL rfl (Wants.free rfl) rfl (Rd.move (v := .pointer r2) rfl) ?_
  refine LW.rd hL rfl (Wants.free rfl) rfl (Rd.move (v := .pointer r4) rfl) ?_
  obtain ⟨t3, t4, hc2, h⟩ := h
  refine LW.rd hL rfl (Wants.free rfl) rfl (Rd.ldN (cs := [.int .i64 t3, .int .i64 t4]) rfl (by kernel_rfl) (by kernel_rfl) (cellsS hc2)) ?_
  obtain ⟨b2, hb_b2⟩ : ∃ b2, b2 = World.size w6 := ⟨_, rfl⟩
  obtain ⟨w7, hw_w7⟩ : ∃ w7, w7 = World.alloc w6 (.cells #[.int .i64 t3, .int .i64 t4] 56) := ⟨_, rfl⟩
  replace h := h b2 hb_b2 w7 hw_w7
  refine LW.val hL rfl (Wants.free rfl) rfl (sliceE (n := 1) hb_b2 hw_w7 (fun w => Vl.buildSlice (vs := [(0, .agg #[.int .i64 t3, .int .i64 t4])]) rfl (by kernel_rfl))) ?_
  refine LW.rd hL rfl (Wants.free rfl) rfl (Rd.build (v := .agg #[.int .i64 0, .int .i64 0, .slice (some (⟨b2, 0, none⟩ : Addr)) 1 1]) rfl (fun _ => by kernel_rfl)) ?_
  obtain ⟨b3, hb_b3⟩ : ∃ b3, b3 = World.size w7 := ⟨_, rfl⟩
  obtain ⟨w8, hw_w8⟩ : ∃ w8, w8 = World.alloc w7 (.cells #[.int .i64 0, .int .i64 0, .slice (some (⟨b2, 0, none⟩ : Addr)) 1 1] 81) := ⟨_, rfl⟩
  replace h := h b3 hb_b3 w8 hw_w8
  refine LW.val hL rfl (Wants.free rfl) rfl (sliceE (n := 1) hb_b3 hw_w8 (fun w => Vl.buildSlice (vs := [(0, .agg #[.int .i64 0, .int .i64 0, .slice (some (⟨b2, 0, none⟩ : Addr)) 1 1])]) rfl (by kernel_rfl))) ?_
  refine LW.call hL rfl (Wants.free rfl) rfl (Cl.fn (f := 21) rfl Try.func21 (by kernel_rfl) rfl) h (fun e w9 h_ => ?_)
  clear h
  obtain ⟨r7, r8, rfl, h⟩ := h_
  refine ⟨_, rfl, ?_⟩
  refine LW.rd hL rfl (Wants.free rfl) rfl (Rd.move (v := .tuple #[.bool r7, .int .i64 r8]) rfl) ?_
  refine LW.rd hL rfl (Wants.free rfl) rfl (Rd.extract (v := .bool r7) rfl rfl) ?_
  refine LW.rd hL rfl (Wants.free rfl) rfl (Rd.extract (v := .int .i64 r8) rfl rfl) ?_
  refine LW.rd hL rfl (Wants.free rfl) rfl (Rd.assign (v := .bool r7) rfl) ?_
  refine LW.rd hL rfl (Wants.free rfl) rfl (Rd.assign (v := .int .i64 r8) rfl) ?_
  refine LW.nil hL rfl ?_
  refine NW.then ?_
  refine CW.seq ?_
  refine CW.region fun L hL => ?_
  refine LW.rd hL rfl (Wants.free rfl) rfl (Rd.move (v := .pointer r2) rfl) ?_
  refine LW.rd hL rfl (Wants.free rfl) rfl (Rd.move (v := .pointer r4) rfl) ?_
  obtain ⟨t5, t6, hc3, h⟩ := h
  refine LW.rd hL rfl (Wants.free rfl) rfl (Rd.ldN (cs := [.int .i64 t5, .int .i64 t6]) rfl (by kernel_rfl) (by kernel_rfl) (cellsS hc3)) ?_
  obtain ⟨t7, t8, hc4, h⟩ := h
  refine LW.rd hL rfl (Wants.free rfl) rfl (Rd.ldN (cs := [.int .i64 t7, .int .i64 t8]) rfl (by kernel_rfl) (by kernel_rfl) (cellsS hc4)) ?_
  obtain ⟨b4, hb_b4⟩ : ∃ b4, b4 = World.size w9 := ⟨_, rfl⟩
  obtain ⟨w10, hw_w10⟩ : ∃ w10, w10 = World.alloc w9 (.cells #[.int .i64 t7, .int .i64 t8] 56) := ⟨_, rfl⟩
  replace h := h b4 hb_b4 w10 hw_w10
  refine LW.val hL rfl (Wants.free rfl) rfl (sliceE (n := 1) hb_b4 hw_w10 (fun w => Vl.buildSlice (vs := [(0, .agg #[.int .i64 t7, .int .i64 t8])]) rfl (by kernel_rfl))) ?_
  refine LW.rd hL rfl (Wants.free rfl) rfl (Rd.build (v := .agg #[.int .i64 t5, .int .i64 t6, .slice (some (⟨b4, 0, none⟩ : Addr)) 1 1]) rfl (fun _ => by kernel_rfl)) ?_
  obtain ⟨b5, hb_b5⟩ : ∃ b5, b5 = World.size w10 := ⟨_, rfl⟩
  obtain ⟨w11, hw_w11⟩ : ∃ w11, w11 = World.alloc w10 (.cells #[.int .i64 t5, .int .i64 t6, .slice (some (⟨b4, 0, none⟩ : Addr)) 1 1] 81) := ⟨_, rfl⟩
  replace h := h b5 hb_b5 w11 hw_w11
  refine LW.val hL rfl (Wants.free rfl) rfl (sliceE (n := 1) hb_b5 hw_w11 (fun w => Vl.buildSlice (vs := [(0, .agg #[.int .i64 t5, .int .i64 t6, .slice (some (⟨b4, 0, none⟩ : Addr)) 1 1])]) rfl (by kernel_rfl))) ?_
  refine LW.call hL rfl (Wants.free rfl) rfl (Cl.fn (f := 21) rfl Try.func21 (by kernel_rfl) rfl) h (fun e w12 h_ => ?_)
  clear h
  obtain ⟨r9, r10, rfl, h⟩ := h_
  refine ⟨_, rfl, ?_⟩
  refine LW.rd hL rfl (Wants.free rfl) rfl (Rd.move (v := .tuple #[.bool r9, .int .i64 r10]) rfl) ?_
  refine LW.rd hL rfl (Wants.free rfl) rfl (Rd.extract (v := .bool r9) rfl rfl) ?_
  refine LW.rd hL rfl (Wants.free rfl) rfl (Rd.extract (v := .int .i64 r10) rfl rfl) ?_
  refine LW.rd hL rfl (Wants.free rfl) rfl (Rd.assign (v := .bool r9) rfl) ?_
  refine LW.rd hL rfl (Wants.free rfl) rfl (Rd.assign (v := .int .i64 r10) rfl) ?_
  refine LW.nil hL rfl ?_
  refine NW.then ?_
  refine CW.seq ?_
  refine CW.region fun L hL => ?_
  refine LW.rd hL rfl (Wants.free rfl) rfl (Rd.move (v := .int .i64 r3) rfl) ?_
  refine LW.rd hL rfl (Wants.free rfl) rfl (Rd.bin (v := .bool (r3 == 0)) rfl rfl (fun w => by kernel_rfl)) ?_
  refine LW.rd hL rfl (Wants.free rfl) rfl (Rd.move (v := .bool (r3 == 0)) rfl) ?_
  suffices K1 : L 5 [(0, .bool false), (7, .int .i64 r8), (8, .bool r9), (9, .int .i64 r10), (47, .bool (r3 == 0 && r7))] w12 by
    rcases Bool.eq_false_or_eq_true (r3 == 0) with hb2 | hb2
    · skip
      refine LW.rd hL rfl (Wants.on rfl rfl rfl rfl rfl hb2) rfl (Rd.move (v := .bool r7) rfl) ?_
      refine LW.rd hL rfl (Wants.free rfl) rfl (Rd.pickT rfl hb2 rfl) ?_
      exact LW.sub hL (by exact ⟨rfl, rfl, rfl, rfl, (by rw [hb2]; rfl), trivial⟩) K1
    · skip
      refine LW.skip hL rfl (Skips.on rfl rfl rfl rfl rfl hb2) rfl ?_
      refine LW.rd hL rfl (Wants.free rfl) rfl (Rd.pickF rfl hb2 rfl) ?_
      exact LW.sub hL (by exact ⟨rfl, rfl, rfl, rfl, (by rw [hb2]; rfl), trivial⟩) K1
  refine LW.rd hL rfl (Wants.free rfl) rfl (Rd.move (v := .bool (r3 == 0 && r7)) rfl) ?_
  suffices K2 : L 9 [(0, .bool false), (8, .bool r9), (9, .int .i64 r10), (51, .bool ((r3 == 0 && r7) && r8 == 0))] w12 by
    rcases Bool.eq_false_or_eq_true (r3 == 0 && r7) with hb4 | hb4
    · skip
      refine LW.rd hL rfl (Wants.on rfl rfl rfl rfl rfl hb4) rfl (Rd.move (v := .int .i64 r8) rfl) ?_
      refine LW.rd hL rfl (Wants.on rfl rfl rfl rfl rfl hb4) rfl (Rd.bin (v := .bool (r8 == 0)) rfl rfl (fun w => by kernel_rfl)) ?_
      refine LW.rd hL rfl (Wants.free rfl) rfl (Rd.pickT rfl hb4 rfl) ?_
      exact LW.sub hL (by exact ⟨rfl, rfl, rfl, (by rw [hb4]; rfl), trivial⟩) K2
    · skip
      refine LW.skip hL rfl (Skips.on rfl rfl rfl rfl rfl hb4) rfl ?_
      refine LW.skip hL rfl (Skips.on rfl rfl rfl rfl rfl hb4) rfl ?_
      refine LW.rd hL rfl (Wants.free rfl) rfl (Rd.pickF rfl hb4 rfl) ?_
      exact LW.sub hL (by exact ⟨rfl, rfl, rfl, (by rw [hb4]; rfl), trivial⟩) K2
  refine LW.rd hL rfl (Wants.free rfl) rfl (Rd.move (v := .bool ((r3 == 0 && r7) && r8 == 0)) rfl) ?_
  suffices K3 : L 13 [(0, .bool false), (9, .int .i64 r10), (55, .bool (((r3 == 0 && r7) && r8 == 0) && !r9))] w12 by
    rcases Bool.eq_false_or_eq_true ((r3 == 0 && r7) && r8 == 0) with hb6 | hb6
    · skip
      refine LW.rd hL rfl (Wants.on rfl rfl rfl rfl rfl hb6) rfl (Rd.move (v := .bool r9) rfl) ?_
      refine LW.rd hL rfl (Wants.on rfl rfl rfl rfl rfl hb6) rfl (Rd.un (v := .bool (!r9)) rfl (fun _ => by kernel_rfl)) ?_
      refine LW.rd hL rfl (Wants.free rfl) rfl (Rd.pickT rfl hb6 rfl) ?_
      exact LW.sub hL (by exact ⟨rfl, rfl, (by rw [hb6]; rfl), trivial⟩) K3
    · skip
      refine LW.skip hL rfl (Skips.on rfl rfl rfl rfl rfl hb6) rfl ?_
      refine LW.skip hL rfl (Skips.on rfl rfl rfl rfl rfl hb6) rfl ?_
      refine LW.rd hL rfl (Wants.free rfl) rfl (Rd.pickF rfl hb6 rfl) ?_
      exact LW.sub hL (by exact ⟨rfl, rfl, (by rw [hb6]; rfl), trivial⟩) K3
  refine LW.rd hL rfl (Wants.free rfl) rfl (Rd.move (v := .bool (((r3 == 0 && r7) && r8 == 0) && !r9)) rfl) ?_
  suffices K4 : L 17 [(0, .bool false), (59, .bool ((((r3 == 0 && r7) && r8 == 0) && !r9) && r10 == 0))] w12 by
    rcases Bool.eq_false_or_eq_true (((r3 == 0 && r7) && r8 == 0) && !r9) with hb8 | hb8
    · skip
      refine LW.rd hL rfl (Wants.on rfl rfl rfl rfl rfl hb8) rfl (Rd.move (v := .int .i64 r10) rfl) ?_
      refine LW.rd hL rfl (Wants.on rfl rfl rfl rfl rfl hb8) rfl (Rd.bin (v := .bool (r10 == 0)) rfl rfl (fun w => by kernel_rfl)) ?_
      refine LW.rd hL rfl (Wants.free rfl) rfl (Rd.pickT rfl hb8 rfl) ?_
      exact LW.sub hL (by exact ⟨rfl, (by rw [hb8]; rfl), trivial⟩) K4
    · skip
      refine LW.skip hL rfl (Skips.on rfl rfl rfl rfl rfl hb8) rfl ?_
      refine LW.skip hL rfl (Skips.on rfl rfl rfl rfl rfl hb8) rfl ?_
      refine LW.rd hL rfl (Wants.free rfl) rfl (Rd.pickF rfl hb8 rfl) ?_
      exact LW.sub hL (by exact ⟨rfl, (by rw [hb8]; rfl), trivial⟩) K4
  refine LW.rd hL rfl (Wants.free rfl) rfl (Rd.assign (v := .bool ((((r3 == 0 && r7) && r8 == 0) && !r9) && r10 == 0)) rfl) ?_
  refine LW.nil hL rfl ?_
  refine NW.then ?_
  refine CW.ret ?_
  exact res1 rfl rfl ⟨((((r3 == 0 && r7) && r8 == 0) && !r9) && r10 == 0), rfl, h⟩

/- pomander/pomanderlaw13.made -/
def V_pomanderlaw13_made (l1 : Option Addr) (l1n : Nat) (l1c : Nat) (w : World) (R : (Option Addr) → Int → Int → Int → (Option Addr) → Nat → Nat → (Option Addr) → Nat → Nat → World → Prop) : Prop :=
  ∀ b1 : Nat, b1 = World.size w → ∀ w1 : World, w1 = World.alloc w (.cells #[.int .i64 0, .int .i64 0, .int .i64 0, .slice none 0 0, .slice none 0 0] 36) → (∀ b2 : Nat, b2 = World.size w1 → ∀ w2 : World, w2 = World.alloc w1 (.cells #[.int .i64 0, .int .i64 0] 30) → (Has w2 (⟨b2, 0, none⟩ : Addr) 2 ∧ Free w2 (⟨b2, 0, none⟩ : Addr) 2 ∧ ∀ w3 : World, w3 = setCells w2 (⟨b2, 0, none⟩ : Addr) 0 [.int .i64 2, .int .i64 2] → (∃ (t1 : Int) (t2 : Int), CellsAt w3 (⟨b2, 0, none⟩ : Addr) 0 [.int .i64 t1, .int .i64 t2] ∧ (Calls Try.prog 25 #[.agg #[.int .i64 t1, .int .i64 t2], .int .i64 65536] w3 fun e w4 => ∃ (r7 : Option Addr) (r8 : Int), e = .returned (.tuple #[.pointer r7, .int .i64 r8]) ∧ (∃ (t3 : Int) (t4 : Int), CellsAt w4 (⟨b2, 0, none⟩ : Addr) 0 [.int .i64 t3, .int .i64 t4] ∧ (Calls Try.prog 26 #[.agg #[.int .i64 t3, .int .i64 t4], .int .i64 65536] w4 fun e w5 => ∃ (r9 : Int) (r10 : Int) (r11 : Int) (r12 : Option Addr) (r12n : Nat) (r12c : Nat) (r13 : Option Addr) (r13n : Nat) (r13c : Nat), e = .returned (.agg #[.int .i64 r9, .int .i64 r10, .int .i64 r11, .slice r12 r12n r12c, .slice r13 r13n r13c]) ∧ (∀ b3 : Nat, b3 = World.size w5 → ∀ w6 : World, w6 = World.alloc w5 (.cells #[.int .i64 0, .int .i64 0, .int .i64 0, .slice none 0 0, .slice none 0 0] 36) → (Has w6 (⟨b3, 0, none⟩ : Addr) 5 ∧ Free w6 (⟨b3, 0, none⟩ : Addr) 5 ∧ ∀ w7 : World, w7 = setCells w6 (⟨b3, 0, none⟩ : Addr) 0 [.int .i64 r9, .int .i64 r10, .int .i64 r11, .slice r12 r12n r12c, .slice r13 r13n r13c] → (∃ (I1 : Int → World → Prop) (m1 : Int → World → Nat), I1 0 w7 ∧ ∀ (s1 : Int) (w8 : World), I1 s1 w8 → ((decide (s1 < (l1n : Int))) = true → ∀ w9 : World, w9 = World.drew w8 → ∃ a1 : Addr, l1 = some a1 ∧ (0 : Int) ≤ s1 ∧ s1 < (l1n : Int) ∧ (∃ (t5 : Int) (t6 : Int), CellsAt w9 (a1.add (Int.toNat s1 * 3)) 0 [.int .i64 t5, .int .i64 t6] ∧ (∃ a2 : Addr, l1 = some a2 ∧ (0 : Int) ≤ s1 ∧ s1 < (l1n : Int) ∧ (∃ (t7 : Int), w9.cell? ((a2.add (Int.toNat s1 * 3)).add 2) = some (.int .u32 t7) ∧ (Calls Try.prog 36 #[.pointer r7, .agg #[.int .i64 t5, .int .i64 t6], .int .i64 1, .int .u32 t7] w9 fun e w10 => ∃ (r14 : Int), e = .returned (.int .i64 r14) ∧ (∀ w11 : World, w11 = World.drew w10 → ∃ (t8 : Int) (t9 : Int) (t10 : Int) (t11 : Option Addr) (t11n : Nat) (t11c : Nat) (t12 : Option Addr) (t12n : Nat) (t12c : Nat), CellsAt w11 (⟨b3, 0, none⟩ : Addr) 0 [.int .i64 t8, .int .i64 t9, .int .i64 t10, .slice t11 t11n t11c, .slice t12 t12n t12c] ∧ (∃ a3 : Addr, l1 = some a3 ∧ (0 : Int) ≤ s1 ∧ s1 < (l1n : Int) ∧ (∃ (t13 : Int) (t14 : Int), CellsAt w11 (a3.add (Int.toNat s1 * 3)) 0 [.int .i64 t13, .int .i64 t14] ∧ (∃ a4 : Addr, l1 = some a4 ∧ (0 : Int) ≤ s1 ∧ s1 < (l1n : Int) ∧ (∃ (t15 : Int), w11.cell? ((a4.add (Int.toNat s1 * 3)).add 2) = some (.int .u32 t15) ∧ (Calls Try.prog 63 #[.agg #[.int .i64 t8, .int .i64 t9, .int .i64 t10, .slice t11 t11n t11c, .slice t12 t12n t12c], .agg #[.int .i64 t13, .int .i64 t14], .int .i64 1, .int .u32 t15] w11 fun e w12 => ∃ (r15 : Int) (r16 : Int) (r17 : Int) (r18 : Option Addr) (r18n : Nat) (r18c : Nat) (r19 : Option Addr) (r19n : Nat) (r19c : Nat) (r20 : Int), e = .returned (.tuple #[.agg #[.int .i64 r15, .int .i64 r16, .int .i64 r17, .slice r18 r18n r18c, .slice r19 r19n r19c], .int .i64 r20]) ∧ ((CellsAt w12 (⟨b3, 0, none⟩ : Addr) 0 [.int .i64 t8, .int .i64 t9, .int .i64 t10, .slice t11 t11n t11c, .slice t12 t12n t12c] ∧ CellsAt w12 (a3.add (Int.toNat s1 * 3)) 0 [.int .i64 t13, .int .i64 t14] ∧ w12.cell? ((a4.add (Int.toNat s1 * 3)).add 2) = some (.int .u32 t15) ∧ True) ∧ (Has w12 (⟨b3, 0, none⟩ : Addr) 5 ∧ Free w12 (⟨b3, 0, none⟩ : Addr) 5 ∧ ∀ w13 : World, w13 = setCells w12 (⟨b3, 0, none⟩ : Addr) 0 [.int .i64 r15, .int .i64 r16, .int .i64 r17, .slice r18 r18n r18c, .slice r19 r19n r19c] → ((I1 (IntKind.wrap .i64 (s1 + 1)) w13 ∧ m1 (IntKind.wrap .i64 (s1 + 1)) w13 < m1 s1 w8))))))))))))))) ∧ ((decide (s1 < (l1n : Int))) = false → ∀ w14 : World, w14 = World.drew w8 → ∃ (t16 : Int) (t17 : Int) (t18 : Int) (t19 : Option Addr) (t19n : Nat) (t19c : Nat) (t20 : Option Addr) (t20n : Nat) (t20c : Nat), CellsAt w14 (⟨b3, 0, none⟩ : Addr) 0 [.int .i64 t16, .int .i64 t17, .int .i64 t18, .slice t19 t19n t19c, .slice t20 t20n t20c] ∧ (Has w14 (⟨b1, 0, none⟩ : Addr) 5 ∧ Free w14 (⟨b1, 0, none⟩ : Addr) 5 ∧ ∀ w15 : World, w15 = setCells w14 (⟨b1, 0, none⟩ : Addr) 0 [.int .i64 t16, .int .i64 t17, .int .i64 t18, .slice t19 t19n t19c, .slice t20 t20n t20c] → (∃ (r21 : Int) (r22 : Int) (r23 : Int) (r24 : Option Addr) (r24n : Nat) (r24c : Nat) (r25 : Option Addr) (r25n : Nat) (r25c : Nat), CellsAt w15 (⟨b1, 0, none⟩ : Addr) 0 [.int .i64 r21, .int .i64 r22, .int .i64 r23, .slice r24 r24n r24c, .slice r25 r25n r25c] ∧ R r7 r21 r22 r23 r24 r24n r24c r25 r25n r25c w15))))))))))))
set_option maxRecDepth 100000 in
theorem ok_pomanderlaw13_made (l1 : Option Addr) (l1n : Nat) (l1c : Nat) (w : World) (R : (Option Addr) → Int → Int → Int → (Option Addr) → Nat → Nat → (Option Addr) → Nat → Nat → World → Prop) (h : V_pomanderlaw13_made l1 l1n l1c w R) : Calls Try.prog 19 #[.slice l1 l1n l1c] w (fun e w' => ∃ (r1 : Option Addr) (r2 : Int) (r3 : Int) (r4 : Int) (r5 : Option Addr) (r5n : Nat) (r5c : Nat) (r6 : Option Addr) (r6n : Nat) (r6c : Nat), e = .returned (.tuple #[.pointer r1, .agg #[.int .i64 r2, .int .i64 r3, .int .i64 r4, .slice r5 r5n r5c, .slice r6 r6n r6c]]) ∧ R r1 r2 r3 r4 r5 r5n r5c r6 r6n r6c w') := by
  unfold V_pomanderlaw13_made at h
  refine enter (N := 52) Try.func19 rfl rfl ?_
  refine CW.seq ?_
  refine CW.region fun L hL => ?_
  refine LW.rd hL rfl (Wants.free rfl) rfl (Rd.assign (v := .pointer none) rfl) ?_
  obtain ⟨b1, hb_b1⟩ : ∃ b1, b1 = World.size w := ⟨_, rfl⟩
  obtain ⟨w1, hw_w1⟩ : ∃ w1, w1 = World.alloc w (.cells #[.int .i64 0, .int .i64 0, .int .i64 0, .slice none 0 0, .slice none 0 0] 36) := ⟨_, rfl⟩
  replace h := h b1 hb_b1 w1 hw_w1
  refine LW.val hL rfl (Wants.free rfl) rfl (boxE hb_b1 hw_w1 (Vl.alloc (z := .agg #[.int .i64 0, .int .i64 0, .int .i64 0, .slice none 0 0, .slice none 0 0]) (by kernel_rfl))) ?_
  refine LW.nil hL rfl ?_
  refine NW.then ?_
  refine CW.seq ?_
  refine CW.region fun L hL => ?_
  refine LW.rd hL rfl (Wants.free rfl) rfl (Rd.build (v := .agg #[.int .i64 2, .int .i64 2]) rfl (fun _ => by kernel_rfl)) ?_
  obtain ⟨b2, hb_b2⟩ : ∃ b2, b2 = World.size w1 := ⟨_, rfl⟩
  obtain ⟨w2, hw_w2⟩ : ∃ w2, w2 = World.alloc w1 (.cells #[.int .i64 0, .int .i64 0] 30) := ⟨_, rfl⟩
  replace h := h b2 hb_b2 w2 hw_w2
  refine LW.val hL rfl (Wants.free rfl) rfl (boxE hb_b2 hw_w2 (Vl.alloc (z := .agg #[.int .i64 0, .int .i64 0]) (by kernel_rfl))) ?_
  obtain ⟨ho1, hf1, h⟩ := h
  obtain ⟨w3, hw_w3⟩ : ∃ w3, w3 = setCells w2 (⟨b2, 0, none⟩ : Addr) 0 [.int .i64 2, .int .i64 2] := ⟨_, rfl⟩
  replace h := h w3 hw_w3
  refine LW.eff hL rfl (Wants.free rfl) rfl (stNE hw_w3 (Ef.stN (cs := [.int .i64 2, .int .i64 2]) rfl rfl (by kernel_rfl) (List.forall_mem_cons.2 ⟨rfl, (List.forall_mem_cons.2 ⟨rfl, (List.forall_mem_nil _)⟩)⟩) ho1 hf1)) ?_
  refine LW.nil hL rfl ?_
  refine NW.then ?_
  refine CW.seq ?_
  refine CW.region fun L hL => ?_
  obtain ⟨t1, t2, hc1, h⟩ := h
  refine LW.rd hL rfl (Wants.free rfl) rfl (Rd.ldN (cs := [.int .i64 t1, .int .i64 t2]) rfl (by kernel_rfl) (by kernel_rfl) (cellsS hc1)) ?_
  refine LW.call hL rfl (Wants.free rfl) rfl (Cl.fn (f := 25) rfl Try.func25 (by kernel_rfl) rfl) h (fun e w4 h_ => ?_)
  clear h
  obtain ⟨r7, r8, rfl, h⟩ := h_
  refine ⟨_, rfl, ?_⟩
  refine LW.rd hL rfl (Wants.free rfl) rfl (Rd.move (v := .tuple #[.pointer r7, .int .i64 r8]) rfl) ?_
  refine LW.rd hL rfl (Wants.free rfl) rfl (Rd.extract (v := .pointer r7) rfl rfl) ?_
  refine LW.rd hL rfl (Wants.free rfl) rfl (Rd.extract (v := .int .i64 r8) rfl rfl) ?_
  refine LW.rd hL rfl (Wants.free rfl) rfl (Rd.assign (v := .pointer r7) rfl) ?_
  refine LW.rd hL rfl (Wants.free rfl) rfl (Rd.assign (v := .int .i64 r8) rfl) ?_
  refine LW.nil hL rfl ?_
  refine NW.then ?_
  refine CW.seq ?_
  refine CW.region fun L hL => ?_
  obtain ⟨t3, t4, hc2, h⟩ := h
  refine LW.rd hL rfl (Wants.free rfl) rfl (Rd.ldN (cs := [.int .i64 t3, .int .i64 t4]) rfl (by kernel_rfl) (by kernel_rfl) (cellsS hc2)) ?_
  refine LW.call hL rfl (Wants.free rfl) rfl (Cl.fn (f := 26) rfl Try.func26 (by kernel_rfl) rfl) h (fun e w5 h_ => ?_)
  clear h
  obtain ⟨r9, r10, r11, r12, r12n, r12c, r13, r13n, r13c, rfl, h⟩ := h_
  refine ⟨_, rfl, ?_⟩
  obtain ⟨b3, hb_b3⟩ : ∃ b3, b3 = World.size w5 := ⟨_, rfl⟩
  obtain ⟨w6, hw_w6⟩ : ∃ w6, w6 = World.alloc w5 (.cells #[.int .i64 0, .int .i64 0, .int .i64 0, .slice none 0 0, .slice none 0 0] 36) := ⟨_, rfl⟩
  replace h := h b3 hb_b3 w6 hw_w6
  refine LW.val hL rfl (Wants.free rfl) rfl (boxE hb_b3 hw_w6 (Vl.alloc (z := .agg #[.int .i64 0, .int .i64 0, .int .i64 0, .slice none 0 0, .slice none 0 0]) (by kernel_rfl))) ?_
  obtain ⟨ho2, hf2, h⟩ := h
  obtain ⟨w7, hw_w7⟩ : ∃ w7, w7 = setCells w6 (⟨b3, 0, none⟩ : Addr) 0 [.int .i64 r9, .int .i64 r10, .int .i64 r11, .slice r12 r12n r12c, .slice r13 r13n r13c] := ⟨_, rfl⟩
  replace h := h w7 hw_w7
  refine LW.eff hL rfl (Wants.free rfl) rfl (stNE hw_w7 (Ef.stN (cs := [.int .i64 r9, .int .i64 r10, .int .i64 r11, .slice r12 r12n r12c, .slice r13 r13n r13c]) rfl rfl (by kernel_rfl) (List.forall_mem_cons.2 ⟨rfl, (List.forall_mem_cons.2 ⟨rfl, (List.forall_mem_cons.2 ⟨rfl, (List.forall_mem_cons.2 ⟨rfl, (List.forall_mem_cons.2 ⟨rfl, (List.forall_mem_nil _)⟩)⟩)⟩)⟩)⟩) ho2 hf2)) ?_
  refine LW.nil hL rfl ?_
  refine NW.then ?_
  refine CW.seq ?_
  refine CW.seq ?_
  refine CW.region fun L hL => ?_
  refine LW.rd hL rfl (Wants.free rfl) rfl (Rd.assign (v := .int .i64 0) rfl) ?_
  refine LW.nil hL rfl ?_
  refine NW.then ?_
  refine CW.block ?_
  obtain ⟨I1, m1, hI1, h⟩ := h
  refine CW.loop (S := Int) (fun s1 => [(0, .slice l1 l1n l1c), (2, .pointer none), (3, .pointer (some (⟨b1, 0, none⟩ : Addr))), (5, .pointer r7), (7, .pointer (some (⟨b3, 0, none⟩ : Addr))), (8, .int .i64 s1)]) I1 m1 0 (by exact ⟨rfl, rfl, rfl, rfl, rfl, rfl, trivial⟩) hI1 (fun s1 w8 hI1 => ?_)
  replace h := h s1 w8 hI1
  refine CW.seq ?_
  refine CW.seq ?_
  refine CW.region fun L hL => ?_
  refine LW.rd hL rfl (Wants.free rfl) rfl (Rd.move (v := .int .i64 s1) rfl) ?_
  refine LW.rd hL rfl (Wants.free rfl) rfl (Rd.move (v := .slice l1 l1n l1c) rfl) ?_
  refine LW.rd hL rfl (Wants.free rfl) rfl (Rd.builtin (v := .int .i64 (l1n : Int)) rfl (fun _ _ => by kernel_rfl)) ?_
  refine LW.rd hL rfl (Wants.free rfl) rfl (Rd.bin (v := .bool (decide (s1 < (l1n : Int)))) rfl rfl (fun w => by kernel_rfl)) ?_
  refine LW.nil hL rfl ?_
  refine NW.then ?_
  refine CW.cond rfl (fun hb1 => ?_) (fun hb1 => ?_)
  · replace h := h.1 hb1
    refine CW.skip ?_
    refine NW.then ?_
    refine CW.seq ?_
    refine CW.block ?_
    refine CW.seq ?_
    replace h := h _ rfl
    refine CW.drawn (fun w => w = World.drew w8) 11 (by kernel_rfl) fun H hH => ?_
    generalize World.drew w8 = w9 at h hH ⊢
    refine HW.pure (i := 0) hH rfl (by kernel_rfl) (Wants.free rfl) rfl (fun _ => rfl) (Rd.move (v := .pointer r7) rfl) ?_
    refine HW.pure (i := 1) hH rfl (by kernel_rfl) (Wants.free rfl) rfl (fun _ => rfl) (Rd.move (v := .slice l1 l1n l1c) rfl) ?_
    refine HW.pure (i := 2) hH rfl (by kernel_rfl) (Wants.free rfl) rfl (fun _ => rfl) (Rd.move (v := .int .i64 s1) rfl) ?_
    obtain ⟨a1, he1, hi1, hi2, h⟩ := h
    refine HW.pure (i := 3) hH rfl (by kernel_rfl) (Wants.free rfl) rfl (fun _ => rfl) (Rd.iaS (q := a1) (sz := 3) (by rw [← he1]; rfl) rfl Try.underlying24 (by kernel_rfl) hi1 hi2) ?_
    refine HW.pure (i := 4) hH rfl (by kernel_rfl) (Wants.free rfl) rfl (fun _ => rfl) (Rd.fa (v := .pointer (some (a1.add (Int.toNat s1 * 3)))) rfl (fun _ => by kernel_rfl)) ?_
    obtain ⟨t5, t6, hc3, h⟩ := h
    refine HW.take (i := 5) hH rfl (by kernel_rfl) (by kernel_rfl) (Wants.free rfl) rfl (fun _ => rfl) (Rd.ldN (cs := [.int .i64 t5, .int .i64 t6]) rfl (by kernel_rfl) (by kernel_rfl) (cellsS hc3)) ?_
    refine HW.pure (i := 6) hH rfl (by kernel_rfl) (Wants.free rfl) rfl (fun _ => rfl) (Rd.move (v := .slice l1 l1n l1c) rfl) ?_
    refine HW.pure (i := 7) hH rfl (by kernel_rfl) (Wants.free rfl) rfl (fun _ => rfl) (Rd.move (v := .int .i64 s1) rfl) ?_
    obtain ⟨a2, he2, hi3, hi4, h⟩ := h
    refine HW.pure (i := 8) hH rfl (by kernel_rfl) (Wants.free rfl) rfl (fun _ => rfl) (Rd.iaS (q := a2) (sz := 3) (by rw [← he2]; rfl) rfl Try.underlying24 (by kernel_rfl) hi3 hi4) ?_
    refine HW.pure (i := 9) hH rfl (by kernel_rfl) (Wants.free rfl) rfl (fun _ => rfl) (Rd.fa (v := .pointer (some ((a2.add (Int.toNat s1 * 3)).add 2))) rfl (fun _ => by kernel_rfl)) ?_
    obtain ⟨t7, hc4, h⟩ := h
    refine HW.take (i := 10) hH rfl (by kernel_rfl) (by kernel_rfl) (Wants.free rfl) rfl (fun _ => rfl) (Rd.ld (v := .int .u32 t7) rfl (by kernel_rfl) (eqs hc4)) ?_
    refine HW.call (i := 11) hH (by kernel_rfl) rfl (Wants.free rfl) rfl (Cl.fn (f := 36) rfl Try.func36 (by kernel_rfl) rfl) h (fun e w10 h_ => ?_)
    clear h
    obtain ⟨r14, rfl, h⟩ := h_
    refine ⟨_, rfl, (fun hc => by cases hc), ?_⟩
    refine HW.done hH (by kernel_rfl) ?_
    refine NW.then ?_
    replace h := h _ rfl
    obtain ⟨t8, t9, t10, t11, t11n, t11c, t12, t12n, t12c, hc5, h⟩ := h
    obtain ⟨a3, he3, hi5, hi6, h⟩ := h
    obtain ⟨t13, t14, hc6, h⟩ := h
    obtain ⟨a4, he4, hi7, hi8, h⟩ := h
    obtain ⟨t15, hc7, h⟩ := h
    refine CW.drawn (fun w => CellsAt w (⟨b3, 0, none⟩ : Addr) 0 [.int .i64 t8, .int .i64 t9, .int .i64 t10, .slice t11 t11n t11c, .slice t12 t12n t12c] ∧ CellsAt w (a3.add (Int.toNat s1 * 3)) 0 [.int .i64 t13, .int .i64 t14] ∧ w.cell? ((a4.add (Int.toNat s1 * 3)).add 2) = some (.int .u32 t15) ∧ True) 15 (by kernel_rfl) fun H hH => ?_
    generalize World.drew _ = w11 at *
    have hS1 : CellsAt w11 (⟨b3, 0, none⟩ : Addr) 0 [.int .i64 t8, .int .i64 t9, .int .i64 t10, .slice t11 t11n t11c, .slice t12 t12n t12c] ∧ CellsAt w11 (a3.add (Int.toNat s1 * 3)) 0 [.int .i64 t13, .int .i64 t14] ∧ w11.cell? ((a4.add (Int.toNat s1 * 3)).add 2) = some (.int .u32 t15) ∧ True := ⟨hc5, hc6, hc7, trivial⟩
    refine HW.take (i := 0) hH rfl (by kernel_rfl) (by kernel_rfl) (Wants.free rfl) rfl (fun _ => hS1) (Rd.ldN (cs := [.int .i64 t8, .int .i64 t9, .int .i64 t10, .slice t11 t11n t11c, .slice t12 t12n t12c]) rfl (by kernel_rfl) (by kernel_rfl) (fun w h => cellsAt_get h.1)) ?_
    refine HW.pure (i := 1) hH rfl (by kernel_rfl) (Wants.free rfl) rfl (fun _ => hS1) (Rd.move (v := .slice l1 l1n l1c) rfl) ?_
    refine HW.pure (i := 2) hH rfl (by kernel_rfl) (Wants.free rfl) rfl (fun _ => hS1) (Rd.move (v := .int .i64 s1) rfl) ?_
    refine HW.pure (i := 3) hH rfl (by kernel_rfl) (Wants.free rfl) rfl (fun _ => hS1) (Rd.iaS (q := a3) (sz := 3) (by rw [← he3]; rfl) rfl Try.underlying24 (by kernel_rfl) hi5 hi6) ?_
    refine HW.pure (i := 4) hH rfl (by kernel_rfl) (Wants.free rfl) rfl (fun _ => hS1) (Rd.fa (v := .pointer (some (a3.add (Int.toNat s1 * 3)))) rfl (fun _ => by kernel_rfl)) ?_
    refine HW.take (i := 5) hH rfl (by kernel_rfl) (by kernel_rfl) (Wants.free rfl) rfl (fun _ => hS1) (Rd.ldN (cs := [.int .i64 t13, .int .i64 t14]) rfl (by kernel_rfl) (by kernel_rfl) (fun w h => cellsAt_get h.2.1)) ?_
    refine HW.pure (i := 6) hH rfl (by kernel_rfl) (Wants.free rfl) rfl (fun _ => hS1) (Rd.move (v := .slice l1 l1n l1c) rfl) ?_
    refine HW.pure (i := 7) hH rfl (by kernel_rfl) (Wants.free rfl) rfl (fun _ => hS1) (Rd.move (v := .int .i64 s1) rfl) ?_
    refine HW.pure (i := 8) hH rfl (by kernel_rfl) (Wants.free rfl) rfl (fun _ => hS1) (Rd.iaS (q := a4) (sz := 3) (by rw [← he4]; rfl) rfl Try.underlying24 (by kernel_rfl) hi7 hi8) ?_
    refine HW.pure (i := 9) hH rfl (by kernel_rfl) (Wants.free rfl) rfl (fun _ => hS1) (Rd.fa (v := .pointer (some ((a4.add (Int.toNat s1 * 3)).add 2))) rfl (fun _ => by kernel_rfl)) ?_
    refine HW.take (i := 10) hH rfl (by kernel_rfl) (by kernel_rfl) (Wants.free rfl) rfl (fun _ => hS1) (Rd.ld (v := .int .u32 t15) rfl (by kernel_rfl) (fun w h => h.2.2.1)) ?_
    refine HW.call (i := 11) hH (by kernel_rfl) rfl (Wants.free rfl) rfl (Cl.fn (f := 63) rfl Try.func63 (by kernel_rfl) rfl) h (fun e w12 h_ => ?_)
    clear h
    obtain ⟨r15, r16, r17, r18, r18n, r18c, r19, r19n, r19c, r20, rfl, hS2, h⟩ := h_
    refine ⟨_, rfl, (fun _ => hS2), ?_⟩
    refine HW.pure (i := 12) hH rfl (by kernel_rfl) (Wants.free rfl) rfl (fun _ => hS2) (Rd.move (v := .tuple #[.agg #[.int .i64 r15, .int .i64 r16, .int .i64 r17, .slice r18 r18n r18c, .slice r19 r19n r19c], .int .i64 r20]) rfl) ?_
    refine HW.pure (i := 13) hH rfl (by kernel_rfl) (Wants.free rfl) rfl (fun _ => hS2) (Rd.extract (v := .agg #[.int .i64 r15, .int .i64 r16, .int .i64 r17, .slice r18 r18n r18c, .slice r19 r19n r19c]) rfl rfl) ?_
    refine HW.pure (i := 14) hH rfl (by kernel_rfl) (Wants.free rfl) rfl (fun _ => hS2) (Rd.extract (v := .int .i64 r20) rfl rfl) ?_
    obtain ⟨ho3, hf3, h⟩ := h
    obtain ⟨w13, hw_w13⟩ : ∃ w13, w13 = setCells w12 (⟨b3, 0, none⟩ : Addr) 0 [.int .i64 r15, .int .i64 r16, .int .i64 r17, .slice r18 r18n r18c, .slice r19 r19n r19c] := ⟨_, rfl⟩
    replace h := h w13 hw_w13
    refine HW.eff (i := 15) hH (by kernel_rfl) rfl (Wants.free rfl) rfl (stNE hw_w13 (Ef.stN (cs := [.int .i64 r15, .int .i64 r16, .int .i64 r17, .slice r18 r18n r18c, .slice r19 r19n r19c]) rfl rfl (by kernel_rfl) (List.forall_mem_cons.2 ⟨rfl, (List.forall_mem_cons.2 ⟨rfl, (List.forall_mem_cons.2 ⟨rfl, (List.forall_mem_cons.2 ⟨rfl, (List.forall_mem_cons.2 ⟨rfl, (List.forall_mem_nil _)⟩)⟩)⟩)⟩)⟩) ho3 hf3)) (fun hc => by cases hc) ?_
    refine HW.done hH (by kernel_rfl) ?_
    refine NW.block ?_
    refine NW.then ?_
    refine CW.region fun L hL => ?_
    refine LW.rd hL rfl (Wants.free rfl) rfl (Rd.move (v := .int .i64 s1) rfl) ?_
    refine LW.rd hL rfl (Wants.free rfl) rfl (Rd.bin (v := .int .i64 (IntKind.wrap .i64 (s1 + 1))) rfl rfl (fun w => by kernel_rfl)) ?_
    refine LW.rd hL rfl (Wants.free rfl) rfl (Rd.assign (v := .int .i64 (IntKind.wrap .i64 (s1 + 1))) rfl) ?_
    refine LW.nil hL rfl ?_
    exact NW.loop (S := Int) (Ek := fun s1 => [(0, .slice l1 l1n l1c), (2, .pointer none), (3, .pointer (some (⟨b1, 0, none⟩ : Addr))), (5, .pointer r7), (7, .pointer (some (⟨b3, 0, none⟩ : Addr))), (8, .int .i64 s1)]) (IntKind.wrap .i64 (s1 + 1)) (by exact ⟨rfl, rfl, rfl, rfl, rfl, rfl, trivial⟩) h
  · replace h := h.2 hb1
    refine CW.exit ?_
    refine XW.then ?_
    refine XW.then ?_
    refine XW.hit ?_
    refine NW.then ?_
    refine CW.seq ?_
    replace h := h _ rfl
    refine CW.drawn (fun w => w = World.drew w8) 3 (by kernel_rfl) fun H hH => ?_
    generalize World.drew w8 = w14 at h hH ⊢
    refine HW.pure (i := 0) hH rfl (by kernel_rfl) (Wants.free rfl) rfl (fun _ => rfl) (Rd.move (v := .pointer r7) rfl) ?_
    obtain ⟨t16, t17, t18, t19, t19n, t19c, t20, t20n, t20c, hc8, h⟩ := h
    refine HW.take (i := 1) hH rfl (by kernel_rfl) (by kernel_rfl) (Wants.free rfl) rfl (fun _ => rfl) (Rd.ldN (cs := [.int .i64 t16, .int .i64 t17, .int .i64 t18, .slice t19 t19n t19c, .slice t20 t20n t20c]) rfl (by kernel_rfl) (by kernel_rfl) (cellsS hc8)) ?_
    refine HW.pure (i := 2) hH rfl (by kernel_rfl) (Wants.free rfl) rfl (fun _ => rfl) (Rd.assign (v := .pointer r7) rfl) ?_
    obtain ⟨ho4, hf4, h⟩ := h
    obtain ⟨w15, hw_w15⟩ : ∃ w15, w15 = setCells w14 (⟨b1, 0, none⟩ : Addr) 0 [.int .i64 t16, .int .i64 t17, .int .i64 t18, .slice t19 t19n t19c, .slice t20 t20n t20c] := ⟨_, rfl⟩
    replace h := h w15 hw_w15
    refine HW.eff (i := 3) hH (by kernel_rfl) rfl (Wants.free rfl) rfl (stNE hw_w15 (Ef.stN (cs := [.int .i64 t16, .int .i64 t17, .int .i64 t18, .slice t19 t19n t19c, .slice t20 t20n t20c]) rfl rfl (by kernel_rfl) (List.forall_mem_cons.2 ⟨rfl, (List.forall_mem_cons.2 ⟨rfl, (List.forall_mem_cons.2 ⟨rfl, (List.forall_mem_cons.2 ⟨rfl, (List.forall_mem_cons.2 ⟨rfl, (List.forall_mem_nil _)⟩)⟩)⟩)⟩)⟩) ho4 hf4)) (fun hc => by cases hc) ?_
    refine HW.done hH (by kernel_rfl) ?_
    refine NW.then ?_
    refine CW.ret ?_
    obtain ⟨r21, r22, r23, r24, r24n, r24c, r25, r25n, r25c, hr1, h⟩ := h
    exact resN (vs := [.pointer r7, .agg #[.int .i64 r21, .int .i64 r22, .int .i64 r23, .slice r24 r24n r24c, .slice r25 r25n r25c]]) (ResOK.t rfl (ResOK.c rfl (lvN (cs := [.int .i64 r21, .int .i64 r22, .int .i64 r23, .slice r24 r24n r24c, .slice r25 r25n r25c]) (by kernel_rfl) (by kernel_rfl) (cellsAt_get hr1)) ResOK.nil)) rfl ⟨r7, r21, r22, r23, r24, r24n, r24c, r25, r25n, r25c, rfl, h⟩

/- pomander/policy.New -/
def V_policy_New  (w : World) (R : (Option Addr) → World → Prop) : Prop :=
  ∀ b1 : Nat, b1 = World.size w → ∀ w1 : World, w1 = World.alloc w (.cells #[.int .u32 0, .int .u32 0, .int .u32 0, .int .u32 0, .int .u32 0, .int .u32 0, .int .u32 0, .int .u32 0, .int .u32 0, .int .u32 0, .int .u32 0, .bool true] 85) → (R (some (⟨b1, 0, none⟩ : Addr)) w1)
set_option maxRecDepth 100000 in
theorem ok_policy_New  (w : World) (R : (Option Addr) → World → Prop) (h : V_policy_New  w R) : Calls Try.prog 20 #[] w (fun e w' => ∃ (r1 : Option Addr), e = .returned (.pointer r1) ∧ R r1 w') := by
  unfold V_policy_New at h
  refine enter (N := 3) Try.func20 rfl rfl ?_
  refine CW.seq ?_
  refine CW.region fun L hL => ?_
  refine LW.rd hL rfl (Wants.free rfl) rfl (Rd.assign (v := .pointer none) rfl) ?_
  refine LW.nil hL rfl ?_
  refine NW.then ?_
  refine CW.seq ?_
  refine CW.region fun L hL => ?_
  refine LW.rd hL rfl (Wants.free rfl) rfl (Rd.build (v := .agg #[.int .u32 0, .int .u32 0, .int .u32 0, .int .u32 0, .int .u32 0, .int .u32 0, .int .u32 0, .int .u32 0, .int .u32 0, .int .u32 0, .int .u32 0, .bool true]) rfl (fun _ => by kernel_rfl)) ?_
  obtain ⟨b1, hb_b1⟩ : ∃ b1, b1 = World.size w := ⟨_, rfl⟩
  obtain ⟨w1, hw_w1⟩ : ∃ w1, w1 = World.alloc w (.cells #[.int .u32 0, .int .u32 0, .int .u32 0, .int .u32 0, .int .u32 0, .int .u32 0, .int .u32 0, .int .u32 0, .int .u32 0, .int .u32 0, .int .u32 0, .bool true] 85) := ⟨_, rfl⟩
  replace h := h b1 hb_b1 w1 hw_w1
  refine LW.val hL rfl (Wants.free rfl) rfl (boxE hb_b1 hw_w1 (Vl.box (v := .agg #[.int .u32 0, .int .u32 0, .int .u32 0, .int .u32 0, .int .u32 0, .int .u32 0, .int .u32 0, .int .u32 0, .int .u32 0, .int .u32 0, .int .u32 0, .bool true]) rfl)) ?_
  refine LW.rd hL rfl (Wants.free rfl) rfl (Rd.assign (v := .pointer (some (⟨b1, 0, none⟩ : Addr))) rfl) ?_
  refine LW.nil hL rfl ?_
  refine NW.then ?_
  refine CW.ret ?_
  exact res1 rfl rfl ⟨some (⟨b1, 0, none⟩ : Addr), rfl, h⟩

/- (*pomander/policy.Policy).Stops -/
def V_policy_Policy_Stops (p1 : Option Addr) (f1 : Option Addr) (l1 : Option Addr) (l1n : Nat) (l1c : Nat) (w : World) (R : Bool → Int → World → Prop) : Prop :=
  Calls Try.prog 64 #[.pointer p1] w fun e w1 => ∃ (r3 : Bool), e = .returned (.bool r3) ∧ ((r3 = true → R false 1 w1) ∧ (r3 = false → Calls Try.prog 65 #[.pointer f1, .slice l1 l1n l1c] w1 fun e w2 => ∃ (r4 : Int) (r5 : Int), e = .returned (.tuple #[.int .u32 r4, .int .i64 r5]) ∧ (∃ a1 : Addr, p1 = some a1 ∧ (∃ (t1 : Int), w2.cell? (a1.add 10) = some (.int .u32 t1) ∧ (R (!((bits .and .u32 r4 t1) == 0)) r5 w2)))))
set_option maxRecDepth 100000 in
theorem ok_policy_Policy_Stops (p1 : Option Addr) (f1 : Option Addr) (l1 : Option Addr) (l1n : Nat) (l1c : Nat) (w : World) (R : Bool → Int → World → Prop) (h : V_policy_Policy_Stops p1 f1 l1 l1n l1c w R) : Calls Try.prog 21 #[.pointer p1, .pointer f1, .slice l1 l1n l1c] w (fun e w' => ∃ (r1 : Bool) (r2 : Int), e = .returned (.tuple #[.bool r1, .int .i64 r2]) ∧ R r1 r2 w') := by
  unfold V_policy_Policy_Stops at h
  refine enter (N := 27) Try.func21 rfl rfl ?_
  refine CW.seq ?_
  refine CW.region fun L hL => ?_
  refine LW.rd hL rfl (Wants.free rfl) rfl (Rd.assign (v := .bool false) rfl) ?_
  refine LW.rd hL rfl (Wants.free rfl) rfl (Rd.assign (v := .int .i64 0) rfl) ?_
  refine LW.nil hL rfl ?_
  refine NW.then ?_
  refine CW.seq ?_
  refine CW.seq ?_
  refine CW.region fun L hL => ?_
  refine LW.rd hL rfl (Wants.free rfl) rfl (Rd.move (v := .pointer p1) rfl) ?_
  refine LW.call hL rfl (Wants.free rfl) rfl (Cl.fn (f := 64) rfl Try.func64 (by kernel_rfl) rfl) h (fun e w1 h_ => ?_)
  clear h
  obtain ⟨r3, rfl, h⟩ := h_
  refine ⟨_, rfl, ?_⟩
  refine LW.nil hL rfl ?_
  refine NW.then ?_
  refine CW.cond rfl (fun hb1 => ?_) (fun hb1 => ?_)
  · replace h := h.1 hb1
    refine CW.seq ?_
    refine CW.region fun L hL => ?_
    refine LW.rd hL rfl (Wants.free rfl) rfl (Rd.assign (v := .bool false) rfl) ?_
    refine LW.rd hL rfl (Wants.free rfl) rfl (Rd.assign (v := .int .i64 1) rfl) ?_
    refine LW.nil hL rfl ?_
    refine NW.then ?_
    refine CW.ret ?_
    refine RW.then ?_
    exact res2 rfl rfl rfl ⟨false, 1, rfl, h⟩
  · replace h := h.2 hb1
    refine CW.skip ?_
    refine NW.then ?_
    refine CW.seq ?_
    refine CW.region fun L hL => ?_
    refine LW.rd hL rfl (Wants.free rfl) rfl (Rd.move (v := .pointer f1) rfl) ?_
    refine LW.rd hL rfl (Wants.free rfl) rfl (Rd.move (v := .slice l1 l1n l1c) rfl) ?_
    refine LW.call hL rfl (Wants.free rfl) rfl (Cl.fn (f := 65) rfl Try.func65 (by kernel_rfl) rfl) h (fun e w2 h_ => ?_)
    clear h
    obtain ⟨r4, r5, rfl, h⟩ := h_
    refine ⟨_, rfl, ?_⟩
    refine LW.rd hL rfl (Wants.free rfl) rfl (Rd.move (v := .tuple #[.int .u32 r4, .int .i64 r5]) rfl) ?_
    refine LW.rd hL rfl (Wants.free rfl) rfl (Rd.extract (v := .int .u32 r4) rfl rfl) ?_
    refine LW.rd hL rfl (Wants.free rfl) rfl (Rd.extract (v := .int .i64 r5) rfl rfl) ?_
    refine LW.rd hL rfl (Wants.free rfl) rfl (Rd.assign (v := .int .u32 r4) rfl) ?_
    refine LW.rd hL rfl (Wants.free rfl) rfl (Rd.assign (v := .int .i64 r5) rfl) ?_
    refine LW.nil hL rfl ?_
    refine NW.then ?_
    refine CW.seq ?_
    refine CW.region fun L hL => ?_
    refine LW.rd hL rfl (Wants.free rfl) rfl (Rd.move (v := .int .u32 r4) rfl) ?_
    refine LW.rd hL rfl (Wants.free rfl) rfl (Rd.move (v := .pointer p1) rfl) ?_
    obtain ⟨a1, ha1, h⟩ := h
    refine LW.rd hL rfl (Wants.free rfl) rfl (Rd.nil (q := a1) (by rw [← ha1]; rfl)) ?_
    refine LW.rd hL rfl (Wants.free rfl) rfl (Rd.fa (v := .pointer (some a1)) rfl (fun _ => by kernel_rfl)) ?_
    refine LW.rd hL rfl (Wants.free rfl) rfl (Rd.fa (v := .pointer (some (a1.add 10))) rfl (fun _ => by kernel_rfl)) ?_
    obtain ⟨t1, hc1, h⟩ := h
    refine LW.rd hL rfl (Wants.free rfl) rfl (Rd.ld (v := .int .u32 t1) rfl (by kernel_rfl) (eqs hc1)) ?_
    refine LW.rd hL rfl (Wants.free rfl) rfl (Rd.bin (v := .int .u32 (bits .and .u32 r4 t1)) rfl rfl (fun w => by kernel_rfl)) ?_
    refine LW.rd hL rfl (Wants.free rfl) rfl (Rd.bin (v := .bool (!((bits .and .u32 r4 t1) == 0))) rfl rfl (fun w => by kernel_rfl)) ?_
    refine LW.rd hL rfl (Wants.free rfl) rfl (Rd.move (v := .int .i64 r5) rfl) ?_
    refine LW.rd hL rfl (Wants.free rfl) rfl (Rd.assign (v := .bool (!((bits .and .u32 r4 t1) == 0))) rfl) ?_
    refine LW.rd hL rfl (Wants.free rfl) rfl (Rd.assign (v := .int .i64 r5) rfl) ?_
    refine LW.nil hL rfl ?_
    refine NW.then ?_
    refine CW.ret ?_
    exact res2 rfl rfl rfl ⟨!((bits .and .u32 r4 t1) == 0), r5, rfl, h⟩

/- (*pomander/policy.Policy).Strict -/
def V_policy_Policy_Strict (p1 : Option Addr) (n1 : Int) (w : World) (R : Int → World → Prop) : Prop :=
  Calls Try.prog 64 #[.pointer p1] w fun e w1 => ∃ (r2 : Bool), e = .returned (.bool r2) ∧ ((r2 = true → R 1 w1) ∧ (r2 = false → Calls Try.prog 66 #[.int .u32 n1] w1 fun e w2 => ∃ (r3 : Bool), e = .returned (.bool r3) ∧ (((!r3) = true → R 2 w2) ∧ ((!r3) = false → ∃ a1 : Addr, p1 = some a1 ∧ ((∃ o : Value, w2.cell? (a1.add 10) = some o) ∧ w2.frozen? (a1.add 10) = false ∧ ∀ w3 : World, w3 = World.setCell w2 (a1.add 10) (.int .u32 n1) → (R 0 w3))))))
set_option maxRecDepth 100000 in
theorem ok_policy_Policy_Strict (p1 : Option Addr) (n1 : Int) (w : World) (R : Int → World → Prop) (h : V_policy_Policy_Strict p1 n1 w R) : Calls Try.prog 22 #[.pointer p1, .int .u32 n1] w (fun e w' => ∃ (r1 : Int), e = .returned (.int .i64 r1) ∧ R r1 w') := by
  unfold V_policy_Policy_Strict at h
  refine enter (N := 17) Try.func22 rfl rfl ?_
  refine CW.seq ?_
  refine CW.region fun L hL => ?_
  refine LW.rd hL rfl (Wants.free rfl) rfl (Rd.assign (v := .int .i64 0) rfl) ?_
  refine LW.nil hL rfl ?_
  refine NW.then ?_
  refine CW.seq ?_
  refine CW.block ?_
  refine CW.seq ?_
  refine CW.region fun L hL => ?_
  refine LW.rd hL rfl (Wants.free rfl) rfl (Rd.move (v := .pointer p1) rfl) ?_
  refine LW.call hL rfl (Wants.free rfl) rfl (Cl.fn (f := 64) rfl Try.func64 (by kernel_rfl) rfl) h (fun e w1 h_ => ?_)
  clear h
  obtain ⟨r2, rfl, h⟩ := h_
  refine ⟨_, rfl, ?_⟩
  refine LW.rd hL rfl (Wants.free rfl) rfl (Rd.assign (v := .bool r2) rfl) ?_
  refine LW.nil hL rfl ?_
  refine NW.then ?_
  refine CW.cond rfl (fun hb1 => ?_) (fun hb1 => ?_)
  · replace h := h.1 hb1
    refine CW.seq ?_
    refine CW.region fun L hL => ?_
    refine LW.rd hL rfl (Wants.free rfl) rfl (Rd.assign (v := .int .i64 1) rfl) ?_
    refine LW.nil hL rfl ?_
    refine NW.then ?_
    refine CW.ret ?_
    refine RW.block ?_
    refine RW.then ?_
    exact res1 rfl rfl ⟨1, rfl, h⟩
  · replace h := h.2 hb1
    refine CW.seq ?_
    refine CW.region fun L hL => ?_
    refine LW.rd hL rfl (Wants.free rfl) rfl (Rd.move (v := .int .u32 n1) rfl) ?_
    refine LW.call hL rfl (Wants.free rfl) rfl (Cl.fn (f := 66) rfl Try.func66 (by kernel_rfl) rfl) h (fun e w2 h_ => ?_)
    clear h
    obtain ⟨r3, rfl, h⟩ := h_
    refine ⟨_, rfl, ?_⟩
    refine LW.rd hL rfl (Wants.free rfl) rfl (Rd.un (v := .bool (!r3)) rfl (fun _ => by kernel_rfl)) ?_
    refine LW.rd hL rfl (Wants.free rfl) rfl (Rd.assign (v := .bool (!r3)) rfl) ?_
    refine LW.nil hL rfl ?_
    refine NW.then ?_
    refine CW.cond rfl (fun hb2 => ?_) (fun hb2 => ?_)
    · replace h := h.1 hb2
      refine CW.seq ?_
      refine CW.region fun L hL => ?_
      refine LW.rd hL rfl (Wants.free rfl) rfl (Rd.assign (v := .int .i64 2) rfl) ?_
      refine LW.nil hL rfl ?_
      refine NW.then ?_
      refine CW.ret ?_
      refine RW.block ?_
      refine RW.then ?_
      exact res1 rfl rfl ⟨2, rfl, h⟩
    · replace h := h.2 hb2
      refine CW.skip ?_
      refine NW.block ?_
      refine NW.then ?_
      refine CW.seq ?_
      refine CW.region fun L hL => ?_
      refine LW.rd hL rfl (Wants.free rfl) rfl (Rd.move (v := .pointer p1) rfl) ?_
      refine LW.rd hL rfl (Wants.free rfl) rfl (Rd.move (v := .int .u32 n1) rfl) ?_
      obtain ⟨a1, ha1, h⟩ := h
      refine LW.rd hL rfl (Wants.free rfl) rfl (Rd.nil (q := a1) (by rw [← ha1]; rfl)) ?_
      refine LW.rd hL rfl (Wants.free rfl) rfl (Rd.fa (v := .pointer (some a1)) rfl (fun _ => by kernel_rfl)) ?_
      refine LW.rd hL rfl (Wants.free rfl) rfl (Rd.fa (v := .pointer (some (a1.add 10))) rfl (fun _ => by kernel_rfl)) ?_
      obtain ⟨⟨o_w3, ho1⟩, hf1, h⟩ := h
      obtain ⟨w3, hw_w3⟩ : ∃ w3, w3 = World.setCell w2 (a1.add 10) (.int .u32 n1) := ⟨_, rfl⟩
      replace h := h w3 hw_w3
      refine LW.eff hL rfl (Wants.free rfl) rfl (stE hw_w3 (Ef.st rfl rfl rfl (by kernel_rfl) ho1 hf1)) ?_
      refine LW.nil hL rfl ?_
      refine NW.then ?_
      refine CW.seq ?_
      refine CW.region fun L hL => ?_
      refine LW.rd hL rfl (Wants.free rfl) rfl (Rd.assign (v := .int .i64 0) rfl) ?_
      refine LW.nil hL rfl ?_
      refine NW.then ?_
      refine CW.ret ?_
      exact res1 rfl rfl ⟨0, rfl, h⟩

/- pomander/flow.New -/
def V_flow_New (form1 : Int) (form2 : Int) (most1 : Int) (w : World) (R : (Option Addr) → Int → World → Prop) : Prop :=
  ∀ b1 : Nat, b1 = World.size w → ∀ w1 : World, w1 = World.alloc w (.cells #[.int .i64 form1, .int .i64 form2] 30) → (Calls Try.prog 68 #[.int .i64 most1] w1 fun e w2 => ∃ (r3 : Option Addr) (r4 : Int), e = .returned (.tuple #[.pointer r3, .int .i64 r4]) ∧ (∃ (t1 : Int), w2.cell? (⟨b1, 0, none⟩ : Addr) = some (.int .i64 t1) ∧ (Calls Try.prog 51 #[.int .i64 t1] w2 fun e w3 => ∃ (r5 : Option Addr) (r6 : Int), e = .returned (.tuple #[.pointer r5, .int .i64 r6]) ∧ (∃ (t2 : Int), w3.cell? (⟨b1, 1, none⟩ : Addr) = some (.int .i64 t2) ∧ (Calls Try.prog 51 #[.int .i64 t2] w3 fun e w4 => ∃ (r7 : Option Addr) (r8 : Int), e = .returned (.tuple #[.pointer r7, .int .i64 r8]) ∧ ((((!(r4 == 0) || !(r6 == 0)) || !(r8 == 0)) = true → R none 2 w4) ∧ (((!(r4 == 0) || !(r6 == 0)) || !(r8 == 0)) = false → ∃ (t3 : Int) (t4 : Int), CellsAt w4 (⟨b1, 0, none⟩ : Addr) 0 [.int .i64 t3, .int .i64 t4] ∧ (∀ b2 : Nat, b2 = World.size w4 → ∀ w5 : World, w5 = World.alloc w4 (.map #[] 0) → (∀ b3 : Nat, b3 = World.size w5 → ∀ w6 : World, w6 = World.alloc w5 (.cells #[.int .i64 t3, .int .i64 t4, .pointer r3, .pointer r5, .pointer r7, .map (some b2)] 145) → (R (some (⟨b3, 0, none⟩ : Addr)) 0 w6))))))))))
set_option maxRecDepth 100000 in
theorem ok_flow_New (form1 : Int) (form2 : Int) (most1 : Int) (w : World) (R : (Option Addr) → Int → World → Prop) (h : V_flow_New form1 form2 most1 w R) : Calls Try.prog 25 #[.agg #[.int .i64 form1, .int .i64 form2], .int .i64 most1] w (fun e w' => ∃ (r1 : Option Addr) (r2 : Int), e = .returned (.tuple #[.pointer r1, .int .i64 r2]) ∧ R r1 r2 w') := by
  unfold V_flow_New at h
  refine enter (N := 46) Try.func25 rfl rfl ?_
  refine CW.seq ?_
  refine CW.region fun L hL => ?_
  obtain ⟨b1, hb_b1⟩ : ∃ b1, b1 = World.size w := ⟨_, rfl⟩
  obtain ⟨w1, hw_w1⟩ : ∃ w1, w1 = World.alloc w (.cells #[.int .i64 form1, .int .i64 form2] 30) := ⟨_, rfl⟩
  replace h := h b1 hb_b1 w1 hw_w1
  refine LW.val hL rfl (Wants.free rfl) rfl (boxE hb_b1 hw_w1 (Vl.box (v := .agg #[.int .i64 form1, .int .i64 form2]) rfl)) ?_
  refine LW.rd hL rfl (Wants.free rfl) rfl (Rd.assign (v := .pointer none) rfl) ?_
  refine LW.rd hL rfl (Wants.free rfl) rfl (Rd.assign (v := .int .i64 0) rfl) ?_
  refine LW.nil hL rfl ?_
  refine NW.then ?_
  refine CW.seq ?_
  refine CW.region fun L hL => ?_
  refine LW.rd hL rfl (Wants.free rfl) rfl (Rd.move (v := .int .i64 most1) rfl) ?_
  refine LW.call hL rfl (Wants.free rfl) rfl (Cl.fn (f := 68) rfl Try.func68 (by kernel_rfl) rfl) h (fun e w2 h_ => ?_)
  clear h
  obtain ⟨r3, r4, rfl, h⟩ := h_
  refine ⟨_, rfl, ?_⟩
  refine LW.rd hL rfl (Wants.free rfl) rfl (Rd.move (v := .tuple #[.pointer r3, .int .i64 r4]) rfl) ?_
  refine LW.rd hL rfl (Wants.free rfl) rfl (Rd.extract (v := .pointer r3) rfl rfl) ?_
  refine LW.rd hL rfl (Wants.free rfl) rfl (Rd.extract (v := .int .i64 r4) rfl rfl) ?_
  refine LW.rd hL rfl (Wants.free rfl) rfl (Rd.assign (v := .pointer r3) rfl) ?_
  refine LW.rd hL rfl (Wants.free rfl) rfl (Rd.assign (v := .int .i64 r4) rfl) ?_
  refine LW.nil hL rfl ?_
  refine NW.then ?_
  refine CW.seq ?_
  refine CW.region fun L hL => ?_
  refine LW.rd hL rfl (Wants.free rfl) rfl (Rd.fa (v := .pointer (some (⟨b1, 0, none⟩ : Addr))) rfl (fun _ => by kernel_rfl)) ?_
  obtain ⟨t1, hc1, h⟩ := h
  refine LW.rd hL rfl (Wants.free rfl) rfl (Rd.ld (v := .int .i64 t1) rfl (by kernel_rfl) (eqs hc1)) ?_
  refine LW.call hL rfl (Wants.free rfl) rfl (Cl.fn (f := 51) rfl Try.func51 (by kernel_rfl) rfl) h (fun e w3 h_ => ?_)
  clear h
  obtain ⟨r5, r6, rfl, h⟩ := h_
  refine ⟨_, rfl, ?_⟩
  refine LW.rd hL rfl (Wants.free rfl) rfl (Rd.move (v := .tuple #[.pointer r5, .int .i64 r6]) rfl) ?_
  refine LW.rd hL rfl (Wants.free rfl) rfl (Rd.extract (v := .pointer r5) rfl rfl) ?_
  refine LW.rd hL rfl (Wants.free rfl) rfl (Rd.extract (v := .int .i64 r6) rfl rfl) ?_
  refine LW.rd hL rfl (Wants.free rfl) rfl (Rd.assign (v := .pointer r5) rfl) ?_
  refine LW.rd hL rfl (Wants.free rfl) rfl (Rd.assign (v := .int .i64 r6) rfl) ?_
  refine LW.nil hL rfl ?_
  refine NW.then ?_
  refine CW.seq ?_
  refine CW.region fun L hL => ?_
  refine LW.rd hL rfl (Wants.free rfl) rfl (Rd.fa (v := .pointer (some (⟨b1, 1, none⟩ : Addr))) rfl (fun _ => by kernel_rfl)) ?_
  obtain ⟨t2, hc2, h⟩ := h
  refine LW.rd hL rfl (Wants.free rfl) rfl (Rd.ld (v := .int .i64 t2) rfl (by kernel_rfl) (eqs hc2)) ?_
  refine LW.call hL rfl (Wants.free rfl) rfl (Cl.fn (f := 51) rfl Try.func51 (by kernel_rfl) rfl) h (fun e w4 h_ => ?_)
  clear h
  obtain ⟨r7, r8, rfl, h⟩ := h_
  refine ⟨_, rfl, ?_⟩
  refine LW.rd hL rfl (Wants.free rfl) rfl (Rd.move (v := .tuple #[.pointer r7, .int .i64 r8]) rfl) ?_
  refine LW.rd hL rfl (Wants.free rfl) rfl (Rd.extract (v := .pointer r7) rfl rfl) ?_
  refine LW.rd hL rfl (Wants.free rfl) rfl (Rd.extract (v := .int .i64 r8) rfl rfl) ?_
  refine LW.rd hL rfl (Wants.free rfl) rfl (Rd.assign (v := .pointer r7) rfl) ?_
  refine LW.rd hL rfl (Wants.free rfl) rfl (Rd.assign (v := .int .i64 r8) rfl) ?_
  refine LW.nil hL rfl ?_
  refine NW.then ?_
  refine CW.seq ?_
  refine CW.seq ?_
  refine CW.region fun L hL => ?_
  refine LW.rd hL rfl (Wants.free rfl) rfl (Rd.move (v := .int .i64 r4) rfl) ?_
  refine LW.rd hL rfl (Wants.free rfl) rfl (Rd.bin (v := .bool (!(r4 == 0))) rfl rfl (fun w => by kernel_rfl)) ?_
  refine LW.rd hL rfl (Wants.free rfl) rfl (Rd.move (v := .bool (!(r4 == 0))) rfl) ?_
  suffices K1 : L 6 [(2, .pointer (some (⟨b1, 0, none⟩ : Addr))), (4, .pointer none), (5, .int .i64 0), (6, .pointer r3), (8, .pointer r5), (10, .pointer r7), (11, .int .i64 r8), (34, .bool (!(r4 == 0) || !(r6 == 0)))] w4 by
    rcases Bool.eq_false_or_eq_true (!(r4 == 0)) with hb2 | hb2
    · skip
      refine LW.skip hL rfl (Skips.on rfl rfl rfl rfl rfl hb2) rfl ?_
      refine LW.skip hL rfl (Skips.on rfl rfl rfl rfl rfl hb2) rfl ?_
      refine LW.rd hL rfl (Wants.free rfl) rfl (Rd.pickT rfl hb2 rfl) ?_
      exact LW.sub hL (by exact ⟨rfl, rfl, rfl, rfl, rfl, rfl, rfl, (by rw [hb2]; rfl), trivial⟩) K1
    · skip
      refine LW.rd hL rfl (Wants.on rfl rfl rfl rfl rfl hb2) rfl (Rd.move (v := .int .i64 r6) rfl) ?_
      refine LW.rd hL rfl (Wants.on rfl rfl rfl rfl rfl hb2) rfl (Rd.bin (v := .bool (!(r6 == 0))) rfl rfl (fun w => by kernel_rfl)) ?_
      refine LW.rd hL rfl (Wants.free rfl) rfl (Rd.pickF rfl hb2 rfl) ?_
      exact LW.sub hL (by exact ⟨rfl, rfl, rfl, rfl, rfl, rfl, rfl, (by rw [hb2]; rfl), trivial⟩) K1
  refine LW.rd hL rfl (Wants.free rfl) rfl (Rd.move (v := .bool (!(r4 == 0) || !(r6 == 0))) rfl) ?_
  suffices K2 : L 10 [(2, .pointer (some (⟨b1, 0, none⟩ : Addr))), (4, .pointer none), (5, .int .i64 0), (6, .pointer r3), (8, .pointer r5), (10, .pointer r7), (38, .bool ((!(r4 == 0) || !(r6 == 0)) || !(r8 == 0)))] w4 by
    rcases Bool.eq_false_or_eq_true (!(r4 == 0) || !(r6 == 0)) with hb4 | hb4
    · skip
      refine LW.skip hL rfl (Skips.on rfl rfl rfl rfl rfl hb4) rfl ?_
      refine LW.skip hL rfl (Skips.on rfl rfl rfl rfl rfl hb4) rfl ?_
      refine LW.rd hL rfl (Wants.free rfl) rfl (Rd.pickT rfl hb4 rfl) ?_
      exact LW.sub hL (by exact ⟨rfl, rfl, rfl, rfl, rfl, rfl, (by rw [hb4]; rfl), trivial⟩) K2
    · skip
      refine LW.rd hL rfl (Wants.on rfl rfl rfl rfl rfl hb4) rfl (Rd.move (v := .int .i64 r8) rfl) ?_
      refine LW.rd hL rfl (Wants.on rfl rfl rfl rfl rfl hb4) rfl (Rd.bin (v := .bool (!(r8 == 0))) rfl rfl (fun w => by kernel_rfl)) ?_
      refine LW.rd hL rfl (Wants.free rfl) rfl (Rd.pickF rfl hb4 rfl) ?_
      exact LW.sub hL (by exact ⟨rfl, rfl, rfl, rfl, rfl, rfl, (by rw [hb4]; rfl), trivial⟩) K2
  refine LW.nil hL rfl ?_
  refine NW.then ?_
  refine CW.cond rfl (fun hb5 => ?_) (fun hb5 => ?_)
  · replace h := h.1 hb5
    refine CW.seq ?_
    refine CW.region fun L hL => ?_
    refine LW.rd hL rfl (Wants.free rfl) rfl (Rd.assign (v := .pointer none) rfl) ?_
    refine LW.rd hL rfl (Wants.free rfl) rfl (Rd.assign (v := .int .i64 2) rfl) ?_
    refine LW.nil hL rfl ?_
    refine NW.then ?_
    refine CW.ret ?_
    refine RW.then ?_
    exact res2 rfl rfl rfl ⟨none, 2, rfl, h⟩
  · replace h := h.2 hb5
    refine CW.skip ?_
    refine NW.then ?_
    refine CW.seq ?_
    refine CW.region fun L hL => ?_
    obtain ⟨t3, t4, hc3, h⟩ := h
    refine LW.rd hL rfl (Wants.free rfl) rfl (Rd.ldN (cs := [.int .i64 t3, .int .i64 t4]) rfl (by kernel_rfl) (by kernel_rfl) (cellsS hc3)) ?_
    refine LW.rd hL rfl (Wants.free rfl) rfl (Rd.move (v := .pointer r3) rfl) ?_
    refine LW.rd hL rfl (Wants.free rfl) rfl (Rd.move (v := .pointer r5) rfl) ?_
    refine LW.rd hL rfl (Wants.free rfl) rfl (Rd.move (v := .pointer r7) rfl) ?_
    obtain ⟨b2, hb_b2⟩ : ∃ b2, b2 = World.size w4 := ⟨_, rfl⟩
    obtain ⟨w5, hw_w5⟩ : ∃ w5, w5 = World.alloc w4 (.map #[] 0) := ⟨_, rfl⟩
    replace h := h b2 hb_b2 w5 hw_w5
    refine LW.val hL rfl (Wants.free rfl) rfl (mapE hb_b2 hw_w5 Vl.makeMap) ?_
    refine LW.rd hL rfl (Wants.free rfl) rfl (Rd.build (v := .agg #[.int .i64 t3, .int .i64 t4, .pointer r3, .pointer r5, .pointer r7, .map (some b2)]) rfl (fun _ => by kernel_rfl)) ?_
    obtain ⟨b3, hb_b3⟩ : ∃ b3, b3 = World.size w5 := ⟨_, rfl⟩
    obtain ⟨w6, hw_w6⟩ : ∃ w6, w6 = World.alloc w5 (.cells #[.int .i64 t3, .int .i64 t4, .pointer r3, .pointer r5, .pointer r7, .map (some b2)] 145) := ⟨_, rfl⟩
    replace h := h b3 hb_b3 w6 hw_w6
    refine LW.val hL rfl (Wants.free rfl) rfl (boxE hb_b3 hw_w6 (Vl.box (v := .agg #[.int .i64 t3, .int .i64 t4, .pointer r3, .pointer r5, .pointer r7, .map (some b2)]) rfl)) ?_
    refine LW.rd hL rfl (Wants.free rfl) rfl (Rd.assign (v := .pointer (some (⟨b3, 0, none⟩ : Addr))) rfl) ?_
    refine LW.rd hL rfl (Wants.free rfl) rfl (Rd.assign (v := .int .i64 0) rfl) ?_
    refine LW.nil hL rfl ?_
    refine NW.then ?_
    refine CW.ret ?_
    exact res2 rfl rfl rfl ⟨some (⟨b3, 0, none⟩ : Addr), 0, rfl, h⟩

/- pomander/pomanderref12.New -/
def V_pomanderref12_New (f1 : Int) (f2 : Int) (most1 : Int) (w : World) (R : Int → Int → Int → (Option Addr) → Nat → Nat → (Option Addr) → Nat → Nat → World → Prop) : Prop :=
  ∀ b1 : Nat, b1 = World.size w → ∀ w1 : World, w1 = World.alloc w (.cells #[.int .i64 f1, .int .i64 f2] 30) → (∀ b2 : Nat, b2 = World.size w1 → ∀ w2 : World, w2 = World.alloc w1 (.cells #[.int .i64 0, .int .i64 0, .int .i64 0, .slice none 0 0, .slice none 0 0] 36) → (∀ w3 : World, w3 = World.drew w2 → ∃ (t1 : Int) (t2 : Int), CellsAt w3 (⟨b1, 0, none⟩ : Addr) 0 [.int .i64 t1, .int .i64 t2] ∧ (Calls Try.prog 69 #[.int .i64 most1] w3 fun e w4 => ∃ (r6 : Int) (r7 : Option Addr) (r7n : Nat) (r7c : Nat), e = .returned (.agg #[.int .i64 r6, .slice r7 r7n r7c]) ∧ ((CellsAt w4 (⟨b1, 0, none⟩ : Addr) 0 [.int .i64 t1, .int .i64 t2] ∧ True) ∧ (Has w4 (⟨b2, 0, none⟩ : Addr) 5 ∧ Free w4 (⟨b2, 0, none⟩ : Addr) 5 ∧ ∀ w5 : World, w5 = setCells w4 (⟨b2, 0, none⟩ : Addr) 0 [.int .i64 t1, .int .i64 t2, .int .i64 r6, .slice r7 r7n r7c, .slice none 0 0] → (∃ (r8 : Int) (r9 : Int) (r10 : Int) (r11 : Option Addr) (r11n : Nat) (r11c : Nat) (r12 : Option Addr) (r12n : Nat) (r12c : Nat), CellsAt w5 (⟨b2, 0, none⟩ : Addr) 0 [.int .i64 r8, .int .i64 r9, .int .i64 r10, .slice r11 r11n r11c, .slice r12 r12n r12c] ∧ R r8 r9 r10 r11 r11n r11c r12 r12n r12c w5))))))
set_option maxRecDepth 100000 in
theorem ok_pomanderref12_New (f1 : Int) (f2 : Int) (most1 : Int) (w : World) (R : Int → Int → Int → (Option Addr) → Nat → Nat → (Option Addr) → Nat → Nat → World → Prop) (h : V_pomanderref12_New f1 f2 most1 w R) : Calls Try.prog 26 #[.agg #[.int .i64 f1, .int .i64 f2], .int .i64 most1] w (fun e w' => ∃ (r1 : Int) (r2 : Int) (r3 : Int) (r4 : Option Addr) (r4n : Nat) (r4c : Nat) (r5 : Option Addr) (r5n : Nat) (r5c : Nat), e = .returned (.agg #[.int .i64 r1, .int .i64 r2, .int .i64 r3, .slice r4 r4n r4c, .slice r5 r5n r5c]) ∧ R r1 r2 r3 r4 r4n r4c r5 r5n r5c w') := by
  unfold V_pomanderref12_New at h
  refine enter (N := 9) Try.func26 rfl rfl ?_
  refine CW.seq ?_
  refine CW.region fun L hL => ?_
  obtain ⟨b1, hb_b1⟩ : ∃ b1, b1 = World.size w := ⟨_, rfl⟩
  obtain ⟨w1, hw_w1⟩ : ∃ w1, w1 = World.alloc w (.cells #[.int .i64 f1, .int .i64 f2] 30) := ⟨_, rfl⟩
  replace h := h b1 hb_b1 w1 hw_w1
  refine LW.val hL rfl (Wants.free rfl) rfl (boxE hb_b1 hw_w1 (Vl.box (v := .agg #[.int .i64 f1, .int .i64 f2]) rfl)) ?_
  obtain ⟨b2, hb_b2⟩ : ∃ b2, b2 = World.size w1 := ⟨_, rfl⟩
  obtain ⟨w2, hw_w2⟩ : ∃ w2, w2 = World.alloc w1 (.cells #[.int .i64 0, .int .i64 0, .int .i64 0, .slice none 0 0, .slice none 0 0] 36) := ⟨_, rfl⟩
  replace h := h b2 hb_b2 w2 hw_w2
  refine LW.val hL rfl (Wants.free rfl) rfl (boxE hb_b2 hw_w2 (Vl.alloc (z := .agg #[.int .i64 0, .int .i64 0, .int .i64 0, .slice none 0 0, .slice none 0 0]) (by kernel_rfl))) ?_
  refine LW.nil hL rfl ?_
  refine NW.then ?_
  refine CW.seq ?_
  replace h := h _ rfl
  obtain ⟨t1, t2, hc1, h⟩ := h
  refine CW.drawn (fun w => CellsAt w (⟨b1, 0, none⟩ : Addr) 0 [.int .i64 t1, .int .i64 t2] ∧ True) 4 (by kernel_rfl) fun H hH => ?_
  generalize World.drew _ = w3 at *
  have hS1 : CellsAt w3 (⟨b1, 0, none⟩ : Addr) 0 [.int .i64 t1, .int .i64 t2] ∧ True := ⟨hc1, trivial⟩
  refine HW.take (i := 0) hH rfl (by kernel_rfl) (by kernel_rfl) (Wants.free rfl) rfl (fun _ => hS1) (Rd.ldN (cs := [.int .i64 t1, .int .i64 t2]) rfl (by kernel_rfl) (by kernel_rfl) (fun w h => cellsAt_get h.1)) ?_
  refine HW.pure (i := 1) hH rfl (by kernel_rfl) (Wants.free rfl) rfl (fun _ => hS1) (Rd.move (v := .int .i64 most1) rfl) ?_
  refine HW.call (i := 2) hH (by kernel_rfl) rfl (Wants.free rfl) rfl (Cl.fn (f := 69) rfl Try.func69 (by kernel_rfl) rfl) h (fun e w4 h_ => ?_)
  clear h
  obtain ⟨r6, r7, r7n, r7c, rfl, hS2, h⟩ := h_
  refine ⟨_, rfl, (fun _ => hS2), ?_⟩
  refine HW.pure (i := 3) hH rfl (by kernel_rfl) (Wants.free rfl) rfl (fun _ => hS2) (Rd.build (v := .agg #[.int .i64 t1, .int .i64 t2, .int .i64 r6, .slice r7 r7n r7c, .slice none 0 0]) rfl (fun _ => by kernel_rfl)) ?_
  obtain ⟨ho1, hf1, h⟩ := h
  obtain ⟨w5, hw_w5⟩ : ∃ w5, w5 = setCells w4 (⟨b2, 0, none⟩ : Addr) 0 [.int .i64 t1, .int .i64 t2, .int .i64 r6, .slice r7 r7n r7c, .slice none 0 0] := ⟨_, rfl⟩
  replace h := h w5 hw_w5
  refine HW.eff (i := 4) hH (by kernel_rfl) rfl (Wants.free rfl) rfl (stNE hw_w5 (Ef.stN (cs := [.int .i64 t1, .int .i64 t2, .int .i64 r6, .slice r7 r7n r7c, .slice none 0 0]) rfl rfl (by kernel_rfl) (List.forall_mem_cons.2 ⟨rfl, (List.forall_mem_cons.2 ⟨rfl, (List.forall_mem_cons.2 ⟨rfl, (List.forall_mem_cons.2 ⟨rfl, (List.forall_mem_cons.2 ⟨rfl, (List.forall_mem_nil _)⟩)⟩)⟩)⟩)⟩) ho1 hf1)) (fun hc => by cases hc) ?_
  refine HW.done hH (by kernel_rfl) ?_
  refine NW.then ?_
  refine CW.ret ?_
  obtain ⟨r8, r9, r10, r11, r11n, r11c, r12, r12n, r12c, hr1, h⟩ := h
  exact resN (vs := [.agg #[.int .i64 r8, .int .i64 r9, .int .i64 r10, .slice r11 r11n r11c, .slice r12 r12n r12c]]) (ResOK.c rfl (lvN (cs := [.int .i64 r8, .int .i64 r9, .int .i64 r10, .slice r11 r11n r11c, .slice r12 r12n r12c]) (by kernel_rfl) (by kernel_rfl) (cellsAt_get hr1)) ResOK.nil) rfl ⟨r8, r9, r10, r11, r11n, r11c, r12, r12n, r12c, rfl, h⟩

/- (*pomander/flow.Flow).Get -/
def V_flow_Flow_Get (f1 : Option Addr) (p1 : Int) (p2 : Int) (w : World) (R : Int → Int → World → Prop) : Prop :=
  ∀ b1 : Nat, b1 = World.size w → ∀ w1 : World, w1 = World.alloc w (.cells #[.int .i64 p1, .int .i64 p2] 56) → (∃ J1 : Int × Int → World → Prop, (∀ (s1 : Int × Int) (w2 : World), J1 s1 w2 → R 0 s1.2 w2) ∧ (Calls Try.prog 73 #[.pointer f1] w1 fun e w3 => ∃ (r3 : Bool), e = .returned (.bool r3) ∧ ((r3 = true → J1 (0, 1) w3) ∧ (r3 = false → ∃ (t1 : Int) (t2 : Int), CellsAt w3 (⟨b1, 0, none⟩ : Addr) 0 [.int .i64 t1, .int .i64 t2] ∧ (Calls Try.prog 74 #[.pointer f1, .agg #[.int .i64 t1, .int .i64 t2]] w3 fun e w4 => ∃ (r4 : Bool), e = .returned (.bool r4) ∧ (((!r4) = true → J1 (0, 2) w4) ∧ ((!r4) = false → ∃ (t3 : Int) (t4 : Int), CellsAt w4 (⟨b1, 0, none⟩ : Addr) 0 [.int .i64 t3, .int .i64 t4] ∧ (Calls Try.prog 75 #[.pointer f1, .agg #[.int .i64 t3, .int .i64 t4]] w4 fun e w5 => ∃ (r5 : Int), e = .returned (.int .u32 r5) ∧ (R r5 0 w5)))))))))
set_option maxRecDepth 100000 in
theorem ok_flow_Flow_Get (f1 : Option Addr) (p1 : Int) (p2 : Int) (w : World) (R : Int → Int → World → Prop) (h : V_flow_Flow_Get f1 p1 p2 w R) : Calls Try.prog 28 #[.pointer f1, .agg #[.int .i64 p1, .int .i64 p2]] w (fun e w' => ∃ (r1 : Int) (r2 : Int), e = .returned (.tuple #[.int .u32 r1, .int .i64 r2]) ∧ R r1 r2 w') := by
  unfold V_flow_Flow_Get at h
  refine enter (N := 16) Try.func28 rfl rfl ?_
  refine CW.seq ?_
  refine CW.region fun L hL => ?_
  obtain ⟨b1, hb_b1⟩ : ∃ b1, b1 = World.size w := ⟨_, rfl⟩
  obtain ⟨w1, hw_w1⟩ : ∃ w1, w1 = World.alloc w (.cells #[.int .i64 p1, .int .i64 p2] 56) := ⟨_, rfl⟩
  replace h := h b1 hb_b1 w1 hw_w1
  refine LW.val hL rfl (Wants.free rfl) rfl (boxE hb_b1 hw_w1 (Vl.box (v := .agg #[.int .i64 p1, .int .i64 p2]) rfl)) ?_
  refine LW.rd hL rfl (Wants.free rfl) rfl (Rd.assign (v := .int .u32 0) rfl) ?_
  refine LW.rd hL rfl (Wants.free rfl) rfl (Rd.assign (v := .int .i64 0) rfl) ?_
  refine LW.nil hL rfl ?_
  refine NW.then ?_
  obtain ⟨J1, hJ1, h⟩ := h
  refine CW.scope (S := Int × Int) 0 (fun s1 => [(4, .int .u32 s1.1), (5, .int .i64 s1.2)]) J1 rfl (fun s1 w2 h_ => ?_) ?_
  · replace h := hJ1 s1 w2 h_; clear h_
    refine CW.seq ?_
    refine CW.skip ?_
    refine NW.then ?_
    refine CW.seq ?_
    refine CW.region fun L hL => ?_
    refine LW.rd hL rfl (Wants.free rfl) rfl (Rd.move (v := .int .i64 s1.2) rfl) ?_
    refine LW.rd hL rfl (Wants.free rfl) rfl (Rd.assign (v := .int .u32 0) rfl) ?_
    refine LW.rd hL rfl (Wants.free rfl) rfl (Rd.assign (v := .int .i64 s1.2) rfl) ?_
    refine LW.nil hL rfl ?_
    refine NW.then ?_
    refine CW.ret ?_
    refine RW.jump ?_
    exact res2 rfl rfl rfl ⟨0, s1.2, rfl, h⟩
  · skip
    refine CW.seq ?_
    refine CW.seq ?_
    refine CW.region fun L hL => ?_
    refine LW.rd hL rfl (Wants.free rfl) rfl (Rd.assign (v := .int .i64 1) rfl) ?_
    refine LW.nil hL rfl ?_
    refine NW.then ?_
    refine CW.seq ?_
    refine CW.region fun L hL => ?_
    refine LW.rd hL rfl (Wants.free rfl) rfl (Rd.move (v := .pointer f1) rfl) ?_
    refine LW.call hL rfl (Wants.free rfl) rfl (Cl.fn (f := 73) rfl Try.func73 (by kernel_rfl) rfl) h (fun e w3 h_ => ?_)
    clear h
    obtain ⟨r3, rfl, h⟩ := h_
    refine ⟨_, rfl, ?_⟩
    refine LW.nil hL rfl ?_
    refine NW.then ?_
    refine CW.cond rfl (fun hb1 => ?_) (fun hb1 => ?_)
    · replace h := h.1 hb1
      refine CW.goto ?_
      refine GW.then ?_
      exact GW.hit (S := Int × Int) (Ek := fun s1 => [(4, .int .u32 s1.1), (5, .int .i64 s1.2)]) (0, 1) (by exact ⟨rfl, rfl, trivial⟩) h
    · replace h := h.2 hb1
      refine CW.skip ?_
      refine NW.then ?_
      refine CW.seq ?_
      refine CW.seq ?_
      refine CW.region fun L hL => ?_
      refine LW.rd hL rfl (Wants.free rfl) rfl (Rd.assign (v := .int .i64 2) rfl) ?_
      refine LW.nil hL rfl ?_
      refine NW.then ?_
      refine CW.seq ?_
      refine CW.region fun L hL => ?_
      refine LW.rd hL rfl (Wants.free rfl) rfl (Rd.move (v := .pointer f1) rfl) ?_
      obtain ⟨t1, t2, hc1, h⟩ := h
      refine LW.rd hL rfl (Wants.free rfl) rfl (Rd.ldN (cs := [.int .i64 t1, .int .i64 t2]) rfl (by kernel_rfl) (by kernel_rfl) (cellsS hc1)) ?_
      refine LW.call hL rfl (Wants.free rfl) rfl (Cl.fn (f := 74) rfl Try.func74 (by kernel_rfl) rfl) h (fun e w4 h_ => ?_)
      clear h
      obtain ⟨r4, rfl, h⟩ := h_
      refine ⟨_, rfl, ?_⟩
      refine LW.rd hL rfl (Wants.free rfl) rfl (Rd.un (v := .bool (!r4)) rfl (fun _ => by kernel_rfl)) ?_
      refine LW.nil hL rfl ?_
      refine NW.then ?_
      refine CW.cond rfl (fun hb2 => ?_) (fun hb2 => ?_)
      · replace h := h.1 hb2
        refine CW.goto ?_
        refine GW.then ?_
        exact GW.hit (S := Int × Int) (Ek := fun s1 => [(4, .int .u32 s1.1), (5, .int .i64 s1.2)]) (0, 2) (by exact ⟨rfl, rfl, trivial⟩) h
      · replace h := h.2 hb2
        refine CW.skip ?_
        refine NW.then ?_
        refine CW.seq ?_
        refine CW.seq ?_
        refine CW.region fun L hL => ?_
        refine LW.rd hL rfl (Wants.free rfl) rfl (Rd.move (v := .pointer f1) rfl) ?_
        obtain ⟨t3, t4, hc2, h⟩ := h
        refine LW.rd hL rfl (Wants.free rfl) rfl (Rd.ldN (cs := [.int .i64 t3, .int .i64 t4]) rfl (by kernel_rfl) (by kernel_rfl) (cellsS hc2)) ?_
        refine LW.call hL rfl (Wants.free rfl) rfl (Cl.fn (f := 75) rfl Try.func75 (by kernel_rfl) rfl) h (fun e w5 h_ => ?_)
        clear h
        obtain ⟨r5, rfl, h⟩ := h_
        refine ⟨_, rfl, ?_⟩
        refine LW.rd hL rfl (Wants.free rfl) rfl (Rd.assign (v := .int .u32 r5) rfl) ?_
        refine LW.rd hL rfl (Wants.free rfl) rfl (Rd.assign (v := .int .i64 0) rfl) ?_
        refine LW.nil hL rfl ?_
        refine NW.then ?_
        refine CW.ret ?_
        refine RW.then ?_
        refine RW.jump ?_
        exact res2 rfl rfl rfl ⟨r5, 0, rfl, h⟩

/- (pomander/pomanderref12.Flow).May -/
def V_pomanderref12_Flow_May (f1 : Int) (f2 : Int) (f3 : Int) (f4 : Option Addr) (f4n : Nat) (f4c : Nat) (f5 : Option Addr) (f5n : Nat) (f5c : Nat) (p1 : Int) (p2 : Int) (w : World) (R : Bool → World → Prop) : Prop :=
  ∀ b1 : Nat, b1 = World.size w → ∀ w1 : World, w1 = World.alloc w (.cells #[.int .i64 f1, .int .i64 f2, .int .i64 f3, .slice f4 f4n f4c, .slice f5 f5n f5c] 36) → (∀ b2 : Nat, b2 = World.size w1 → ∀ w2 : World, w2 = World.alloc w1 (.cells #[.int .i64 p1, .int .i64 p2] 56) → (∃ (t1 : Int), w2.cell? (⟨b2, 0, none⟩ : Addr) = some (.int .i64 t1) ∧ (∃ J1 : Bool × Int → World → Prop, (∀ (s1 : Bool × Int) (w3 : World), J1 s1 w3 → ∃ (t2 : Int), w3.cell? (⟨b2, 1, none⟩ : Addr) = some (.int .i64 t2) ∧ (∃ J2 : Bool → World → Prop, (∀ (b3 : Bool) (w4 : World), J2 b3 w4 → R b3 w4) ∧ (((decide (t2 ≥ 0)) = true → ∃ (t3 : Int), w3.cell? (⟨b2, 1, none⟩ : Addr) = some (.int .i64 t3) ∧ (J2 (decide (t3 < s1.2)) w3)) ∧ ((decide (t2 ≥ 0)) = false → J2 false w3)))) ∧ (((decide (t1 < 1) || decide (t1 > 17)) = true → R false w2) ∧ ((decide (t1 < 1) || decide (t1 > 17)) = false → ((t1 == 1) = true → J1 (false, 8) w2) ∧ ((t1 == 1) = false → ((t1 == 10) = true → ∃ (t4 : Int), w2.cell? (⟨b1, 0, none⟩ : Addr) = some (.int .i64 t4) ∧ (J1 (false, IntKind.wrap .i64 (64 * t4)) w2)) ∧ ((t1 == 10) = false → ((t1 == 11) = true → J1 (false, 4) w2) ∧ ((t1 == 11) = false → ((t1 == 12) = true → ∃ (t5 : Int), w2.cell? (⟨b1, 1, none⟩ : Addr) = some (.int .i64 t5) ∧ (J1 (false, IntKind.wrap .i64 (64 * t5)) w2)) ∧ ((t1 == 12) = false → ((decide (t1 ≥ 13) && decide (t1 ≤ 16)) = true → J1 (false, 2147483648) w2) ∧ ((decide (t1 ≥ 13) && decide (t1 ≤ 16)) = false → ((t1 == 17) = true → J1 (false, 2) w2) ∧ ((t1 == 17) = false → J1 (false, 1) w2)))))))))))
set_option maxRecDepth 100000 in
theorem ok_pomanderref12_Flow_May (f1 : Int) (f2 : Int) (f3 : Int) (f4 : Option Addr) (f4n : Nat) (f4c : Nat) (f5 : Option Addr) (f5n : Nat) (f5c : Nat) (p1 : Int) (p2 : Int) (w : World) (R : Bool → World → Prop) (h : V_pomanderref12_Flow_May f1 f2 f3 f4 f4n f4c f5 f5n f5c p1 p2 w R) : Calls Try.prog 29 #[.agg #[.int .i64 f1, .int .i64 f2, .int .i64 f3, .slice f4 f4n f4c, .slice f5 f5n f5c], .agg #[.int .i64 p1, .int .i64 p2]] w (fun e w' => ∃ (r1 : Bool), e = .returned (.bool r1) ∧ R r1 w') := by
  unfold V_pomanderref12_Flow_May at h
  refine enter (N := 55) Try.func29 rfl rfl ?_
  refine CW.seq ?_
  refine CW.region fun L hL => ?_
  obtain ⟨b1, hb_b1⟩ : ∃ b1, b1 = World.size w := ⟨_, rfl⟩
  obtain ⟨w1, hw_w1⟩ : ∃ w1, w1 = World.alloc w (.cells #[.int .i64 f1, .int .i64 f2, .int .i64 f3, .slice f4 f4n f4c, .slice f5 f5n f5c] 36) := ⟨_, rfl⟩
  replace h := h b1 hb_b1 w1 hw_w1
  refine LW.val hL rfl (Wants.free rfl) rfl (boxE hb_b1 hw_w1 (Vl.box (v := .agg #[.int .i64 f1, .int .i64 f2, .int .i64 f3, .slice f4 f4n f4c, .slice f5 f5n f5c]) rfl)) ?_
  obtain ⟨b2, hb_b2⟩ : ∃ b2, b2 = World.size w1 := ⟨_, rfl⟩
  obtain ⟨w2, hw_w2⟩ : ∃ w2, w2 = World.alloc w1 (.cells #[.int .i64 p1, .int .i64 p2] 56) := ⟨_, rfl⟩
  replace h := h b2 hb_b2 w2 hw_w2
  refine LW.val hL rfl (Wants.free rfl) rfl (boxE hb_b2 hw_w2 (Vl.box (v := .agg #[.int .i64 p1, .int .i64 p2]) rfl)) ?_
  refine LW.rd hL rfl (Wants.free rfl) rfl (Rd.assign (v := .bool false) rfl) ?_
  refine LW.nil hL rfl ?_
  refine NW.then ?_
  refine CW.seq ?_
  refine CW.region fun L hL => ?_
  refine LW.rd hL rfl (Wants.free rfl) rfl (Rd.fa (v := .pointer (some (⟨b2, 0, none⟩ : Addr))) rfl (fun _ => by kernel_rfl)) ?_
  obtain ⟨t1, hc1, h⟩ := h
  refine LW.rd hL rfl (Wants.free rfl) rfl (Rd.ld (v := .int .i64 t1) rfl (by kernel_rfl) (eqs hc1)) ?_
  refine LW.rd hL rfl (Wants.free rfl) rfl (Rd.assign (v := .int .i64 t1) rfl) ?_
  refine LW.nil hL rfl ?_
  refine NW.then ?_
  refine CW.seq ?_
  refine CW.region fun L hL => ?_
  refine LW.rd hL rfl (Wants.free rfl) rfl (Rd.assign (v := .int .i64 1) rfl) ?_
  refine LW.nil hL rfl ?_
  refine NW.then ?_
  obtain ⟨J1, hJ1, h⟩ := h
  refine CW.cut (S := Bool × Int) (fun s1 => [(3, .pointer (some (⟨b2, 0, none⟩ : Addr))), (4, .bool s1.1), (6, .int .i64 s1.2)]) J1 (fun s1 w3 h_ => ?_) ?_
  · replace h := hJ1 s1 w3 h_; clear h_
    refine CW.seq ?_
    refine CW.region fun L hL => ?_
    refine LW.rd hL rfl (Wants.free rfl) rfl (Rd.fa (v := .pointer (some (⟨b2, 1, none⟩ : Addr))) rfl (fun _ => by kernel_rfl)) ?_
    obtain ⟨t2, hc2, h⟩ := h
    refine LW.rd hL rfl (Wants.free rfl) rfl (Rd.ld (v := .int .i64 t2) rfl (by kernel_rfl) (eqs hc2)) ?_
    refine LW.rd hL rfl (Wants.free rfl) rfl (Rd.bin (v := .bool (decide (t2 ≥ 0))) rfl rfl (fun w => by kernel_rfl)) ?_
    refine LW.rd hL rfl (Wants.free rfl) rfl (Rd.move (v := .bool (decide (t2 ≥ 0))) rfl) ?_
    obtain ⟨J2, hJ2, h1_J2, h0_J2⟩ := h
    suffices K1 : ∀ (b3 : Bool) (w4 : World), J2 b3 w4 → L 9 [(4, .bool s1.1), (54, .bool b3)] w4 by
      rcases Bool.eq_false_or_eq_true (decide (t2 ≥ 0)) with hb1 | hb1
      · have h := h1_J2 hb1
        refine LW.rd hL rfl (Wants.on rfl rfl rfl rfl rfl hb1) rfl (Rd.fa (v := .pointer (some (⟨b2, 1, none⟩ : Addr))) rfl (fun _ => by kernel_rfl)) ?_
        obtain ⟨t3, hc3, h⟩ := h
        refine LW.rd hL rfl (Wants.on rfl rfl rfl rfl rfl hb1) rfl (Rd.ld (v := .int .i64 t3) rfl (by kernel_rfl) (eqs hc3)) ?_
        refine LW.rd hL rfl (Wants.on rfl rfl rfl rfl rfl hb1) rfl (Rd.move (v := .int .i64 s1.2) rfl) ?_
        refine LW.rd hL rfl (Wants.on rfl rfl rfl rfl rfl hb1) rfl (Rd.bin (v := .bool (decide (t3 < s1.2))) rfl rfl (fun w => by kernel_rfl)) ?_
        refine LW.rd hL rfl (Wants.free rfl) rfl (Rd.pickT rfl hb1 rfl) ?_
        exact LW.sub hL (by exact ⟨rfl, rfl, trivial⟩) (K1 (decide (t3 < s1.2)) w3 h)
      · have h := h0_J2 hb1
        refine LW.skip hL rfl (Skips.on rfl rfl rfl rfl rfl hb1) rfl ?_
        refine LW.skip hL rfl (Skips.on rfl rfl rfl rfl rfl hb1) rfl ?_
        refine LW.skip hL rfl (Skips.on rfl rfl rfl rfl rfl hb1) rfl ?_
        refine LW.skip hL rfl (Skips.on rfl rfl rfl rfl rfl hb1) rfl ?_
        refine LW.rd hL rfl (Wants.free rfl) rfl (Rd.pickF rfl hb1 rfl) ?_
        exact LW.sub hL (by exact ⟨rfl, rfl, trivial⟩) (K1 false w3 h)
    intro b3 w4 h_
    have h := hJ2 b3 w4 h_; clear h_
    refine LW.rd hL rfl (Wants.free rfl) rfl (Rd.assign (v := .bool b3) rfl) ?_
    refine LW.nil hL rfl ?_
    refine NW.then ?_
    refine CW.ret ?_
    exact res1 rfl rfl ⟨b3, rfl, h⟩
  · skip
    refine CW.block ?_
    refine CW.seq ?_
    refine CW.region fun L hL => ?_
    refine LW.rd hL rfl (Wants.free rfl) rfl (Rd.move (v := .int .i64 t1) rfl) ?_
    refine LW.rd hL rfl (Wants.free rfl) rfl (Rd.bin (v := .bool (decide (t1 < 1))) rfl rfl (fun w => by kernel_rfl)) ?_
    refine LW.rd hL rfl (Wants.free rfl) rfl (Rd.move (v := .bool (decide (t1 < 1))) rfl) ?_
    suffices K2 : L 6 [(2, .pointer (some (⟨b1, 0, none⟩ : Addr))), (3, .pointer (some (⟨b2, 0, none⟩ : Addr))), (4, .bool false), (5, .int .i64 t1), (6, .int .i64 1), (15, .bool (decide (t1 < 1) || decide (t1 > 17)))] w2 by
      rcases Bool.eq_false_or_eq_true (decide (t1 < 1)) with hb3 | hb3
      · skip
        refine LW.skip hL rfl (Skips.on rfl rfl rfl rfl rfl hb3) rfl ?_
        refine LW.skip hL rfl (Skips.on rfl rfl rfl rfl rfl hb3) rfl ?_
        refine LW.rd hL rfl (Wants.free rfl) rfl (Rd.pickT rfl hb3 rfl) ?_
        exact LW.sub hL (by exact ⟨rfl, rfl, rfl, rfl, rfl, (by rw [hb3]; rfl), trivial⟩) K2
      · skip
        refine LW.rd hL rfl (Wants.on rfl rfl rfl rfl rfl hb3) rfl (Rd.move (v := .int .i64 t1) rfl) ?_
        refine LW.rd hL rfl (Wants.on rfl rfl rfl rfl rfl hb3) rfl (Rd.bin (v := .bool (decide (t1 > 17))) rfl rfl (fun w => by kernel_rfl)) ?_
        refine LW.rd hL rfl (Wants.free rfl) rfl (Rd.pickF rfl hb3 rfl) ?_
        exact LW.sub hL (by exact ⟨rfl, rfl, rfl, rfl, rfl, (by rw [hb3]; rfl), trivial⟩) K2
    refine LW.rd hL rfl (Wants.free rfl) rfl (Rd.assign (v := .bool (decide (t1 < 1) || decide (t1 > 17))) rfl) ?_
    refine LW.nil hL rfl ?_
    refine NW.then ?_
    refine CW.cond rfl (fun hb4 => ?_) (fun hb4 => ?_)
    · replace h := h.1 hb4
      refine CW.seq ?_
      refine CW.region fun L hL => ?_
      refine LW.rd hL rfl (Wants.free rfl) rfl (Rd.assign (v := .bool false) rfl) ?_
      refine LW.nil hL rfl ?_
      refine NW.then ?_
      refine CW.ret ?_
      refine RW.block ?_
      refine RW.then ?_
      exact res1 rfl rfl ⟨false, rfl, h⟩
    · replace h := h.2 hb4
      refine CW.seq ?_
      refine CW.region fun L hL => ?_
      refine LW.rd hL rfl (Wants.free rfl) rfl (Rd.move (v := .int .i64 t1) rfl) ?_
      refine LW.rd hL rfl (Wants.free rfl) rfl (Rd.bin (v := .bool (t1 == 1)) rfl rfl (fun w => by kernel_rfl)) ?_
      refine LW.rd hL rfl (Wants.free rfl) rfl (Rd.assign (v := .bool (t1 == 1)) rfl) ?_
      refine LW.nil hL rfl ?_
      refine NW.then ?_
      refine CW.cond rfl (fun hb5 => ?_) (fun hb5 => ?_)
      · replace h := h.1 hb5
        refine CW.region fun L hL => ?_
        refine LW.rd hL rfl (Wants.free rfl) rfl (Rd.assign (v := .int .i64 8) rfl) ?_
        refine LW.nil hL rfl ?_
        refine NW.block ?_
        exact NW.cut (S := Bool × Int) (Ek := fun s1 => [(3, .pointer (some (⟨b2, 0, none⟩ : Addr))), (4, .bool s1.1), (6, .int .i64 s1.2)]) (false, 8) (by exact ⟨rfl, rfl, rfl, trivial⟩) h
      · replace h := h.2 hb5
        refine CW.seq ?_
        refine CW.region fun L hL => ?_
        refine LW.rd hL rfl (Wants.free rfl) rfl (Rd.move (v := .int .i64 t1) rfl) ?_
        refine LW.rd hL rfl (Wants.free rfl) rfl (Rd.bin (v := .bool (t1 == 10)) rfl rfl (fun w => by kernel_rfl)) ?_
        refine LW.rd hL rfl (Wants.free rfl) rfl (Rd.assign (v := .bool (t1 == 10)) rfl) ?_
        refine LW.nil hL rfl ?_
        refine NW.then ?_
        refine CW.cond rfl (fun hb6 => ?_) (fun hb6 => ?_)
        · replace h := h.1 hb6
          refine CW.region fun L hL => ?_
          refine LW.rd hL rfl (Wants.free rfl) rfl (Rd.fa (v := .pointer (some (⟨b1, 0, none⟩ : Addr))) rfl (fun _ => by kernel_rfl)) ?_
          refine LW.rd hL rfl (Wants.free rfl) rfl (Rd.fa (v := .pointer (some (⟨b1, 0, none⟩ : Addr))) rfl (fun _ => by kernel_rfl)) ?_
          obtain ⟨t4, hc4, h⟩ := h
          refine LW.rd hL rfl (Wants.free rfl) rfl (Rd.ld (v := .int .i64 t4) rfl (by kernel_rfl) (eqs hc4)) ?_
          refine LW.rd hL rfl (Wants.free rfl) rfl (Rd.bin (v := .int .i64 (IntKind.wrap .i64 (64 * t4))) rfl rfl (fun w => by kernel_rfl)) ?_
          refine LW.rd hL rfl (Wants.free rfl) rfl (Rd.assign (v := .int .i64 (IntKind.wrap .i64 (64 * t4))) rfl) ?_
          refine LW.nil hL rfl ?_
          refine NW.block ?_
          exact NW.cut (S := Bool × Int) (Ek := fun s1 => [(3, .pointer (some (⟨b2, 0, none⟩ : Addr))), (4, .bool s1.1), (6, .int .i64 s1.2)]) (false, IntKind.wrap .i64 (64 * t4)) (by exact ⟨rfl, rfl, rfl, trivial⟩) h
        · replace h := h.2 hb6
          refine CW.seq ?_
          refine CW.region fun L hL => ?_
          refine LW.rd hL rfl (Wants.free rfl) rfl (Rd.move (v := .int .i64 t1) rfl) ?_
          refine LW.rd hL rfl (Wants.free rfl) rfl (Rd.bin (v := .bool (t1 == 11)) rfl rfl (fun w => by kernel_rfl)) ?_
          refine LW.rd hL rfl (Wants.free rfl) rfl (Rd.assign (v := .bool (t1 == 11)) rfl) ?_
          refine LW.nil hL rfl ?_
          refine NW.then ?_
          refine CW.cond rfl (fun hb7 => ?_) (fun hb7 => ?_)
          · replace h := h.1 hb7
            refine CW.region fun L hL => ?_
            refine LW.rd hL rfl (Wants.free rfl) rfl (Rd.assign (v := .int .i64 4) rfl) ?_
            refine LW.nil hL rfl ?_
            refine NW.block ?_
            exact NW.cut (S := Bool × Int) (Ek := fun s1 => [(3, .pointer (some (⟨b2, 0, none⟩ : Addr))), (4, .bool s1.1), (6, .int .i64 s1.2)]) (false, 4) (by exact ⟨rfl, rfl, rfl, trivial⟩) h
          · replace h := h.2 hb7
            refine CW.seq ?_
            refine CW.region fun L hL => ?_
            refine LW.rd hL rfl (Wants.free rfl) rfl (Rd.move (v := .int .i64 t1) rfl) ?_
            refine LW.rd hL rfl (Wants.free rfl) rfl (Rd.bin (v := .bool (t1 == 12)) rfl rfl (fun w => by kernel_rfl)) ?_
            refine LW.rd hL rfl (Wants.free rfl) rfl (Rd.assign (v := .bool (t1 == 12)) rfl) ?_
            refine LW.nil hL rfl ?_
            refine NW.then ?_
            refine CW.cond rfl (fun hb8 => ?_) (fun hb8 => ?_)
            · replace h := h.1 hb8
              refine CW.region fun L hL => ?_
              refine LW.rd hL rfl (Wants.free rfl) rfl (Rd.fa (v := .pointer (some (⟨b1, 0, none⟩ : Addr))) rfl (fun _ => by kernel_rfl)) ?_
              refine LW.rd hL rfl (Wants.free rfl) rfl (Rd.fa (v := .pointer (some (⟨b1, 1, none⟩ : Addr))) rfl (fun _ => by kernel_rfl)) ?_
              obtain ⟨t5, hc5, h⟩ := h
              refine LW.rd hL rfl (Wants.free rfl) rfl (Rd.ld (v := .int .i64 t5) rfl (by kernel_rfl) (eqs hc5)) ?_
              refine LW.rd hL rfl (Wants.free rfl) rfl (Rd.bin (v := .int .i64 (IntKind.wrap .i64 (64 * t5))) rfl rfl (fun w => by kernel_rfl)) ?_
              refine LW.rd hL rfl (Wants.free rfl) rfl (Rd.assign (v := .int .i64 (IntKind.wrap .i64 (64 * t5))) rfl) ?_
              refine LW.nil hL rfl ?_
              refine NW.block ?_
              exact NW.cut (S := Bool × Int) (Ek := fun s1 => [(3, .pointer (some (⟨b2, 0, none⟩ : Addr))), (4, .bool s1.1), (6, .int .i64 s1.2)]) (false, IntKind.wrap .i64 (64 * t5)) (by exact ⟨rfl, rfl, rfl, trivial⟩) h
            · replace h := h.2 hb8
              refine CW.seq ?_
              refine CW.region fun L hL => ?_
              refine LW.rd hL rfl (Wants.free rfl) rfl (Rd.move (v := .int .i64 t1) rfl) ?_
              refine LW.rd hL rfl (Wants.free rfl) rfl (Rd.bin (v := .bool (decide (t1 ≥ 13))) rfl rfl (fun w => by kernel_rfl)) ?_
              refine LW.rd hL rfl (Wants.free rfl) rfl (Rd.move (v := .bool (decide (t1 ≥ 13))) rfl) ?_
              suffices K3 : L 6 [(3, .pointer (some (⟨b2, 0, none⟩ : Addr))), (4, .bool false), (5, .int .i64 t1), (6, .int .i64 1), (42, .bool (decide (t1 ≥ 13) && decide (t1 ≤ 16)))] w2 by
                rcases Bool.eq_false_or_eq_true (decide (t1 ≥ 13)) with hb10 | hb10
                · skip
                  refine LW.rd hL rfl (Wants.on rfl rfl rfl rfl rfl hb10) rfl (Rd.move (v := .int .i64 t1) rfl) ?_
                  refine LW.rd hL rfl (Wants.on rfl rfl rfl rfl rfl hb10) rfl (Rd.bin (v := .bool (decide (t1 ≤ 16))) rfl rfl (fun w => by kernel_rfl)) ?_
                  refine LW.rd hL rfl (Wants.free rfl) rfl (Rd.pickT rfl hb10 rfl) ?_
                  exact LW.sub hL (by exact ⟨rfl, rfl, rfl, rfl, (by rw [hb10]; rfl), trivial⟩) K3
                · skip
                  refine LW.skip hL rfl (Skips.on rfl rfl rfl rfl rfl hb10) rfl ?_
                  refine LW.skip hL rfl (Skips.on rfl rfl rfl rfl rfl hb10) rfl ?_
                  refine LW.rd hL rfl (Wants.free rfl) rfl (Rd.pickF rfl hb10 rfl) ?_
                  exact LW.sub hL (by exact ⟨rfl, rfl, rfl, rfl, (by rw [hb10]; rfl), trivial⟩) K3
              refine LW.rd hL rfl (Wants.free rfl) rfl (Rd.assign (v := .bool (decide (t1 ≥ 13) && decide (t1 ≤ 16))) rfl) ?_
              refine LW.nil hL rfl ?_
              refine NW.then ?_
              refine CW.cond rfl (fun hb11 => ?_) (fun hb11 => ?_)
              · replace h := h.1 hb11
                refine CW.region fun L hL => ?_
                refine LW.rd hL rfl (Wants.free rfl) rfl (Rd.assign (v := .int .i64 2147483648) rfl) ?_
                refine LW.nil hL rfl ?_
                refine NW.block ?_
                exact NW.cut (S := Bool × Int) (Ek := fun s1 => [(3, .pointer (some (⟨b2, 0, none⟩ : Addr))), (4, .bool s1.1), (6, .int .i64 s1.2)]) (false, 2147483648) (by exact ⟨rfl, rfl, rfl, trivial⟩) h
              · replace h := h.2 hb11
                refine CW.seq ?_
                refine CW.region fun L hL => ?_
                refine LW.rd hL rfl (Wants.free rfl) rfl (Rd.move (v := .int .i64 t1) rfl) ?_
                refine LW.rd hL rfl (Wants.free rfl) rfl (Rd.bin (v := .bool (t1 == 17)) rfl rfl (fun w => by kernel_rfl)) ?_
                refine LW.rd hL rfl (Wants.free rfl) rfl (Rd.assign (v := .bool (t1 == 17)) rfl) ?_
                refine LW.nil hL rfl ?_
                refine NW.then ?_
                refine CW.cond rfl (fun hb12 => ?_) (fun hb12 => ?_)
                · replace h := h.1 hb12
                  refine CW.region fun L hL => ?_
                  refine LW.rd hL rfl (Wants.free rfl) rfl (Rd.assign (v := .int .i64 2) rfl) ?_
                  refine LW.nil hL rfl ?_
                  refine NW.block ?_
                  exact NW.cut (S := Bool × Int) (Ek := fun s1 => [(3, .pointer (some (⟨b2, 0, none⟩ : Addr))), (4, .bool s1.1), (6, .int .i64 s1.2)]) (false, 2) (by exact ⟨rfl, rfl, rfl, trivial⟩) h
                · replace h := h.2 hb12
                  refine CW.skip ?_
                  refine NW.block ?_
                  exact NW.cut (S := Bool × Int) (Ek := fun s1 => [(3, .pointer (some (⟨b2, 0, none⟩ : Addr))), (4, .bool s1.1), (6, .int .i64 s1.2)]) (false, 1) (by exact ⟨rfl, rfl, rfl, trivial⟩) h

/- pomander/policy.Of -/
def V_policy_Of (r1 : Int) (r2 : Int) (r3 : Int) (r4 : Int) (r5 : Int) (r6 : Int) (r7 : Int) (r8 : Int) (r9 : Int) (r10 : Int) (r11 : Int) (w : World) (R : (Option Addr) → Int → World → Prop) : Prop :=
  ∀ b1 : Nat, b1 = World.size w → ∀ w1 : World, w1 = World.alloc w (.cells #[.int .u32 r1, .int .u32 r2, .int .u32 r3, .int .u32 r4, .int .u32 r5, .int .u32 r6, .int .u32 r7, .int .u32 r8, .int .u32 r9, .int .u32 r10, .int .u32 r11] 66) → (∃ J1 : (Option Addr) × Int → World → Prop, (∀ (s1 : (Option Addr) × Int) (w2 : World), J1 s1 w2 → R none 2 w2) ∧ ((0 : Int) ≤ 0 ∧ (0 : Int) < 5 ∧ (∃ (t1 : Int), w1.cell? ((⟨b1, 0, none⟩ : Addr).add (Int.toNat 0 * 1)) = some (.int .u32 t1) ∧ (∃ J2 : Bool → World → Prop, (∀ (b2 : Bool) (w3 : World), J2 b2 w3 → ∃ J3 : Bool → World → Prop, (∀ (b3 : Bool) (w4 : World), J3 b3 w4 → (b3 = true → J1 (none, 0) w4) ∧ (b3 = false → ∃ (t4 : Int) (t5 : Int) (t6 : Int) (t7 : Int) (t8 : Int), CellsAt w4 (⟨b1, 0, none⟩ : Addr) 0 [.int .u32 t4, .int .u32 t5, .int .u32 t6, .int .u32 t7, .int .u32 t8] ∧ (∃ (t9 : Int) (t10 : Int) (t11 : Int) (t12 : Int) (t13 : Int), CellsAt w4 (⟨b1, 5, none⟩ : Addr) 0 [.int .u32 t9, .int .u32 t10, .int .u32 t11, .int .u32 t12, .int .u32 t13] ∧ (∃ (I1 : Int → World → Prop) (m1 : Int → World → Nat), I1 0 w4 ∧ ∀ (s2 : Int) (w6 : World), I1 s2 w6 → ((decide (s2 < 2)) = true → ∃ (x1 : Int) (x2 : Int) (x3 : Int) (x4 : Int) (x5 : Int), (∀ w : World, (Instr.index 150 (.agg #[.int .u32 t4, .int .u32 t5, .int .u32 t6, .int .u32 t7, .int .u32 t8, .int .u32 t9, .int .u32 t10, .int .u32 t11, .int .u32 t12, .int .u32 t13]) (.int .i64 s2)).run Try.prog w = .ok (.agg #[.int .u32 x1, .int .u32 x2, .int .u32 x3, .int .u32 x4, .int .u32 x5]) w) ∧ (∀ b4 : Nat, b4 = World.size w6 → ∀ w7 : World, w7 = World.alloc w6 (.cells #[.int .u32 0, .int .u32 0, .int .u32 0, .int .u32 0, .int .u32 0] 64) → (Has w7 (⟨b4, 0, none⟩ : Addr) 5 ∧ Free w7 (⟨b4, 0, none⟩ : Addr) 5 ∧ ∀ w8 : World, w8 = setCells w7 (⟨b4, 0, none⟩ : Addr) 0 [.int .u32 x1, .int .u32 x2, .int .u32 x3, .int .u32 x4, .int .u32 x5] → (∃ (t14 : Int) (t15 : Int) (t16 : Int) (t17 : Int) (t18 : Int), CellsAt w8 (⟨b4, 0, none⟩ : Addr) 0 [.int .u32 t14, .int .u32 t15, .int .u32 t16, .int .u32 t17, .int .u32 t18] ∧ (∃ (I2 : Int → World → Prop) (m2 : Int → World → Nat), I2 0 w8 ∧ ∀ (s3 : Int) (w9 : World), I2 s3 w9 → ((decide (s3 < 5)) = true → ∃ (x6 : Int), (∀ w : World, (Instr.index 64 (.agg #[.int .u32 t14, .int .u32 t15, .int .u32 t16, .int .u32 t17, .int .u32 t18]) (.int .i64 s3)).run Try.prog w = .ok (.int .u32 x6) w) ∧ (Calls Try.prog 66 #[.int .u32 x6] w9 fun e w10 => ∃ (r15 : Bool), e = .returned (.bool r15) ∧ (((!r15) = true → J1 (none, 0) w10) ∧ ((!r15) = false → (I2 (IntKind.wrap .i64 (s3 + 1)) w10 ∧ m2 (IntKind.wrap .i64 (s3 + 1)) w10 < m2 s3 w9))))) ∧ ((decide (s3 < 5)) = false → (I1 (IntKind.wrap .i64 (s2 + 1)) w9 ∧ m1 (IntKind.wrap .i64 (s2 + 1)) w9 < m1 s2 w6))))))) ∧ ((decide (s2 < 2)) = false → ∃ (t19 : Int) (t20 : Int) (t21 : Int) (t22 : Int) (t23 : Int) (t24 : Int) (t25 : Int) (t26 : Int) (t27 : Int) (t28 : Int) (t29 : Int), CellsAt w6 (⟨b1, 0, none⟩ : Addr) 0 [.int .u32 t19, .int .u32 t20, .int .u32 t21, .int .u32 t22, .int .u32 t23, .int .u32 t24, .int .u32 t25, .int .u32 t26, .int .u32 t27, .int .u32 t28, .int .u32 t29] ∧ (∀ b5 : Nat, b5 = World.size w6 → ∀ w11 : World, w11 = World.alloc w6 (.cells #[.int .u32 t19, .int .u32 t20, .int .u32 t21, .int .u32 t22, .int .u32 t23, .int .u32 t24, .int .u32 t25, .int .u32 t26, .int .u32 t27, .int .u32 t28, .int .u32 t29, .bool true] 85) → (R (some (⟨b5, 0, none⟩ : Addr)) 0 w11))))))) ∧ ((b2 = false → ∃ (t3 : Int), w3.cell? (⟨b1, 10, none⟩ : Addr) = some (.int .u32 t3) ∧ (Calls Try.prog 66 #[.int .u32 t3] w3 fun e w5 => ∃ (r14 : Bool), e = .returned (.bool r14) ∧ (J3 (!r14) w5))) ∧ (b2 = true → J3 true w3))) ∧ (((!(t1 == 0)) = false → (0 : Int) ≤ 0 ∧ (0 : Int) < 5 ∧ (∃ (t2 : Int), w1.cell? ((⟨b1, 5, none⟩ : Addr).add (Int.toNat 0 * 1)) = some (.int .u32 t2) ∧ (J2 (!(t2 == 0)) w1))) ∧ ((!(t1 == 0)) = true → J2 true w1))))))
set_option maxRecDepth 100000 in
theorem ok_policy_Of (r1 : Int) (r2 : Int) (r3 : Int) (r4 : Int) (r5 : Int) (r6 : Int) (r7 : Int) (r8 : Int) (r9 : Int) (r10 : Int) (r11 : Int) (w : World) (R : (Option Addr) → Int → World → Prop) (h : V_policy_Of r1 r2 r3 r4 r5 r6 r7 r8 r9 r10 r11 w R) : Calls Try.prog 31 #[.agg #[.int .u32 r1, .int .u32 r2, .int .u32 r3, .int .u32 r4, .int .u32 r5, .int .u32 r6, .int .u32 r7, .int .u32 r8, .int .u32 r9, .int .u32 r10, .int .u32 r11]] w (fun e w' => ∃ (r12 : Option Addr) (r13 : Int), e = .returned (.tuple #[.pointer r12, .int .i64 r13]) ∧ R r12 r13 w') := by
  unfold V_policy_Of at h
  refine enter (N := 44) Try.func31 rfl rfl ?_
  refine CW.seq ?_
  refine CW.region fun L hL => ?_
  obtain ⟨b1, hb_b1⟩ : ∃ b1, b1 = World.size w := ⟨_, rfl⟩
  obtain ⟨w1, hw_w1⟩ : ∃ w1, w1 = World.alloc w (.cells #[.int .u32 r1, .int .u32 r2, .int .u32 r3, .int .u32 r4, .int .u32 r5, .int .u32 r6, .int .u32 r7, .int .u32 r8, .int .u32 r9, .int .u32 r10, .int .u32 r11] 66) := ⟨_, rfl⟩
  replace h := h b1 hb_b1 w1 hw_w1
  refine LW.val hL rfl (Wants.free rfl) rfl (boxE hb_b1 hw_w1 (Vl.box (v := .agg #[.int .u32 r1, .int .u32 r2, .int .u32 r3, .int .u32 r4, .int .u32 r5, .int .u32 r6, .int .u32 r7, .int .u32 r8, .int .u32 r9, .int .u32 r10, .int .u32 r11]) rfl)) ?_
  refine LW.rd hL rfl (Wants.free rfl) rfl (Rd.assign (v := .pointer none) rfl) ?_
  refine LW.rd hL rfl (Wants.free rfl) rfl (Rd.assign (v := .int .i64 0) rfl) ?_
  refine LW.nil hL rfl ?_
  refine NW.then ?_
  obtain ⟨J1, hJ1, h⟩ := h
  refine CW.scope (S := (Option Addr) × Int) 0 (fun s1 => [(2, .pointer s1.1), (3, .int .i64 s1.2)]) J1 rfl (fun s1 w2 h_ => ?_) ?_
  · replace h := hJ1 s1 w2 h_; clear h_
    refine CW.seq ?_
    refine CW.skip ?_
    refine NW.then ?_
    refine CW.seq ?_
    refine CW.region fun L hL => ?_
    refine LW.rd hL rfl (Wants.free rfl) rfl (Rd.assign (v := .pointer none) rfl) ?_
    refine LW.rd hL rfl (Wants.free rfl) rfl (Rd.assign (v := .int .i64 2) rfl) ?_
    refine LW.nil hL rfl ?_
    refine NW.then ?_
    refine CW.ret ?_
    refine RW.jump ?_
    exact res2 rfl rfl rfl ⟨none, 2, rfl, h⟩
  · skip
    refine CW.seq ?_
    refine CW.seq ?_
    refine CW.region fun L hL => ?_
    refine LW.rd hL rfl (Wants.free rfl) rfl (Rd.fa (v := .pointer (some (⟨b1, 0, none⟩ : Addr))) rfl (fun _ => by kernel_rfl)) ?_
    obtain ⟨hi1, hi2, h⟩ := h
    refine LW.rd hL rfl (Wants.free rfl) rfl (Rd.iaA (sz := 1) rfl rfl Try.underlying64 (by kernel_rfl) hi1 hi2) ?_
    obtain ⟨t1, hc1, h⟩ := h
    refine LW.rd hL rfl (Wants.free rfl) rfl (Rd.ld (v := .int .u32 t1) rfl (by kernel_rfl) (eqs hc1)) ?_
    refine LW.rd hL rfl (Wants.free rfl) rfl (Rd.bin (v := .bool (!(t1 == 0))) rfl rfl (fun w => by kernel_rfl)) ?_
    refine LW.rd hL rfl (Wants.free rfl) rfl (Rd.move (v := .bool (!(t1 == 0))) rfl) ?_
    obtain ⟨J2, hJ2, h1_J2, h0_J2⟩ := h
    suffices K1 : ∀ (b2 : Bool) (w3 : World), J2 b2 w3 → L 10 [(1, .pointer (some (⟨b1, 0, none⟩ : Addr))), (2, .pointer none), (3, .int .i64 0), (17, .bool b2)] w3 by
      rcases Bool.eq_false_or_eq_true (!(t1 == 0)) with hb1 | hb1
      · have h := h0_J2 hb1
        refine LW.skip hL rfl (Skips.on rfl rfl rfl rfl rfl hb1) rfl ?_
        refine LW.skip hL rfl (Skips.on rfl rfl rfl rfl rfl hb1) rfl ?_
        refine LW.skip hL rfl (Skips.on rfl rfl rfl rfl rfl hb1) rfl ?_
        refine LW.skip hL rfl (Skips.on rfl rfl rfl rfl rfl hb1) rfl ?_
        refine LW.rd hL rfl (Wants.free rfl) rfl (Rd.pickT rfl hb1 rfl) ?_
        exact LW.sub hL (by exact ⟨rfl, rfl, rfl, rfl, trivial⟩) (K1 true w1 h)
      · have h := h1_J2 hb1
        refine LW.rd hL rfl (Wants.on rfl rfl rfl rfl rfl hb1) rfl (Rd.fa (v := .pointer (some (⟨b1, 5, none⟩ : Addr))) rfl (fun _ => by kernel_rfl)) ?_
        obtain ⟨hi3, hi4, h⟩ := h
        refine LW.rd hL rfl (Wants.on rfl rfl rfl rfl rfl hb1) rfl (Rd.iaA (sz := 1) rfl rfl Try.underlying64 (by kernel_rfl) hi3 hi4) ?_
        obtain ⟨t2, hc2, h⟩ := h
        refine LW.rd hL rfl (Wants.on rfl rfl rfl rfl rfl hb1) rfl (Rd.ld (v := .int .u32 t2) rfl (by kernel_rfl) (eqs hc2)) ?_
        refine LW.rd hL rfl (Wants.on rfl rfl rfl rfl rfl hb1) rfl (Rd.bin (v := .bool (!(t2 == 0))) rfl rfl (fun w => by kernel_rfl)) ?_
        refine LW.rd hL rfl (Wants.free rfl) rfl (Rd.pickF rfl hb1 rfl) ?_
        exact LW.sub hL (by exact ⟨rfl, rfl, rfl, rfl, trivial⟩) (K1 (!(t2 == 0)) w1 h)
    intro b2 w3 h_
    have h := hJ2 b2 w3 h_; clear h_
    refine LW.rd hL rfl (Wants.free rfl) rfl (Rd.move (v := .bool b2) rfl) ?_
    obtain ⟨J3, hJ3, h1_J3, h0_J3⟩ := h
    suffices K2 : ∀ (b3 : Bool) (w4 : World), J3 b3 w4 → L 16 [(1, .pointer (some (⟨b1, 0, none⟩ : Addr))), (2, .pointer none), (3, .int .i64 0), (23, .bool b3)] w4 by
      rcases Bool.eq_false_or_eq_true b2 with hb2 | hb2
      · have h := h0_J3 hb2
        refine LW.skip hL rfl (Skips.on rfl rfl rfl rfl rfl hb2) rfl ?_
        refine LW.skip hL rfl (Skips.on rfl rfl rfl rfl rfl hb2) rfl ?_
        refine LW.skip hL rfl (Skips.on rfl rfl rfl rfl rfl hb2) rfl ?_
        refine LW.skip hL rfl (Skips.on rfl rfl rfl rfl rfl hb2) rfl ?_
        refine LW.rd hL rfl (Wants.free rfl) rfl (Rd.pickT rfl hb2 rfl) ?_
        exact LW.sub hL (by exact ⟨rfl, rfl, rfl, rfl, trivial⟩) (K2 true w3 h)
      · have h := h1_J3 hb2
        refine LW.rd hL rfl (Wants.on rfl rfl rfl rfl rfl hb2) rfl (Rd.fa (v := .pointer (some (⟨b1, 10, none⟩ : Addr))) rfl (fun _ => by kernel_rfl)) ?_
        obtain ⟨t3, hc3, h⟩ := h
        refine LW.rd hL rfl (Wants.on rfl rfl rfl rfl rfl hb2) rfl (Rd.ld (v := .int .u32 t3) rfl (by kernel_rfl) (eqs hc3)) ?_
        refine LW.call hL rfl (Wants.on rfl rfl rfl rfl rfl hb2) rfl (Cl.fn (f := 66) rfl Try.func66 (by kernel_rfl) rfl) h (fun e w5 h_ => ?_)
        clear h
        obtain ⟨r14, rfl, h⟩ := h_
        refine ⟨_, rfl, ?_⟩
        refine LW.rd hL rfl (Wants.on rfl rfl rfl rfl rfl hb2) rfl (Rd.un (v := .bool (!r14)) rfl (fun _ => by kernel_rfl)) ?_
        refine LW.rd hL rfl (Wants.free rfl) rfl (Rd.pickF rfl hb2 rfl) ?_
        exact LW.sub hL (by exact ⟨rfl, rfl, rfl, rfl, trivial⟩) (K2 (!r14) w5 h)
    intro b3 w4 h_
    have h := hJ3 b3 w4 h_; clear h_
    refine LW.nil hL rfl ?_
    refine NW.then ?_
    refine CW.cond rfl (fun hb3 => ?_) (fun hb3 => ?_)
    · replace h := h.1 hb3
      refine CW.goto ?_
      refine GW.then ?_
      exact GW.hit (S := (Option Addr) × Int) (Ek := fun s1 => [(2, .pointer s1.1), (3, .int .i64 s1.2)]) (none, 0) (by exact ⟨rfl, rfl, trivial⟩) h
    · replace h := h.2 hb3
      refine CW.skip ?_
      refine NW.then ?_
      refine CW.seq ?_
      refine CW.seq ?_
      refine CW.region fun L hL => ?_
      refine LW.rd hL rfl (Wants.free rfl) rfl (Rd.fa (v := .pointer (some (⟨b1, 0, none⟩ : Addr))) rfl (fun _ => by kernel_rfl)) ?_
      obtain ⟨t4, t5, t6, t7, t8, hc4, h⟩ := h
      refine LW.rd hL rfl (Wants.free rfl) rfl (Rd.ldN (cs := [.int .u32 t4, .int .u32 t5, .int .u32 t6, .int .u32 t7, .int .u32 t8]) rfl (by kernel_rfl) (by kernel_rfl) (cellsS hc4)) ?_
      refine LW.rd hL rfl (Wants.free rfl) rfl (Rd.fa (v := .pointer (some (⟨b1, 5, none⟩ : Addr))) rfl (fun _ => by kernel_rfl)) ?_
      obtain ⟨t9, t10, t11, t12, t13, hc5, h⟩ := h
      refine LW.rd hL rfl (Wants.free rfl) rfl (Rd.ldN (cs := [.int .u32 t9, .int .u32 t10, .int .u32 t11, .int .u32 t12, .int .u32 t13]) rfl (by kernel_rfl) (by kernel_rfl) (cellsS hc5)) ?_
      refine LW.rd hL rfl (Wants.free rfl) rfl (Rd.build (v := .agg #[.int .u32 t4, .int .u32 t5, .int .u32 t6, .int .u32 t7, .int .u32 t8, .int .u32 t9, .int .u32 t10, .int .u32 t11, .int .u32 t12, .int .u32 t13]) rfl (fun _ => by kernel_rfl)) ?_
      refine LW.rd hL rfl (Wants.free rfl) rfl (Rd.move (v := .int .i64 0) rfl) ?_
      refine LW.nil hL rfl ?_
      refine NW.then ?_
      refine CW.block ?_
      obtain ⟨I1, m1, hI1, h⟩ := h
      refine CW.loop (S := Int) (fun s2 => [(1, .pointer (some (⟨b1, 0, none⟩ : Addr))), (2, .pointer none), (3, .int .i64 0), (28, .agg #[.int .u32 t4, .int .u32 t5, .int .u32 t6, .int .u32 t7, .int .u32 t8, .int .u32 t9, .int .u32 t10, .int .u32 t11, .int .u32 t12, .int .u32 t13]), (29, .int .i64 s2)]) I1 m1 0 (by exact ⟨rfl, rfl, rfl, rfl, rfl, trivial⟩) hI1 (fun s2 w6 hI1 => ?_)
      replace h := h s2 w6 hI1
      refine CW.seq ?_
      refine CW.region fun L hL => ?_
      refine LW.rd hL rfl (Wants.free rfl) rfl (Rd.bin (v := .bool (decide (s2 < 2))) rfl rfl (fun w => by kernel_rfl)) ?_
      refine LW.nil hL rfl ?_
      refine NW.then ?_
      refine CW.seq ?_
      refine CW.cond rfl (fun hb4 => ?_) (fun hb4 => ?_)
      · replace h := h.1 hb4
        refine CW.skip ?_
        refine NW.then ?_
        refine CW.seq ?_
        refine CW.block ?_
        refine CW.seq ?_
        refine CW.region fun L hL => ?_
        obtain ⟨x1, x2, x3, x4, x5, hx1, h⟩ := h
        refine LW.rd hL rfl (Wants.free rfl) rfl (Rd.index (v := .agg #[.int .u32 x1, .int .u32 x2, .int .u32 x3, .int .u32 x4, .int .u32 x5]) rfl rfl hx1) ?_
        obtain ⟨b4, hb_b4⟩ : ∃ b4, b4 = World.size w6 := ⟨_, rfl⟩
        obtain ⟨w7, hw_w7⟩ : ∃ w7, w7 = World.alloc w6 (.cells #[.int .u32 0, .int .u32 0, .int .u32 0, .int .u32 0, .int .u32 0] 64) := ⟨_, rfl⟩
        replace h := h b4 hb_b4 w7 hw_w7
        refine LW.val hL rfl (Wants.free rfl) rfl (boxE hb_b4 hw_w7 (Vl.alloc (z := .agg #[.int .u32 0, .int .u32 0, .int .u32 0, .int .u32 0, .int .u32 0]) (by kernel_rfl))) ?_
        obtain ⟨ho1, hf1, h⟩ := h
        obtain ⟨w8, hw_w8⟩ : ∃ w8, w8 = setCells w7 (⟨b4, 0, none⟩ : Addr) 0 [.int .u32 x1, .int .u32 x2, .int .u32 x3, .int .u32 x4, .int .u32 x5] := ⟨_, rfl⟩
        replace h := h w8 hw_w8
        refine LW.eff hL rfl (Wants.free rfl) rfl (stNE hw_w8 (Ef.stN (cs := [.int .u32 x1, .int .u32 x2, .int .u32 x3, .int .u32 x4, .int .u32 x5]) rfl rfl (by kernel_rfl) (List.forall_mem_cons.2 ⟨rfl, (List.forall_mem_cons.2 ⟨rfl, (List.forall_mem_cons.2 ⟨rfl, (List.forall_mem_cons.2 ⟨rfl, (List.forall_mem_cons.2 ⟨rfl, (List.forall_mem_nil _)⟩)⟩)⟩)⟩)⟩) ho1 hf1)) ?_
        refine LW.nil hL rfl ?_
        refine NW.then ?_
        refine CW.seq ?_
        refine CW.region fun L hL => ?_
        obtain ⟨t14, t15, t16, t17, t18, hc6, h⟩ := h
        refine LW.rd hL rfl (Wants.free rfl) rfl (Rd.ldN (cs := [.int .u32 t14, .int .u32 t15, .int .u32 t16, .int .u32 t17, .int .u32 t18]) rfl (by kernel_rfl) (by kernel_rfl) (cellsS hc6)) ?_
        refine LW.rd hL rfl (Wants.free rfl) rfl (Rd.move (v := .int .i64 0) rfl) ?_
        refine LW.nil hL rfl ?_
        refine NW.then ?_
        refine CW.block ?_
        obtain ⟨I2, m2, hI2, h⟩ := h
        refine CW.loop (S := Int) (fun s3 => [(1, .pointer (some (⟨b1, 0, none⟩ : Addr))), (2, .pointer none), (3, .int .i64 0), (28, .agg #[.int .u32 t4, .int .u32 t5, .int .u32 t6, .int .u32 t7, .int .u32 t8, .int .u32 t9, .int .u32 t10, .int .u32 t11, .int .u32 t12, .int .u32 t13]), (29, .int .i64 s2), (32, .agg #[.int .u32 t14, .int .u32 t15, .int .u32 t16, .int .u32 t17, .int .u32 t18]), (33, .int .i64 s3)]) I2 m2 0 (by exact ⟨rfl, rfl, rfl, rfl, rfl, rfl, rfl, trivial⟩) hI2 (fun s3 w9 hI2 => ?_)
        replace h := h s3 w9 hI2
        refine CW.seq ?_
        refine CW.region fun L hL => ?_
        refine LW.rd hL rfl (Wants.free rfl) rfl (Rd.bin (v := .bool (decide (s3 < 5))) rfl rfl (fun w => by kernel_rfl)) ?_
        refine LW.nil hL rfl ?_
        refine NW.then ?_
        refine CW.seq ?_
        refine CW.cond rfl (fun hb5 => ?_) (fun hb5 => ?_)
        · replace h := h.1 hb5
          refine CW.skip ?_
          refine NW.then ?_
          refine CW.seq ?_
          refine CW.block ?_
          refine CW.seq ?_
          refine CW.region fun L hL => ?_
          obtain ⟨x6, hx2, h⟩ := h
          refine LW.rd hL rfl (Wants.free rfl) rfl (Rd.index (v := .int .u32 x6) rfl rfl hx2) ?_
          refine LW.rd hL rfl (Wants.free rfl) rfl (Rd.assign (v := .int .u32 x6) rfl) ?_
          refine LW.nil hL rfl ?_
          refine NW.then ?_
          refine CW.seq ?_
          refine CW.region fun L hL => ?_
          refine LW.rd hL rfl (Wants.free rfl) rfl (Rd.move (v := .int .u32 x6) rfl) ?_
          refine LW.call hL rfl (Wants.free rfl) rfl (Cl.fn (f := 66) rfl Try.func66 (by kernel_rfl) rfl) h (fun e w10 h_ => ?_)
          clear h
          obtain ⟨r15, rfl, h⟩ := h_
          refine ⟨_, rfl, ?_⟩
          refine LW.rd hL rfl (Wants.free rfl) rfl (Rd.un (v := .bool (!r15)) rfl (fun _ => by kernel_rfl)) ?_
          refine LW.nil hL rfl ?_
          refine NW.then ?_
          refine CW.cond rfl (fun hb6 => ?_) (fun hb6 => ?_)
          · replace h := h.1 hb6
            refine CW.goto ?_
            refine GW.block ?_
            refine GW.then ?_
            refine GW.then ?_
            refine GW.block ?_
            refine GW.block ?_
            refine GW.then ?_
            refine GW.then ?_
            refine GW.block ?_
            refine GW.then ?_
            exact GW.hit (S := (Option Addr) × Int) (Ek := fun s1 => [(2, .pointer s1.1), (3, .int .i64 s1.2)]) (none, 0) (by exact ⟨rfl, rfl, trivial⟩) h
          · replace h := h.2 hb6
            refine CW.skip ?_
            refine NW.block ?_
            refine NW.then ?_
            refine CW.region fun L hL => ?_
            refine LW.rd hL rfl (Wants.free rfl) rfl (Rd.bin (v := .int .i64 (IntKind.wrap .i64 (s3 + 1))) rfl rfl (fun w => by kernel_rfl)) ?_
            refine LW.rd hL rfl (Wants.free rfl) rfl (Rd.move (v := .int .i64 (IntKind.wrap .i64 (s3 + 1))) rfl) ?_
            refine LW.nil hL rfl ?_
            exact NW.loop (S := Int) (Ek := fun s3 => [(1, .pointer (some (⟨b1, 0, none⟩ : Addr))), (2, .pointer none), (3, .int .i64 0), (28, .agg #[.int .u32 t4, .int .u32 t5, .int .u32 t6, .int .u32 t7, .int .u32 t8, .int .u32 t9, .int .u32 t10, .int .u32 t11, .int .u32 t12, .int .u32 t13]), (29, .int .i64 s2), (32, .agg #[.int .u32 t14, .int .u32 t15, .int .u32 t16, .int .u32 t17, .int .u32 t18]), (33, .int .i64 s3)]) (IntKind.wrap .i64 (s3 + 1)) (by exact ⟨rfl, rfl, rfl, rfl, rfl, rfl, rfl, trivial⟩) h
        · replace h := h.2 hb5
          refine CW.exit ?_
          refine XW.then ?_
          refine XW.then ?_
          refine XW.hit ?_
          refine NW.block ?_
          refine NW.then ?_
          refine CW.region fun L hL => ?_
          refine LW.rd hL rfl (Wants.free rfl) rfl (Rd.bin (v := .int .i64 (IntKind.wrap .i64 (s2 + 1))) rfl rfl (fun w => by kernel_rfl)) ?_
          refine LW.rd hL rfl (Wants.free rfl) rfl (Rd.move (v := .int .i64 (IntKind.wrap .i64 (s2 + 1))) rfl) ?_
          refine LW.nil hL rfl ?_
          exact NW.loop (S := Int) (Ek := fun s2 => [(1, .pointer (some (⟨b1, 0, none⟩ : Addr))), (2, .pointer none), (3, .int .i64 0), (28, .agg #[.int .u32 t4, .int .u32 t5, .int .u32 t6, .int .u32 t7, .int .u32 t8, .int .u32 t9, .int .u32 t10, .int .u32 t11, .int .u32 t12, .int .u32 t13]), (29, .int .i64 s2)]) (IntKind.wrap .i64 (s2 + 1)) (by exact ⟨rfl, rfl, rfl, rfl, rfl, trivial⟩) h
      · replace h := h.2 hb4
        refine CW.exit ?_
        refine XW.then ?_
        refine XW.then ?_
        refine XW.hit ?_
        refine NW.then ?_
        refine CW.seq ?_
        refine CW.seq ?_
        refine CW.region fun L hL => ?_
        obtain ⟨t19, t20, t21, t22, t23, t24, t25, t26, t27, t28, t29, hc7, h⟩ := h
        refine LW.rd hL rfl (Wants.free rfl) rfl (Rd.ldN (cs := [.int .u32 t19, .int .u32 t20, .int .u32 t21, .int .u32 t22, .int .u32 t23, .int .u32 t24, .int .u32 t25, .int .u32 t26, .int .u32 t27, .int .u32 t28, .int .u32 t29]) rfl (by kernel_rfl) (by kernel_rfl) (cellsS hc7)) ?_
        refine LW.rd hL rfl (Wants.free rfl) rfl (Rd.build (v := .agg #[.int .u32 t19, .int .u32 t20, .int .u32 t21, .int .u32 t22, .int .u32 t23, .int .u32 t24, .int .u32 t25, .int .u32 t26, .int .u32 t27, .int .u32 t28, .int .u32 t29, .bool true]) rfl (fun _ => by kernel_rfl)) ?_
        obtain ⟨b5, hb_b5⟩ : ∃ b5, b5 = World.size w6 := ⟨_, rfl⟩
        obtain ⟨w11, hw_w11⟩ : ∃ w11, w11 = World.alloc w6 (.cells #[.int .u32 t19, .int .u32 t20, .int .u32 t21, .int .u32 t22, .int .u32 t23, .int .u32 t24, .int .u32 t25, .int .u32 t26, .int .u32 t27, .int .u32 t28, .int .u32 t29, .bool true] 85) := ⟨_, rfl⟩
        replace h := h b5 hb_b5 w11 hw_w11
        refine LW.val hL rfl (Wants.free rfl) rfl (boxE hb_b5 hw_w11 (Vl.box (v := .agg #[.int .u32 t19, .int .u32 t20, .int .u32 t21, .int .u32 t22, .int .u32 t23, .int .u32 t24, .int .u32 t25, .int .u32 t26, .int .u32 t27, .int .u32 t28, .int .u32 t29, .bool true]) rfl)) ?_
        refine LW.rd hL rfl (Wants.free rfl) rfl (Rd.assign (v := .pointer (some (⟨b5, 0, none⟩ : Addr))) rfl) ?_
        refine LW.rd hL rfl (Wants.free rfl) rfl (Rd.assign (v := .int .i64 0) rfl) ?_
        refine LW.nil hL rfl ?_
        refine NW.then ?_
        refine CW.ret ?_
        refine RW.then ?_
        refine RW.jump ?_
        exact res2 rfl rfl rfl ⟨some (⟨b5, 0, none⟩ : Addr), 0, rfl, h⟩

/- (*pomander/policy.Policy).Copy -/
def V_policy_Policy_Copy (p1 : Option Addr) (w : World) (R : (Option Addr) → World → Prop) : Prop :=
  Calls Try.prog 64 #[.pointer p1] w fun e w1 => ∃ (r2 : Bool), e = .returned (.bool r2) ∧ ((r2 = true → R none w1) ∧ (r2 = false → ∃ a1 : Addr, p1 = some a1 ∧ (∃ (t1 : Int) (t2 : Int) (t3 : Int) (t4 : Int) (t5 : Int) (t6 : Int) (t7 : Int) (t8 : Int) (t9 : Int) (t10 : Int) (t11 : Int) (t12 : Bool), CellsAt w1 a1 0 [.int .u32 t1, .int .u32 t2, .int .u32 t3, .int .u32 t4, .int .u32 t5, .int .u32 t6, .int .u32 t7, .int .u32 t8, .int .u32 t9, .int .u32 t10, .int .u32 t11, .bool t12] ∧ (∀ b1 : Nat, b1 = World.size w1 → ∀ w2 : World, w2 = World.alloc w1 (.cells #[.int .u32 0, .int .u32 0, .int .u32 0, .int .u32 0, .int .u32 0, .int .u32 0, .int .u32 0, .int .u32 0, .int .u32 0, .int .u32 0, .int .u32 0, .bool false] 85) → (Has w2 (⟨b1, 0, none⟩ : Addr) 12 ∧ Free w2 (⟨b1, 0, none⟩ : Addr) 12 ∧ ∀ w3 : World, w3 = setCells w2 (⟨b1, 0, none⟩ : Addr) 0 [.int .u32 t1, .int .u32 t2, .int .u32 t3, .int .u32 t4, .int .u32 t5, .int .u32 t6, .int .u32 t7, .int .u32 t8, .int .u32 t9, .int .u32 t10, .int .u32 t11, .bool t12] → (R (some (⟨b1, 0, none⟩ : Addr)) w3))))))
set_option maxRecDepth 100000 in
theorem ok_policy_Policy_Copy (p1 : Option Addr) (w : World) (R : (Option Addr) → World → Prop) (h : V_policy_Policy_Copy p1 w R) : Calls Try.prog 32 #[.pointer p1] w (fun e w' => ∃ (r1 : Option Addr), e = .returned (.pointer r1) ∧ R r1 w') := by
  unfold V_policy_Policy_Copy at h
  refine enter (N := 9) Try.func32 rfl rfl ?_
  refine CW.seq ?_
  refine CW.region fun L hL => ?_
  refine LW.rd hL rfl (Wants.free rfl) rfl (Rd.assign (v := .pointer none) rfl) ?_
  refine LW.nil hL rfl ?_
  refine NW.then ?_
  refine CW.seq ?_
  refine CW.seq ?_
  refine CW.region fun L hL => ?_
  refine LW.rd hL rfl (Wants.free rfl) rfl (Rd.move (v := .pointer p1) rfl) ?_
  refine LW.call hL rfl (Wants.free rfl) rfl (Cl.fn (f := 64) rfl Try.func64 (by kernel_rfl) rfl) h (fun e w1 h_ => ?_)
  clear h
  obtain ⟨r2, rfl, h⟩ := h_
  refine ⟨_, rfl, ?_⟩
  refine LW.nil hL rfl ?_
  refine NW.then ?_
  refine CW.cond rfl (fun hb1 => ?_) (fun hb1 => ?_)
  · replace h := h.1 hb1
    refine CW.seq ?_
    refine CW.region fun L hL => ?_
    refine LW.rd hL rfl (Wants.free rfl) rfl (Rd.assign (v := .pointer none) rfl) ?_
    refine LW.nil hL rfl ?_
    refine NW.then ?_
    refine CW.ret ?_
    refine RW.then ?_
    exact res1 rfl rfl ⟨none, rfl, h⟩
  · replace h := h.2 hb1
    refine CW.skip ?_
    refine NW.then ?_
    refine CW.seq ?_
    refine CW.region fun L hL => ?_
    refine LW.rd hL rfl (Wants.free rfl) rfl (Rd.move (v := .pointer p1) rfl) ?_
    obtain ⟨a1, ha1, h⟩ := h
    refine LW.rd hL rfl (Wants.free rfl) rfl (Rd.nil (q := a1) (by rw [← ha1]; rfl)) ?_
    obtain ⟨t1, t2, t3, t4, t5, t6, t7, t8, t9, t10, t11, t12, hc1, h⟩ := h
    refine LW.rd hL rfl (Wants.free rfl) rfl (Rd.ldN (cs := [.int .u32 t1, .int .u32 t2, .int .u32 t3, .int .u32 t4, .int .u32 t5, .int .u32 t6, .int .u32 t7, .int .u32 t8, .int .u32 t9, .int .u32 t10, .int .u32 t11, .bool t12]) rfl (by kernel_rfl) (by kernel_rfl) (cellsS hc1)) ?_
    obtain ⟨b1, hb_b1⟩ : ∃ b1, b1 = World.size w1 := ⟨_, rfl⟩
    obtain ⟨w2, hw_w2⟩ : ∃ w2, w2 = World.alloc w1 (.cells #[.int .u32 0, .int .u32 0, .int .u32 0, .int .u32 0, .int .u32 0, .int .u32 0, .int .u32 0, .int .u32 0, .int .u32 0, .int .u32 0, .int .u32 0, .bool false] 85) := ⟨_, rfl⟩
    replace h := h b1 hb_b1 w2 hw_w2
    refine LW.val hL rfl (Wants.free rfl) rfl (boxE hb_b1 hw_w2 (Vl.alloc (z := .agg #[.int .u32 0, .int .u32 0, .int .u32 0, .int .u32 0, .int .u32 0, .int .u32 0, .int .u32 0, .int .u32 0, .int .u32 0, .int .u32 0, .int .u32 0, .bool false]) (by kernel_rfl))) ?_
    obtain ⟨ho1, hf1, h⟩ := h
    obtain ⟨w3, hw_w3⟩ : ∃ w3, w3 = setCells w2 (⟨b1, 0, none⟩ : Addr) 0 [.int .u32 t1, .int .u32 t2, .int .u32 t3, .int .u32 t4, .int .u32 t5, .int .u32 t6, .int .u32 t7, .int .u32 t8, .int .u32 t9, .int .u32 t10, .int .u32 t11, .bool t12] := ⟨_, rfl⟩
    replace h := h w3 hw_w3
    refine LW.eff hL rfl (Wants.free rfl) rfl (stNE hw_w3 (Ef.stN (cs := [.int .u32 t1, .int .u32 t2, .int .u32 t3, .int .u32 t4, .int .u32 t5, .int .u32 t6, .int .u32 t7, .int .u32 t8, .int .u32 t9, .int .u32 t10, .int .u32 t11, .bool t12]) rfl rfl (by kernel_rfl) (List.forall_mem_cons.2 ⟨rfl, (List.forall_mem_cons.2 ⟨rfl, (List.forall_mem_cons.2 ⟨rfl, (List.forall_mem_cons.2 ⟨rfl, (List.forall_mem_cons.2 ⟨rfl, (List.forall_mem_cons.2 ⟨rfl, (List.forall_mem_cons.2 ⟨rfl, (List.forall_mem_cons.2 ⟨rfl, (List.forall_mem_cons.2 ⟨rfl, (List.forall_mem_cons.2 ⟨rfl, (List.forall_mem_cons.2 ⟨rfl, (List.forall_mem_cons.2 ⟨rfl, (List.forall_mem_nil _)⟩)⟩)⟩)⟩)⟩)⟩)⟩)⟩)⟩)⟩)⟩)⟩) ho1 hf1)) ?_
    refine LW.nil hL rfl ?_
    refine NW.then ?_
    refine CW.seq ?_
    refine CW.region fun L hL => ?_
    refine LW.rd hL rfl (Wants.free rfl) rfl (Rd.assign (v := .pointer (some (⟨b1, 0, none⟩ : Addr))) rfl) ?_
    refine LW.nil hL rfl ?_
    refine NW.then ?_
    refine CW.ret ?_
    exact res1 rfl rfl ⟨some (⟨b1, 0, none⟩ : Addr), rfl, h⟩

/- (*pomander/policy.Policy).Source -/
def V_policy_Policy_Source (p1 : Option Addr) (s1 : Int) (n1 : Int) (w : World) (R : Int → World → Prop) : Prop :=
  Calls Try.prog 64 #[.pointer p1] w fun e w1 => ∃ (r2 : Bool), e = .returned (.bool r2) ∧ ((r2 = true → R 1 w1) ∧ (r2 = false → ∃ a1 : Addr, p1 = some a1 ∧ (Calls Try.prog 76 #[.pointer p1, .pointer (some a1), .int .i64 s1, .int .u32 n1] w1 fun e w2 => ∃ (r3 : Int), e = .returned (.int .i64 r3) ∧ (R r3 w2))))
set_option maxRecDepth 100000 in
theorem ok_policy_Policy_Source (p1 : Option Addr) (s1 : Int) (n1 : Int) (w : World) (R : Int → World → Prop) (h : V_policy_Policy_Source p1 s1 n1 w R) : Calls Try.prog 33 #[.pointer p1, .int .i64 s1, .int .u32 n1] w (fun e w' => ∃ (r1 : Int), e = .returned (.int .i64 r1) ∧ R r1 w') := by
  unfold V_policy_Policy_Source at h
  refine enter (N := 17) Try.func33 rfl rfl ?_
  refine CW.seq ?_
  refine CW.region fun L hL => ?_
  refine LW.rd hL rfl (Wants.free rfl) rfl (Rd.assign (v := .int .i64 0) rfl) ?_
  refine LW.nil hL rfl ?_
  refine NW.then ?_
  refine CW.seq ?_
  refine CW.seq ?_
  refine CW.region fun L hL => ?_
  refine LW.rd hL rfl (Wants.free rfl) rfl (Rd.move (v := .pointer p1) rfl) ?_
  refine LW.call hL rfl (Wants.free rfl) rfl (Cl.fn (f := 64) rfl Try.func64 (by kernel_rfl) rfl) h (fun e w1 h_ => ?_)
  clear h
  obtain ⟨r2, rfl, h⟩ := h_
  refine ⟨_, rfl, ?_⟩
  refine LW.nil hL rfl ?_
  refine NW.then ?_
  refine CW.cond rfl (fun hb1 => ?_) (fun hb1 => ?_)
  · replace h := h.1 hb1
    refine CW.seq ?_
    refine CW.region fun L hL => ?_
    refine LW.rd hL rfl (Wants.free rfl) rfl (Rd.assign (v := .int .i64 1) rfl) ?_
    refine LW.nil hL rfl ?_
    refine NW.then ?_
    refine CW.ret ?_
    refine RW.then ?_
    exact res1 rfl rfl ⟨1, rfl, h⟩
  · replace h := h.2 hb1
    refine CW.skip ?_
    refine NW.then ?_
    refine CW.seq ?_
    refine CW.region fun L hL => ?_
    refine LW.rd hL rfl (Wants.free rfl) rfl (Rd.move (v := .pointer p1) rfl) ?_
    refine LW.rd hL rfl (Wants.free rfl) rfl (Rd.move (v := .pointer p1) rfl) ?_
    obtain ⟨a1, ha1, h⟩ := h
    refine LW.rd hL rfl (Wants.free rfl) rfl (Rd.nil (q := a1) (by rw [← ha1]; rfl)) ?_
    refine LW.rd hL rfl (Wants.free rfl) rfl (Rd.fa (v := .pointer (some a1)) rfl (fun _ => by kernel_rfl)) ?_
    refine LW.rd hL rfl (Wants.free rfl) rfl (Rd.fa (v := .pointer (some a1)) rfl (fun _ => by kernel_rfl)) ?_
    refine LW.rd hL rfl (Wants.free rfl) rfl (Rd.move (v := .int .i64 s1) rfl) ?_
    refine LW.rd hL rfl (Wants.free rfl) rfl (Rd.move (v := .int .u32 n1) rfl) ?_
    refine LW.call hL rfl (Wants.free rfl) rfl (Cl.fn (f := 76) rfl Try.func76 (by kernel_rfl) rfl) h (fun e w2 h_ => ?_)
    clear h
    obtain ⟨r3, rfl, h⟩ := h_
    refine ⟨_, rfl, ?_⟩
    refine LW.rd hL rfl (Wants.free rfl) rfl (Rd.assign (v := .int .i64 r3) rfl) ?_
    refine LW.nil hL rfl ?_
    refine NW.then ?_
    refine CW.ret ?_
    exact res1 rfl rfl ⟨r3, rfl, h⟩

/- (*pomander/policy.Policy).Sink -/
def V_policy_Policy_Sink (p1 : Option Addr) (s1 : Int) (n1 : Int) (w : World) (R : Int → World → Prop) : Prop :=
  Calls Try.prog 64 #[.pointer p1] w fun e w1 => ∃ (r2 : Bool), e = .returned (.bool r2) ∧ ((r2 = true → R 1 w1) ∧ (r2 = false → ∃ a1 : Addr, p1 = some a1 ∧ (Calls Try.prog 76 #[.pointer p1, .pointer (some (a1.add 5)), .int .i64 s1, .int .u32 n1] w1 fun e w2 => ∃ (r3 : Int), e = .returned (.int .i64 r3) ∧ (R r3 w2))))
set_option maxRecDepth 100000 in
theorem ok_policy_Policy_Sink (p1 : Option Addr) (s1 : Int) (n1 : Int) (w : World) (R : Int → World → Prop) (h : V_policy_Policy_Sink p1 s1 n1 w R) : Calls Try.prog 34 #[.pointer p1, .int .i64 s1, .int .u32 n1] w (fun e w' => ∃ (r1 : Int), e = .returned (.int .i64 r1) ∧ R r1 w') := by
  unfold V_policy_Policy_Sink at h
  refine enter (N := 17) Try.func34 rfl rfl ?_
  refine CW.seq ?_
  refine CW.region fun L hL => ?_
  refine LW.rd hL rfl (Wants.free rfl) rfl (Rd.assign (v := .int .i64 0) rfl) ?_
  refine LW.nil hL rfl ?_
  refine NW.then ?_
  refine CW.seq ?_
  refine CW.seq ?_
  refine CW.region fun L hL => ?_
  refine LW.rd hL rfl (Wants.free rfl) rfl (Rd.move (v := .pointer p1) rfl) ?_
  refine LW.call hL rfl (Wants.free rfl) rfl (Cl.fn (f := 64) rfl Try.func64 (by kernel_rfl) rfl) h (fun e w1 h_ => ?_)
  clear h
  obtain ⟨r2, rfl, h⟩ := h_
  refine ⟨_, rfl, ?_⟩
  refine LW.nil hL rfl ?_
  refine NW.then ?_
  refine CW.cond rfl (fun hb1 => ?_) (fun hb1 => ?_)
  · replace h := h.1 hb1
    refine CW.seq ?_
    refine CW.region fun L hL => ?_
    refine LW.rd hL rfl (Wants.free rfl) rfl (Rd.assign (v := .int .i64 1) rfl) ?_
    refine LW.nil hL rfl ?_
    refine NW.then ?_
    refine CW.ret ?_
    refine RW.then ?_
    exact res1 rfl rfl ⟨1, rfl, h⟩
  · replace h := h.2 hb1
    refine CW.skip ?_
    refine NW.then ?_
    refine CW.seq ?_
    refine CW.region fun L hL => ?_
    refine LW.rd hL rfl (Wants.free rfl) rfl (Rd.move (v := .pointer p1) rfl) ?_
    refine LW.rd hL rfl (Wants.free rfl) rfl (Rd.move (v := .pointer p1) rfl) ?_
    obtain ⟨a1, ha1, h⟩ := h
    refine LW.rd hL rfl (Wants.free rfl) rfl (Rd.nil (q := a1) (by rw [← ha1]; rfl)) ?_
    refine LW.rd hL rfl (Wants.free rfl) rfl (Rd.fa (v := .pointer (some a1)) rfl (fun _ => by kernel_rfl)) ?_
    refine LW.rd hL rfl (Wants.free rfl) rfl (Rd.fa (v := .pointer (some (a1.add 5))) rfl (fun _ => by kernel_rfl)) ?_
    refine LW.rd hL rfl (Wants.free rfl) rfl (Rd.move (v := .int .i64 s1) rfl) ?_
    refine LW.rd hL rfl (Wants.free rfl) rfl (Rd.move (v := .int .u32 n1) rfl) ?_
    refine LW.call hL rfl (Wants.free rfl) rfl (Cl.fn (f := 76) rfl Try.func76 (by kernel_rfl) rfl) h (fun e w2 h_ => ?_)
    clear h
    obtain ⟨r3, rfl, h⟩ := h_
    refine ⟨_, rfl, ?_⟩
    refine LW.rd hL rfl (Wants.free rfl) rfl (Rd.assign (v := .int .i64 r3) rfl) ?_
    refine LW.nil hL rfl ?_
    refine NW.then ?_
    refine CW.ret ?_
    exact res1 rfl rfl ⟨r3, rfl, h⟩

/- (*pomander/policy.Policy).Rules -/
def V_policy_Policy_Rules (p1 : Option Addr) (w : World) (R : Int → Int → Int → Int → Int → Int → Int → Int → Int → Int → Int → World → Prop) : Prop :=
  ∀ b1 : Nat, b1 = World.size w → ∀ w1 : World, w1 = World.alloc w (.cells #[.int .u32 0, .int .u32 0, .int .u32 0, .int .u32 0, .int .u32 0, .int .u32 0, .int .u32 0, .int .u32 0, .int .u32 0, .int .u32 0, .int .u32 0] 66) → (Calls Try.prog 64 #[.pointer p1] w1 fun e w2 => ∃ (r12 : Bool), e = .returned (.bool r12) ∧ ((r12 = true → Has w2 (⟨b1, 0, none⟩ : Addr) 11 ∧ Free w2 (⟨b1, 0, none⟩ : Addr) 11 ∧ ∀ w3 : World, w3 = setCells w2 (⟨b1, 0, none⟩ : Addr) 0 [.int .u32 0, .int .u32 0, .int .u32 0, .int .u32 0, .int .u32 0, .int .u32 0, .int .u32 0, .int .u32 0, .int .u32 0, .int .u32 0, .int .u32 0] → (∃ (r13 : Int) (r14 : Int) (r15 : Int) (r16 : Int) (r17 : Int) (r18 : Int) (r19 : Int) (r20 : Int) (r21 : Int) (r22 : Int) (r23 : Int), CellsAt w3 (⟨b1, 0, none⟩ : Addr) 0 [.int .u32 r13, .int .u32 r14, .int .u32 r15, .int .u32 r16, .int .u32 r17, .int .u32 r18, .int .u32 r19, .int .u32 r20, .int .u32 r21, .int .u32 r22, .int .u32 r23] ∧ R r13 r14 r15 r16 r17 r18 r19 r20 r21 r22 r23 w3)) ∧ (r12 = false → ∃ a1 : Addr, p1 = some a1 ∧ (∃ (t1 : Int) (t2 : Int) (t3 : Int) (t4 : Int) (t5 : Int) (t6 : Int) (t7 : Int) (t8 : Int) (t9 : Int) (t10 : Int) (t11 : Int), CellsAt w2 a1 0 [.int .u32 t1, .int .u32 t2, .int .u32 t3, .int .u32 t4, .int .u32 t5, .int .u32 t6, .int .u32 t7, .int .u32 t8, .int .u32 t9, .int .u32 t10, .int .u32 t11] ∧ (Has w2 (⟨b1, 0, none⟩ : Addr) 11 ∧ Free w2 (⟨b1, 0, none⟩ : Addr) 11 ∧ ∀ w4 : World, w4 = setCells w2 (⟨b1, 0, none⟩ : Addr) 0 [.int .u32 t1, .int .u32 t2, .int .u32 t3, .int .u32 t4, .int .u32 t5, .int .u32 t6, .int .u32 t7, .int .u32 t8, .int .u32 t9, .int .u32 t10, .int .u32 t11] → (∃ (r24 : Int) (r25 : Int) (r26 : Int) (r27 : Int) (r28 : Int) (r29 : Int) (r30 : Int) (r31 : Int) (r32 : Int) (r33 : Int) (r34 : Int), CellsAt w4 (⟨b1, 0, none⟩ : Addr) 0 [.int .u32 r24, .int .u32 r25, .int .u32 r26, .int .u32 r27, .int .u32 r28, .int .u32 r29, .int .u32 r30, .int .u32 r31, .int .u32 r32, .int .u32 r33, .int .u32 r34] ∧ R r24 r25 r26 r27 r28 r29 r30 r31 r32 r33 r34 w4))))))
set_option maxRecDepth 100000 in
theorem ok_policy_Policy_Rules (p1 : Option Addr) (w : World) (R : Int → Int → Int → Int → Int → Int → Int → Int → Int → Int → Int → World → Prop) (h : V_policy_Policy_Rules p1 w R) : Calls Try.prog 35 #[.pointer p1] w (fun e w' => ∃ (r1 : Int) (r2 : Int) (r3 : Int) (r4 : Int) (r5 : Int) (r6 : Int) (r7 : Int) (r8 : Int) (r9 : Int) (r10 : Int) (r11 : Int), e = .returned (.agg #[.int .u32 r1, .int .u32 r2, .int .u32 r3, .int .u32 r4, .int .u32 r5, .int .u32 r6, .int .u32 r7, .int .u32 r8, .int .u32 r9, .int .u32 r10, .int .u32 r11]) ∧ R r1 r2 r3 r4 r5 r6 r7 r8 r9 r10 r11 w') := by
  unfold V_policy_Policy_Rules at h
  refine enter (N := 10) Try.func35 rfl rfl ?_
  refine CW.seq ?_
  refine CW.region fun L hL => ?_
  obtain ⟨b1, hb_b1⟩ : ∃ b1, b1 = World.size w := ⟨_, rfl⟩
  obtain ⟨w1, hw_w1⟩ : ∃ w1, w1 = World.alloc w (.cells #[.int .u32 0, .int .u32 0, .int .u32 0, .int .u32 0, .int .u32 0, .int .u32 0, .int .u32 0, .int .u32 0, .int .u32 0, .int .u32 0, .int .u32 0] 66) := ⟨_, rfl⟩
  replace h := h b1 hb_b1 w1 hw_w1
  refine LW.val hL rfl (Wants.free rfl) rfl (boxE hb_b1 hw_w1 (Vl.alloc (z := .agg #[.int .u32 0, .int .u32 0, .int .u32 0, .int .u32 0, .int .u32 0, .int .u32 0, .int .u32 0, .int .u32 0, .int .u32 0, .int .u32 0, .int .u32 0]) (by kernel_rfl))) ?_
  refine LW.nil hL rfl ?_
  refine NW.then ?_
  refine CW.seq ?_
  refine CW.seq ?_
  refine CW.region fun L hL => ?_
  refine LW.rd hL rfl (Wants.free rfl) rfl (Rd.move (v := .pointer p1) rfl) ?_
  refine LW.call hL rfl (Wants.free rfl) rfl (Cl.fn (f := 64) rfl Try.func64 (by kernel_rfl) rfl) h (fun e w2 h_ => ?_)
  clear h
  obtain ⟨r12, rfl, h⟩ := h_
  refine ⟨_, rfl, ?_⟩
  refine LW.nil hL rfl ?_
  refine NW.then ?_
  refine CW.cond rfl (fun hb1 => ?_) (fun hb1 => ?_)
  · replace h := h.1 hb1
    refine CW.seq ?_
    refine CW.region fun L hL => ?_
    refine LW.rd hL rfl (Wants.free rfl) rfl (Rd.build (v := .agg #[.int .u32 0, .int .u32 0, .int .u32 0, .int .u32 0, .int .u32 0, .int .u32 0, .int .u32 0, .int .u32 0, .int .u32 0, .int .u32 0, .int .u32 0]) rfl (fun _ => by kernel_rfl)) ?_
    obtain ⟨ho1, hf1, h⟩ := h
    obtain ⟨w3, hw_w3⟩ : ∃ w3, w3 = setCells w2 (⟨b1, 0, none⟩ : Addr) 0 [.int .u32 0, .int .u32 0, .int .u32 0, .int .u32 0, .int .u32 0, .int .u32 0, .int .u32 0, .int .u32 0, .int .u32 0, .int .u32 0, .int .u32 0] := ⟨_, rfl⟩
    replace h := h w3 hw_w3
    refine LW.eff hL rfl (Wants.free rfl) rfl (stNE hw_w3 (Ef.stN (cs := [.int .u32 0, .int .u32 0, .int .u32 0, .int .u32 0, .int .u32 0, .int .u32 0, .int .u32 0, .int .u32 0, .int .u32 0, .int .u32 0, .int .u32 0]) rfl rfl (by kernel_rfl) (List.forall_mem_cons.2 ⟨rfl, (List.forall_mem_cons.2 ⟨rfl, (List.forall_mem_cons.2 ⟨rfl, (List.forall_mem_cons.2 ⟨rfl, (List.forall_mem_cons.2 ⟨rfl, (List.forall_mem_cons.2 ⟨rfl, (List.forall_mem_cons.2 ⟨rfl, (List.forall_mem_cons.2 ⟨rfl, (List.forall_mem_cons.2 ⟨rfl, (List.forall_mem_cons.2 ⟨rfl, (List.forall_mem_cons.2 ⟨rfl, (List.forall_mem_nil _)⟩)⟩)⟩)⟩)⟩)⟩)⟩)⟩)⟩)⟩)⟩) ho1 hf1)) ?_
    refine LW.nil hL rfl ?_
    refine NW.then ?_
    refine CW.ret ?_
    refine RW.then ?_
    obtain ⟨r13, r14, r15, r16, r17, r18, r19, r20, r21, r22, r23, hr1, h⟩ := h
    exact resN (vs := [.agg #[.int .u32 r13, .int .u32 r14, .int .u32 r15, .int .u32 r16, .int .u32 r17, .int .u32 r18, .int .u32 r19, .int .u32 r20, .int .u32 r21, .int .u32 r22, .int .u32 r23]]) (ResOK.c rfl (lvN (cs := [.int .u32 r13, .int .u32 r14, .int .u32 r15, .int .u32 r16, .int .u32 r17, .int .u32 r18, .int .u32 r19, .int .u32 r20, .int .u32 r21, .int .u32 r22, .int .u32 r23]) (by kernel_rfl) (by kernel_rfl) (cellsAt_get hr1)) ResOK.nil) rfl ⟨r13, r14, r15, r16, r17, r18, r19, r20, r21, r22, r23, rfl, h⟩
  · replace h := h.2 hb1
    refine CW.skip ?_
    refine NW.then ?_
    refine CW.seq ?_
    refine CW.region fun L hL => ?_
    refine LW.rd hL rfl (Wants.free rfl) rfl (Rd.move (v := .pointer p1) rfl) ?_
    obtain ⟨a1, ha1, h⟩ := h
    refine LW.rd hL rfl (Wants.free rfl) rfl (Rd.nil (q := a1) (by rw [← ha1]; rfl)) ?_
    refine LW.rd hL rfl (Wants.free rfl) rfl (Rd.fa (v := .pointer (some a1)) rfl (fun _ => by kernel_rfl)) ?_
    obtain ⟨t1, t2, t3, t4, t5, t6, t7, t8, t9, t10, t11, hc1, h⟩ := h
    refine LW.rd hL rfl (Wants.free rfl) rfl (Rd.ldN (cs := [.int .u32 t1, .int .u32 t2, .int .u32 t3, .int .u32 t4, .int .u32 t5, .int .u32 t6, .int .u32 t7, .int .u32 t8, .int .u32 t9, .int .u32 t10, .int .u32 t11]) rfl (by kernel_rfl) (by kernel_rfl) (cellsS hc1)) ?_
    obtain ⟨ho2, hf2, h⟩ := h
    obtain ⟨w4, hw_w4⟩ : ∃ w4, w4 = setCells w2 (⟨b1, 0, none⟩ : Addr) 0 [.int .u32 t1, .int .u32 t2, .int .u32 t3, .int .u32 t4, .int .u32 t5, .int .u32 t6, .int .u32 t7, .int .u32 t8, .int .u32 t9, .int .u32 t10, .int .u32 t11] := ⟨_, rfl⟩
    replace h := h w4 hw_w4
    refine LW.eff hL rfl (Wants.free rfl) rfl (stNE hw_w4 (Ef.stN (cs := [.int .u32 t1, .int .u32 t2, .int .u32 t3, .int .u32 t4, .int .u32 t5, .int .u32 t6, .int .u32 t7, .int .u32 t8, .int .u32 t9, .int .u32 t10, .int .u32 t11]) rfl rfl (by kernel_rfl) (List.forall_mem_cons.2 ⟨rfl, (List.forall_mem_cons.2 ⟨rfl, (List.forall_mem_cons.2 ⟨rfl, (List.forall_mem_cons.2 ⟨rfl, (List.forall_mem_cons.2 ⟨rfl, (List.forall_mem_cons.2 ⟨rfl, (List.forall_mem_cons.2 ⟨rfl, (List.forall_mem_cons.2 ⟨rfl, (List.forall_mem_cons.2 ⟨rfl, (List.forall_mem_cons.2 ⟨rfl, (List.forall_mem_cons.2 ⟨rfl, (List.forall_mem_nil _)⟩)⟩)⟩)⟩)⟩)⟩)⟩)⟩)⟩)⟩)⟩) ho2 hf2)) ?_
    refine LW.nil hL rfl ?_
    refine NW.then ?_
    refine CW.ret ?_
    obtain ⟨r24, r25, r26, r27, r28, r29, r30, r31, r32, r33, r34, hr2, h⟩ := h
    exact resN (vs := [.agg #[.int .u32 r24, .int .u32 r25, .int .u32 r26, .int .u32 r27, .int .u32 r28, .int .u32 r29, .int .u32 r30, .int .u32 r31, .int .u32 r32, .int .u32 r33, .int .u32 r34]]) (ResOK.c rfl (lvN (cs := [.int .u32 r24, .int .u32 r25, .int .u32 r26, .int .u32 r27, .int .u32 r28, .int .u32 r29, .int .u32 r30, .int .u32 r31, .int .u32 r32, .int .u32 r33, .int .u32 r34]) (by kernel_rfl) (by kernel_rfl) (cellsAt_get hr2)) ResOK.nil) rfl ⟨r24, r25, r26, r27, r28, r29, r30, r31, r32, r33, r34, rfl, h⟩

/- (*pomander/flow.Flow).Mark -/
def V_flow_Flow_Mark (f1 : Option Addr) (p1 : Int) (p2 : Int) (n1 : Int) (set1 : Int) (w : World) (R : Int → World → Prop) : Prop :=
  ∀ b1 : Nat, b1 = World.size w → ∀ w1 : World, w1 = World.alloc w (.cells #[.int .i64 p1, .int .i64 p2] 56) → (Calls Try.prog 73 #[.pointer f1] w1 fun e w2 => ∃ (r2 : Bool), e = .returned (.bool r2) ∧ ((r2 = true → R 1 w2) ∧ (r2 = false → ∃ (t1 : Int) (t2 : Int), CellsAt w2 (⟨b1, 0, none⟩ : Addr) 0 [.int .i64 t1, .int .i64 t2] ∧ (Calls Try.prog 74 #[.pointer f1, .agg #[.int .i64 t1, .int .i64 t2]] w2 fun e w3 => ∃ (r3 : Bool), e = .returned (.bool r3) ∧ (((!r3 || decide (set1 ≥ 65536)) = true → R 2 w3) ∧ ((!r3 || decide (set1 ≥ 65536)) = false → ∃ J1 : Bool → World → Prop, (∀ (b2 : Bool) (w4 : World), J1 b2 w4 → (b2 = true → R 4 w4) ∧ (b2 = false → Calls Try.prog 77 #[.pointer f1, .int .u32 set1] w4 fun e w7 => ∃ (r5 : Int), e = .returned (.int .i64 r5) ∧ (((!(r5 == 0)) = true → R r5 w7) ∧ ((!(r5 == 0)) = false → ∃ (I1 : Int → World → Prop) (m1 : Int → World → Nat), I1 0 w7 ∧ ∀ (s1 : Int) (w8 : World), I1 s1 w8 → ((decide (s1 < n1)) = true → ∃ (t5 : Int), w8.cell? (⟨b1, 0, none⟩ : Addr) = some (.int .i64 t5) ∧ (∃ (t6 : Int), w8.cell? (⟨b1, 1, none⟩ : Addr) = some (.int .i64 t6) ∧ (Calls Try.prog 78 #[.pointer f1, .agg #[.int .i64 t5, .int .i64 (IntKind.wrap .i64 (t6 + s1))], .int .u32 set1] w8 fun e w9 => e = .returned (.tuple #[]) ∧ ((I1 (IntKind.wrap .i64 (s1 + 1)) w9 ∧ m1 (IntKind.wrap .i64 (s1 + 1)) w9 < m1 s1 w8))))) ∧ ((decide (s1 < n1)) = false → R 0 w8))))) ∧ (((decide (n1 < 0) || decide (n1 > 65536)) = false → ∃ J2 : Bool → World → Prop, (∀ (b3 : Bool) (w5 : World), J2 b3 w5 → J1 b3 w5) ∧ (((decide (n1 > 0)) = true → ∃ (t3 : Int), w3.cell? (⟨b1, 0, none⟩ : Addr) = some (.int .i64 t3) ∧ (∃ (t4 : Int), w3.cell? (⟨b1, 1, none⟩ : Addr) = some (.int .i64 t4) ∧ (Calls Try.prog 74 #[.pointer f1, .agg #[.int .i64 t3, .int .i64 (IntKind.wrap .i64 ((IntKind.wrap .i64 (t4 + n1)) - 1))]] w3 fun e w6 => ∃ (r4 : Bool), e = .returned (.bool r4) ∧ (J2 (!r4) w6)))) ∧ ((decide (n1 > 0)) = false → J2 false w3))) ∧ ((decide (n1 < 0) || decide (n1 > 65536)) = true → J1 true w3))))))))
set_option maxRecDepth 100000 in
theorem ok_flow_Flow_Mark (f1 : Option Addr) (p1 : Int) (p2 : Int) (n1 : Int) (set1 : Int) (w : World) (R : Int → World → Prop) (h : V_flow_Flow_Mark f1 p1 p2 n1 set1 w R) : Calls Try.prog 36 #[.pointer f1, .agg #[.int .i64 p1, .int .i64 p2], .int .i64 n1, .int .u32 set1] w (fun e w' => ∃ (r1 : Int), e = .returned (.int .i64 r1) ∧ R r1 w') := by
  unfold V_flow_Flow_Mark at h
  refine enter (N := 68) Try.func36 rfl rfl ?_
  refine CW.seq ?_
  refine CW.region fun L hL => ?_
  obtain ⟨b1, hb_b1⟩ : ∃ b1, b1 = World.size w := ⟨_, rfl⟩
  obtain ⟨w1, hw_w1⟩ : ∃ w1, w1 = World.alloc w (.cells #[.int .i64 p1, .int .i64 p2] 56) := ⟨_, rfl⟩
  replace h := h b1 hb_b1 w1 hw_w1
  refine LW.val hL rfl (Wants.free rfl) rfl (boxE hb_b1 hw_w1 (Vl.box (v := .agg #[.int .i64 p1, .int .i64 p2]) rfl)) ?_
  refine LW.rd hL rfl (Wants.free rfl) rfl (Rd.assign (v := .int .i64 0) rfl) ?_
  refine LW.nil hL rfl ?_
  refine NW.then ?_
  refine CW.seq ?_
  refine CW.block ?_
  refine CW.seq ?_
  refine CW.region fun L hL => ?_
  refine LW.rd hL rfl (Wants.free rfl) rfl (Rd.move (v := .pointer f1) rfl) ?_
  refine LW.call hL rfl (Wants.free rfl) rfl (Cl.fn (f := 73) rfl Try.func73 (by kernel_rfl) rfl) h (fun e w2 h_ => ?_)
  clear h
  obtain ⟨r2, rfl, h⟩ := h_
  refine ⟨_, rfl, ?_⟩
  refine LW.rd hL rfl (Wants.free rfl) rfl (Rd.assign (v := .bool r2) rfl) ?_
  refine LW.nil hL rfl ?_
  refine NW.then ?_
  refine CW.cond rfl (fun hb1 => ?_) (fun hb1 => ?_)
  · replace h := h.1 hb1
    refine CW.seq ?_
    refine CW.region fun L hL => ?_
    refine LW.rd hL rfl (Wants.free rfl) rfl (Rd.assign (v := .int .i64 1) rfl) ?_
    refine LW.nil hL rfl ?_
    refine NW.then ?_
    refine CW.ret ?_
    refine RW.block ?_
    refine RW.then ?_
    exact res1 rfl rfl ⟨1, rfl, h⟩
  · replace h := h.2 hb1
    refine CW.seq ?_
    refine CW.region fun L hL => ?_
    refine LW.rd hL rfl (Wants.free rfl) rfl (Rd.move (v := .pointer f1) rfl) ?_
    obtain ⟨t1, t2, hc1, h⟩ := h
    refine LW.rd hL rfl (Wants.free rfl) rfl (Rd.ldN (cs := [.int .i64 t1, .int .i64 t2]) rfl (by kernel_rfl) (by kernel_rfl) (cellsS hc1)) ?_
    refine LW.call hL rfl (Wants.free rfl) rfl (Cl.fn (f := 74) rfl Try.func74 (by kernel_rfl) rfl) h (fun e w3 h_ => ?_)
    clear h
    obtain ⟨r3, rfl, h⟩ := h_
    refine ⟨_, rfl, ?_⟩
    refine LW.rd hL rfl (Wants.free rfl) rfl (Rd.un (v := .bool (!r3)) rfl (fun _ => by kernel_rfl)) ?_
    refine LW.rd hL rfl (Wants.free rfl) rfl (Rd.move (v := .bool (!r3)) rfl) ?_
    suffices K1 : L 8 [(0, .pointer f1), (2, .int .i64 n1), (3, .int .u32 set1), (5, .pointer (some (⟨b1, 0, none⟩ : Addr))), (8, .int .i64 0), (22, .bool (!r3 || decide (set1 ≥ 65536)))] w3 by
      rcases Bool.eq_false_or_eq_true (!r3) with hb3 | hb3
      · skip
        refine LW.skip hL rfl (Skips.on rfl rfl rfl rfl rfl hb3) rfl ?_
        refine LW.skip hL rfl (Skips.on rfl rfl rfl rfl rfl hb3) rfl ?_
        refine LW.rd hL rfl (Wants.free rfl) rfl (Rd.pickT rfl hb3 rfl) ?_
        exact LW.sub hL (by exact ⟨rfl, rfl, rfl, rfl, rfl, (by rw [hb3]; rfl), trivial⟩) K1
      · skip
        refine LW.rd hL rfl (Wants.on rfl rfl rfl rfl rfl hb3) rfl (Rd.move (v := .int .u32 set1) rfl) ?_
        refine LW.rd hL rfl (Wants.on rfl rfl rfl rfl rfl hb3) rfl (Rd.bin (v := .bool (decide (set1 ≥ 65536))) rfl rfl (fun w => by kernel_rfl)) ?_
        refine LW.rd hL rfl (Wants.free rfl) rfl (Rd.pickF rfl hb3 rfl) ?_
        exact LW.sub hL (by exact ⟨rfl, rfl, rfl, rfl, rfl, (by rw [hb3]; rfl), trivial⟩) K1
    refine LW.rd hL rfl (Wants.free rfl) rfl (Rd.assign (v := .bool (!r3 || decide (set1 ≥ 65536))) rfl) ?_
    refine LW.nil hL rfl ?_
    refine NW.then ?_
    refine CW.cond rfl (fun hb4 => ?_) (fun hb4 => ?_)
    · replace h := h.1 hb4
      refine CW.seq ?_
      refine CW.region fun L hL => ?_
      refine LW.rd hL rfl (Wants.free rfl) rfl (Rd.assign (v := .int .i64 2) rfl) ?_
      refine LW.nil hL rfl ?_
      refine NW.then ?_
      refine CW.ret ?_
      refine RW.block ?_
      refine RW.then ?_
      exact res1 rfl rfl ⟨2, rfl, h⟩
    · replace h := h.2 hb4
      refine CW.seq ?_
      refine CW.region fun L hL => ?_
      refine LW.rd hL rfl (Wants.free rfl) rfl (Rd.move (v := .int .i64 n1) rfl) ?_
      refine LW.rd hL rfl (Wants.free rfl) rfl (Rd.bin (v := .bool (decide (n1 < 0))) rfl rfl (fun w => by kernel_rfl)) ?_
      refine LW.rd hL rfl (Wants.free rfl) rfl (Rd.move (v := .bool (decide (n1 < 0))) rfl) ?_
      suffices K2 : L 6 [(0, .pointer f1), (2, .int .i64 n1), (3, .int .u32 set1), (5, .pointer (some (⟨b1, 0, none⟩ : Addr))), (8, .int .i64 0), (29, .bool (decide (n1 < 0) || decide (n1 > 65536)))] w3 by
        rcases Bool.eq_false_or_eq_true (decide (n1 < 0)) with hb6 | hb6
        · skip
          refine LW.skip hL rfl (Skips.on rfl rfl rfl rfl rfl hb6) rfl ?_
          refine LW.skip hL rfl (Skips.on rfl rfl rfl rfl rfl hb6) rfl ?_
          refine LW.rd hL rfl (Wants.free rfl) rfl (Rd.pickT rfl hb6 rfl) ?_
          exact LW.sub hL (by exact ⟨rfl, rfl, rfl, rfl, rfl, (by rw [hb6]; rfl), trivial⟩) K2
        · skip
          refine LW.rd hL rfl (Wants.on rfl rfl rfl rfl rfl hb6) rfl (Rd.move (v := .int .i64 n1) rfl) ?_
          refine LW.rd hL rfl (Wants.on rfl rfl rfl rfl rfl hb6) rfl (Rd.bin (v := .bool (decide (n1 > 65536))) rfl rfl (fun w => by kernel_rfl)) ?_
          refine LW.rd hL rfl (Wants.free rfl) rfl (Rd.pickF rfl hb6 rfl) ?_
          exact LW.sub hL (by exact ⟨rfl, rfl, rfl, rfl, rfl, (by rw [hb6]; rfl), trivial⟩) K2
      refine LW.rd hL rfl (Wants.free rfl) rfl (Rd.move (v := .bool (decide (n1 < 0) || decide (n1 > 65536))) rfl) ?_
      obtain ⟨J1, hJ1, h1_J1, h0_J1⟩ := h
      suffices K3 : ∀ (b2 : Bool) (w4 : World), J1 b2 w4 → L 23 [(0, .pointer f1), (2, .int .i64 n1), (3, .int .u32 set1), (5, .pointer (some (⟨b1, 0, none⟩ : Addr))), (8, .int .i64 0), (46, .bool b2)] w4 by
        rcases Bool.eq_false_or_eq_true (decide (n1 < 0) || decide (n1 > 65536)) with hb7 | hb7
        · have h := h0_J1 hb7
          refine LW.skip hL rfl (Skips.on rfl rfl rfl rfl rfl hb7) rfl ?_
          refine LW.skip hL rfl (Skips.on rfl rfl rfl rfl rfl hb7) rfl ?_
          refine LW.skip hL rfl (Skips.on rfl rfl rfl rfl rfl hb7) rfl ?_
          refine LW.skip hL rfl (Skips.un rfl rfl rfl rfl rfl) rfl ?_
          refine LW.skip hL rfl (Skips.un rfl rfl rfl rfl rfl) rfl ?_
          refine LW.skip hL rfl (Skips.un rfl rfl rfl rfl rfl) rfl ?_
          refine LW.skip hL rfl (Skips.un rfl rfl rfl rfl rfl) rfl ?_
          refine LW.skip hL rfl (Skips.un rfl rfl rfl rfl rfl) rfl ?_
          refine LW.skip hL rfl (Skips.un rfl rfl rfl rfl rfl) rfl ?_
          refine LW.skip hL rfl (Skips.un rfl rfl rfl rfl rfl) rfl ?_
          refine LW.skip hL rfl (Skips.un rfl rfl rfl rfl rfl) rfl ?_
          refine LW.skip hL rfl (Skips.un rfl rfl rfl rfl rfl) rfl ?_
          refine LW.skip hL rfl (Skips.un rfl rfl rfl rfl rfl) rfl ?_
          refine LW.skip hL rfl (Skips.un rfl rfl rfl rfl rfl) rfl ?_
          refine LW.skip hL rfl (Skips.on rfl rfl rfl rfl rfl hb7) rfl ?_
          refine LW.rd hL rfl (Wants.free rfl) rfl (Rd.pickT rfl hb7 rfl) ?_
          exact LW.sub hL (by exact ⟨rfl, rfl, rfl, rfl, rfl, rfl, trivial⟩) (K3 true w3 h)
        · have h := h1_J1 hb7
          refine LW.rd hL rfl (Wants.on rfl rfl rfl rfl rfl hb7) rfl (Rd.move (v := .int .i64 n1) rfl) ?_
          refine LW.rd hL rfl (Wants.on rfl rfl rfl rfl rfl hb7) rfl (Rd.bin (v := .bool (decide (n1 > 0))) rfl rfl (fun w => by kernel_rfl)) ?_
          refine LW.rd hL rfl (Wants.on rfl rfl rfl rfl rfl hb7) rfl (Rd.move (v := .bool (decide (n1 > 0))) rfl) ?_
          obtain ⟨J2, hJ2, h1_J2, h0_J2⟩ := h
          suffices K4 : ∀ (b3 : Bool) (w5 : World), J2 b3 w5 → L 22 [(0, .pointer f1), (2, .int .i64 n1), (3, .int .u32 set1), (5, .pointer (some (⟨b1, 0, none⟩ : Addr))), (8, .int .i64 0), (30, .bool (decide (n1 < 0) || decide (n1 > 65536))), (45, .bool b3)] w5 by
            rcases Bool.eq_false_or_eq_true (decide (n1 > 0)) with hb8 | hb8
            · have h := h1_J2 hb8
              refine LW.rd hL rfl (Wants.on rfl rfl rfl rfl rfl hb8) rfl (Rd.move (v := .pointer f1) rfl) ?_
              refine LW.rd hL rfl (Wants.on rfl rfl rfl rfl rfl hb8) rfl (Rd.fa (v := .pointer (some (⟨b1, 0, none⟩ : Addr))) rfl (fun _ => by kernel_rfl)) ?_
              obtain ⟨t3, hc2, h⟩ := h
              refine LW.rd hL rfl (Wants.on rfl rfl rfl rfl rfl hb8) rfl (Rd.ld (v := .int .i64 t3) rfl (by kernel_rfl) (eqs hc2)) ?_
              refine LW.rd hL rfl (Wants.on rfl rfl rfl rfl rfl hb8) rfl (Rd.fa (v := .pointer (some (⟨b1, 1, none⟩ : Addr))) rfl (fun _ => by kernel_rfl)) ?_
              obtain ⟨t4, hc3, h⟩ := h
              refine LW.rd hL rfl (Wants.on rfl rfl rfl rfl rfl hb8) rfl (Rd.ld (v := .int .i64 t4) rfl (by kernel_rfl) (eqs hc3)) ?_
              refine LW.rd hL rfl (Wants.on rfl rfl rfl rfl rfl hb8) rfl (Rd.move (v := .int .i64 n1) rfl) ?_
              refine LW.rd hL rfl (Wants.on rfl rfl rfl rfl rfl hb8) rfl (Rd.bin (v := .int .i64 (IntKind.wrap .i64 (t4 + n1))) rfl rfl (fun w => by kernel_rfl)) ?_
              refine LW.rd hL rfl (Wants.on rfl rfl rfl rfl rfl hb8) rfl (Rd.bin (v := .int .i64 (IntKind.wrap .i64 ((IntKind.wrap .i64 (t4 + n1)) - 1))) rfl rfl (fun w => by kernel_rfl)) ?_
              refine LW.rd hL rfl (Wants.on rfl rfl rfl rfl rfl hb8) rfl (Rd.build (v := .agg #[.int .i64 t3, .int .i64 (IntKind.wrap .i64 ((IntKind.wrap .i64 (t4 + n1)) - 1))]) rfl (fun _ => by kernel_rfl)) ?_
              refine LW.call hL rfl (Wants.on rfl rfl rfl rfl rfl hb8) rfl (Cl.fn (f := 74) rfl Try.func74 (by kernel_rfl) rfl) h (fun e w6 h_ => ?_)
              clear h
              obtain ⟨r4, rfl, h⟩ := h_
              refine ⟨_, rfl, ?_⟩
              refine LW.rd hL rfl (Wants.on rfl rfl rfl rfl rfl hb8) rfl (Rd.un (v := .bool (!r4)) rfl (fun _ => by kernel_rfl)) ?_
              refine LW.rd hL rfl (Wants.on rfl rfl rfl rfl rfl hb7) rfl (Rd.pickT rfl hb8 rfl) ?_
              exact LW.sub hL (by exact ⟨rfl, rfl, rfl, rfl, rfl, rfl, rfl, trivial⟩) (K4 (!r4) w6 h)
            · have h := h0_J2 hb8
              refine LW.skip hL rfl (Skips.on rfl rfl rfl rfl rfl hb8) rfl ?_
              refine LW.skip hL rfl (Skips.on rfl rfl rfl rfl rfl hb8) rfl ?_
              refine LW.skip hL rfl (Skips.on rfl rfl rfl rfl rfl hb8) rfl ?_
              refine LW.skip hL rfl (Skips.on rfl rfl rfl rfl rfl hb8) rfl ?_
              refine LW.skip hL rfl (Skips.on rfl rfl rfl rfl rfl hb8) rfl ?_
              refine LW.skip hL rfl (Skips.on rfl rfl rfl rfl rfl hb8) rfl ?_
              refine LW.skip hL rfl (Skips.on rfl rfl rfl rfl rfl hb8) rfl ?_
              refine LW.skip hL rfl (Skips.on rfl rfl rfl rfl rfl hb8) rfl ?_
              refine LW.skip hL rfl (Skips.on rfl rfl rfl rfl rfl hb8) rfl ?_
              refine LW.skip hL rfl (Skips.on rfl rfl rfl rfl rfl hb8) rfl ?_
              refine LW.skip hL rfl (Skips.on rfl rfl rfl rfl rfl hb8) rfl ?_
              refine LW.rd hL rfl (Wants.on rfl rfl rfl rfl rfl hb7) rfl (Rd.pickF rfl hb8 rfl) ?_
              exact LW.sub hL (by exact ⟨rfl, rfl, rfl, rfl, rfl, rfl, rfl, trivial⟩) (K4 false w3 h)
          intro b3 w5 h_
          have h := hJ2 b3 w5 h_; clear h_
          refine LW.rd hL rfl (Wants.free rfl) rfl (Rd.pickF rfl hb7 rfl) ?_
          exact LW.sub hL (by exact ⟨rfl, rfl, rfl, rfl, rfl, rfl, trivial⟩) (K3 b3 w5 h)
      intro b2 w4 h_
      have h := hJ1 b2 w4 h_; clear h_
      refine LW.rd hL rfl (Wants.free rfl) rfl (Rd.assign (v := .bool b2) rfl) ?_
      refine LW.nil hL rfl ?_
      refine NW.then ?_
      refine CW.cond rfl (fun hb9 => ?_) (fun hb9 => ?_)
      · replace h := h.1 hb9
        refine CW.seq ?_
        refine CW.region fun L hL => ?_
        refine LW.rd hL rfl (Wants.free rfl) rfl (Rd.assign (v := .int .i64 4) rfl) ?_
        refine LW.nil hL rfl ?_
        refine NW.then ?_
        refine CW.ret ?_
        refine RW.block ?_
        refine RW.then ?_
        exact res1 rfl rfl ⟨4, rfl, h⟩
      · replace h := h.2 hb9
        refine CW.skip ?_
        refine NW.block ?_
        refine NW.then ?_
        refine CW.seq ?_
        refine CW.seq ?_
        refine CW.region fun L hL => ?_
        refine LW.rd hL rfl (Wants.free rfl) rfl (Rd.move (v := .pointer f1) rfl) ?_
        refine LW.rd hL rfl (Wants.free rfl) rfl (Rd.move (v := .int .u32 set1) rfl) ?_
        refine LW.call hL rfl (Wants.free rfl) rfl (Cl.fn (f := 77) rfl Try.func77 (by kernel_rfl) rfl) h (fun e w7 h_ => ?_)
        clear h
        obtain ⟨r5, rfl, h⟩ := h_
        refine ⟨_, rfl, ?_⟩
        refine LW.rd hL rfl (Wants.free rfl) rfl (Rd.assign (v := .int .i64 r5) rfl) ?_
        refine LW.nil hL rfl ?_
        refine NW.then ?_
        refine CW.seq ?_
        refine CW.region fun L hL => ?_
        refine LW.rd hL rfl (Wants.free rfl) rfl (Rd.move (v := .int .i64 r5) rfl) ?_
        refine LW.rd hL rfl (Wants.free rfl) rfl (Rd.bin (v := .bool (!(r5 == 0))) rfl rfl (fun w => by kernel_rfl)) ?_
        refine LW.nil hL rfl ?_
        refine NW.then ?_
        refine CW.cond rfl (fun hb10 => ?_) (fun hb10 => ?_)
        · replace h := h.1 hb10
          refine CW.seq ?_
          refine CW.region fun L hL => ?_
          refine LW.rd hL rfl (Wants.free rfl) rfl (Rd.move (v := .int .i64 r5) rfl) ?_
          refine LW.rd hL rfl (Wants.free rfl) rfl (Rd.assign (v := .int .i64 r5) rfl) ?_
          refine LW.nil hL rfl ?_
          refine NW.then ?_
          refine CW.ret ?_
          refine RW.then ?_
          exact res1 rfl rfl ⟨r5, rfl, h⟩
        · replace h := h.2 hb10
          refine CW.skip ?_
          refine NW.then ?_
          refine CW.seq ?_
          refine CW.seq ?_
          refine CW.region fun L hL => ?_
          refine LW.rd hL rfl (Wants.free rfl) rfl (Rd.move (v := .int .i64 n1) rfl) ?_
          refine LW.rd hL rfl (Wants.free rfl) rfl (Rd.move (v := .int .i64 0) rfl) ?_
          refine LW.nil hL rfl ?_
          refine NW.then ?_
          refine CW.block ?_
          obtain ⟨I1, m1, hI1, h⟩ := h
          refine CW.loop (S := Int) (fun s1 => [(0, .pointer f1), (3, .int .u32 set1), (5, .pointer (some (⟨b1, 0, none⟩ : Addr))), (8, .int .i64 0), (53, .int .i64 n1), (54, .int .i64 s1)]) I1 m1 0 (by exact ⟨rfl, rfl, rfl, rfl, rfl, rfl, trivial⟩) hI1 (fun s1 w8 hI1 => ?_)
          replace h := h s1 w8 hI1
          refine CW.seq ?_
          refine CW.region fun L hL => ?_
          refine LW.rd hL rfl (Wants.free rfl) rfl (Rd.bin (v := .bool (decide (s1 < n1))) rfl rfl (fun w => by kernel_rfl)) ?_
          refine LW.nil hL rfl ?_
          refine NW.then ?_
          refine CW.seq ?_
          refine CW.cond rfl (fun hb11 => ?_) (fun hb11 => ?_)
          · replace h := h.1 hb11
            refine CW.skip ?_
            refine NW.then ?_
            refine CW.seq ?_
            refine CW.block ?_
            refine CW.seq ?_
            refine CW.region fun L hL => ?_
            refine LW.rd hL rfl (Wants.free rfl) rfl (Rd.move (v := .int .i64 s1) rfl) ?_
            refine LW.rd hL rfl (Wants.free rfl) rfl (Rd.assign (v := .int .i64 s1) rfl) ?_
            refine LW.nil hL rfl ?_
            refine NW.then ?_
            refine CW.region fun L hL => ?_
            refine LW.rd hL rfl (Wants.free rfl) rfl (Rd.move (v := .pointer f1) rfl) ?_
            refine LW.rd hL rfl (Wants.free rfl) rfl (Rd.fa (v := .pointer (some (⟨b1, 0, none⟩ : Addr))) rfl (fun _ => by kernel_rfl)) ?_
            obtain ⟨t5, hc4, h⟩ := h
            refine LW.rd hL rfl (Wants.free rfl) rfl (Rd.ld (v := .int .i64 t5) rfl (by kernel_rfl) (eqs hc4)) ?_
            refine LW.rd hL rfl (Wants.free rfl) rfl (Rd.fa (v := .pointer (some (⟨b1, 1, none⟩ : Addr))) rfl (fun _ => by kernel_rfl)) ?_
            obtain ⟨t6, hc5, h⟩ := h
            refine LW.rd hL rfl (Wants.free rfl) rfl (Rd.ld (v := .int .i64 t6) rfl (by kernel_rfl) (eqs hc5)) ?_
            refine LW.rd hL rfl (Wants.free rfl) rfl (Rd.move (v := .int .i64 s1) rfl) ?_
            refine LW.rd hL rfl (Wants.free rfl) rfl (Rd.bin (v := .int .i64 (IntKind.wrap .i64 (t6 + s1))) rfl rfl (fun w => by kernel_rfl)) ?_
            refine LW.rd hL rfl (Wants.free rfl) rfl (Rd.build (v := .agg #[.int .i64 t5, .int .i64 (IntKind.wrap .i64 (t6 + s1))]) rfl (fun _ => by kernel_rfl)) ?_
            refine LW.rd hL rfl (Wants.free rfl) rfl (Rd.move (v := .int .u32 set1) rfl) ?_
            refine LW.call hL rfl (Wants.free rfl) rfl (Cl.fn (f := 78) rfl Try.func78 (by kernel_rfl) rfl) h (fun e w9 h_ => ?_)
            clear h
            obtain ⟨rfl, h⟩ := h_
            refine ⟨_, rfl, ?_⟩
            refine LW.nil hL rfl ?_
            refine NW.block ?_
            refine NW.then ?_
            refine CW.region fun L hL => ?_
            refine LW.rd hL rfl (Wants.free rfl) rfl (Rd.bin (v := .int .i64 (IntKind.wrap .i64 (s1 + 1))) rfl rfl (fun w => by kernel_rfl)) ?_
            refine LW.rd hL rfl (Wants.free rfl) rfl (Rd.move (v := .int .i64 (IntKind.wrap .i64 (s1 + 1))) rfl) ?_
            refine LW.nil hL rfl ?_
            exact NW.loop (S := Int) (Ek := fun s1 => [(0, .pointer f1), (3, .int .u32 set1), (5, .pointer (some (⟨b1, 0, none⟩ : Addr))), (8, .int .i64 0), (53, .int .i64 n1), (54, .int .i64 s1)]) (IntKind.wrap .i64 (s1 + 1)) (by exact ⟨rfl, rfl, rfl, rfl, rfl, rfl, trivial⟩) h
          · replace h := h.2 hb11
            refine CW.exit ?_
            refine XW.then ?_
            refine XW.then ?_
            refine XW.hit ?_
            refine NW.then ?_
            refine CW.seq ?_
            refine CW.region fun L hL => ?_
            refine LW.rd hL rfl (Wants.free rfl) rfl (Rd.assign (v := .int .i64 0) rfl) ?_
            refine LW.nil hL rfl ?_
            refine NW.then ?_
            refine CW.ret ?_
            exact res1 rfl rfl ⟨0, rfl, h⟩

/- (*pomander/policy.Policy).Alerts -/
def V_policy_Policy_Alerts (p1 : Option Addr) (f1 : Option Addr) (l1 : Option Addr) (l1n : Nat) (l1c : Nat) (w : World) (R : (Option Addr) → Nat → Nat → Int → World → Prop) : Prop :=
  Calls Try.prog 64 #[.pointer p1] w fun e w1 => ∃ (r3 : Bool), e = .returned (.bool r3) ∧ ((r3 = true → R none 0 0 1 w1) ∧ (r3 = false → Calls Try.prog 65 #[.pointer f1, .slice l1 l1n l1c] w1 fun e w2 => ∃ (r4 : Int) (r5 : Int), e = .returned (.tuple #[.int .u32 r4, .int .i64 r5]) ∧ (((!(r5 == 0)) = true → R none 0 0 r5 w2) ∧ ((!(r5 == 0)) = false → ∃ (I1 : (Option Addr) × Nat × Nat × Int → World → Prop) (m1 : (Option Addr) × Nat × Nat × Int → World → Nat), I1 (none, 0, 0, 0) w2 ∧ ∀ (s1 : (Option Addr) × Nat × Nat × Int) (w3 : World), I1 s1 w3 → ((decide (s1.2.2.2 < (l1n : Int))) = true → ∃ J1 : (Option Addr) × Nat × Nat → World → Prop, (∀ (s2 : (Option Addr) × Nat × Nat) (w4 : World), J1 s2 w4 → (I1 (s2.1, s2.2.1, s2.2.2, IntKind.wrap .i64 (s1.2.2.2 + 1)) w4 ∧ m1 (s2.1, s2.2.1, s2.2.2, IntKind.wrap .i64 (s1.2.2.2 + 1)) w4 < m1 s1 w3)) ∧ (∃ a1 : Addr, l1 = some a1 ∧ (0 : Int) ≤ s1.2.2.2 ∧ s1.2.2.2 < (l1n : Int) ∧ (∃ (t1 : Int) (t2 : Int) (t3 : Option Addr) (t3n : Nat) (t3c : Nat), CellsAt w3 (a1.add (Int.toNat s1.2.2.2 * 3)) 0 [.int .i64 t1, .int .i64 t2, .slice t3 t3n t3c] ∧ (∀ b1 : Nat, b1 = World.size w3 → ∀ w5 : World, w5 = World.alloc w3 (.cells #[.int .i64 0, .int .i64 0, .slice none 0 0] 81) → (Has w5 (⟨b1, 0, none⟩ : Addr) 3 ∧ Free w5 (⟨b1, 0, none⟩ : Addr) 3 ∧ ∀ w6 : World, w6 = setCells w5 (⟨b1, 0, none⟩ : Addr) 0 [.int .i64 t1, .int .i64 t2, .slice t3 t3n t3c] → (∃ (t4 : Option Addr) (t4n : Nat) (t4c : Nat), w6.cell? (⟨b1, 2, none⟩ : Addr) = some (.slice t4 t4n t4c) ∧ (∀ b2 : Nat, b2 = World.size w6 → ∀ w7 : World, w7 = World.alloc w6 (.cells #[.int .i64 0, .int .i64 0, .slice t4 t4n t4c] 81) → (Calls Try.prog 65 #[.pointer f1, .slice (some (⟨b2, 0, none⟩ : Addr)) 1 1] w7 fun e w8 => ∃ (r6 : Int) (r7 : Int), e = .returned (.tuple #[.int .u32 r6, .int .i64 r7]) ∧ (∀ w9 : World, w9 = World.drew w8 → ∃ (t5 : Int), w9.cell? (⟨b1, 0, none⟩ : Addr) = some (.int .i64 t5) ∧ (∃ a2 : Addr, p1 = some a2 ∧ (Calls Try.prog 83 #[] w9 fun e w10 => ∃ (r8 : Option Nat), e = .returned (.map r8) ∧ ((w10.cell? (⟨b1, 0, none⟩ : Addr) = some (.int .i64 t5) ∧ True) ∧ (∃ (v1 : Int), (Instr.lookup 157 (.map r8) (.int .i64 t5) false).run Try.prog w10 = .ok (.int .i64 v1) w10 ∧ ((0 : Int) ≤ v1 ∧ (v1 : Int) < 5 ∧ (∃ (t6 : Int), w10.cell? ((a2.add 5).add (Int.toNat v1 * 1)) = some (.int .u32 t6) ∧ (((!((bits .and .u32 r6 t6) == 0)) = true → ∃ (t7 : Int) (t8 : Int), CellsAt w10 (⟨b1, 0, none⟩ : Addr) 0 [.int .i64 t7, .int .i64 t8] ∧ (∀ b3 : Nat, b3 = World.size w10 → ∀ w11 : World, w11 = World.alloc w10 (.cells #[.int .i64 t7, .int .i64 t8, .int .u32 (bits .and .u32 r6 t6)] 159) → (∃ (l2 : Option Addr) (l2n : Nat) (l2c : Nat) (w12 : World), (Builtin.append_ #[86, 86] 86 #[.slice s1.1 s1.2.1 s1.2.2.1, .slice (some (⟨b3, 0, none⟩ : Addr)) 1 1]).run Try.prog w11 = .ok (.slice l2 l2n l2c) w12 ∧ (J1 (l2, l2n, l2c) w12)))) ∧ ((!((bits .and .u32 r6 t6) == 0)) = false → J1 (s1.1, s1.2.1, s1.2.2.1) w10))))))))))))))))) ∧ ((decide (s1.2.2.2 < (l1n : Int))) = false → R s1.1 s1.2.1 s1.2.2.1 0 w3)))))
set_option maxRecDepth 100000 in
theorem ok_policy_Policy_Alerts (p1 : Option Addr) (f1 : Option Addr) (l1 : Option Addr) (l1n : Nat) (l1c : Nat) (w : World) (R : (Option Addr) → Nat → Nat → Int → World → Prop) (h : V_policy_Policy_Alerts p1 f1 l1 l1n l1c w R) : Calls Try.prog 39 #[.pointer p1, .pointer f1, .slice l1 l1n l1c] w (fun e w' => ∃ (r1 : Option Addr) (r1n : Nat) (r1c : Nat) (r2 : Int), e = .returned (.tuple #[.slice r1 r1n r1c, .int .i64 r2]) ∧ R r1 r1n r1c r2 w') := by
  unfold V_policy_Policy_Alerts at h
  refine enter (N := 65) Try.func39 rfl rfl ?_
  refine CW.seq ?_
  refine CW.region fun L hL => ?_
  refine LW.rd hL rfl (Wants.free rfl) rfl (Rd.assign (v := .slice none 0 0) rfl) ?_
  refine LW.rd hL rfl (Wants.free rfl) rfl (Rd.assign (v := .int .i64 0) rfl) ?_
  refine LW.nil hL rfl ?_
  refine NW.then ?_
  refine CW.seq ?_
  refine CW.seq ?_
  refine CW.region fun L hL => ?_
  refine LW.rd hL rfl (Wants.free rfl) rfl (Rd.move (v := .pointer p1) rfl) ?_
  refine LW.call hL rfl (Wants.free rfl) rfl (Cl.fn (f := 64) rfl Try.func64 (by kernel_rfl) rfl) h (fun e w1 h_ => ?_)
  clear h
  obtain ⟨r3, rfl, h⟩ := h_
  refine ⟨_, rfl, ?_⟩
  refine LW.nil hL rfl ?_
  refine NW.then ?_
  refine CW.cond rfl (fun hb1 => ?_) (fun hb1 => ?_)
  · replace h := h.1 hb1
    refine CW.seq ?_
    refine CW.region fun L hL => ?_
    refine LW.rd hL rfl (Wants.free rfl) rfl (Rd.assign (v := .slice none 0 0) rfl) ?_
    refine LW.rd hL rfl (Wants.free rfl) rfl (Rd.assign (v := .int .i64 1) rfl) ?_
    refine LW.nil hL rfl ?_
    refine NW.then ?_
    refine CW.ret ?_
    refine RW.then ?_
    exact res2 rfl rfl rfl ⟨none, 0, 0, 1, rfl, h⟩
  · replace h := h.2 hb1
    refine CW.skip ?_
    refine NW.then ?_
    refine CW.seq ?_
    refine CW.seq ?_
    refine CW.region fun L hL => ?_
    refine LW.rd hL rfl (Wants.free rfl) rfl (Rd.move (v := .pointer f1) rfl) ?_
    refine LW.rd hL rfl (Wants.free rfl) rfl (Rd.move (v := .slice l1 l1n l1c) rfl) ?_
    refine LW.call hL rfl (Wants.free rfl) rfl (Cl.fn (f := 65) rfl Try.func65 (by kernel_rfl) rfl) h (fun e w2 h_ => ?_)
    clear h
    obtain ⟨r4, r5, rfl, h⟩ := h_
    refine ⟨_, rfl, ?_⟩
    refine LW.rd hL rfl (Wants.free rfl) rfl (Rd.move (v := .tuple #[.int .u32 r4, .int .i64 r5]) rfl) ?_
    refine LW.rd hL rfl (Wants.free rfl) rfl (Rd.extract (v := .int .u32 r4) rfl rfl) ?_
    refine LW.rd hL rfl (Wants.free rfl) rfl (Rd.extract (v := .int .i64 r5) rfl rfl) ?_
    refine LW.rd hL rfl (Wants.free rfl) rfl (Rd.assign (v := .int .u32 r4) rfl) ?_
    refine LW.rd hL rfl (Wants.free rfl) rfl (Rd.assign (v := .int .i64 r5) rfl) ?_
    refine LW.nil hL rfl ?_
    refine NW.then ?_
    refine CW.seq ?_
    refine CW.region fun L hL => ?_
    refine LW.rd hL rfl (Wants.free rfl) rfl (Rd.move (v := .int .i64 r5) rfl) ?_
    refine LW.rd hL rfl (Wants.free rfl) rfl (Rd.bin (v := .bool (!(r5 == 0))) rfl rfl (fun w => by kernel_rfl)) ?_
    refine LW.nil hL rfl ?_
    refine NW.then ?_
    refine CW.cond rfl (fun hb2 => ?_) (fun hb2 => ?_)
    · replace h := h.1 hb2
      refine CW.seq ?_
      refine CW.region fun L hL => ?_
      refine LW.rd hL rfl (Wants.free rfl) rfl (Rd.move (v := .int .i64 r5) rfl) ?_
      refine LW.rd hL rfl (Wants.free rfl) rfl (Rd.assign (v := .slice none 0 0) rfl) ?_
      refine LW.rd hL rfl (Wants.free rfl) rfl (Rd.assign (v := .int .i64 r5) rfl) ?_
      refine LW.nil hL rfl ?_
      refine NW.then ?_
      refine CW.ret ?_
      refine RW.then ?_
      exact res2 rfl rfl rfl ⟨none, 0, 0, r5, rfl, h⟩
    · replace h := h.2 hb2
      refine CW.skip ?_
      refine NW.then ?_
      refine CW.seq ?_
      refine CW.region fun L hL => ?_
      refine LW.rd hL rfl (Wants.free rfl) rfl (Rd.assign (v := .slice none 0 0) rfl) ?_
      refine LW.nil hL rfl ?_
      refine NW.then ?_
      refine CW.seq ?_
      refine CW.seq ?_
      refine CW.region fun L hL => ?_
      refine LW.rd hL rfl (Wants.free rfl) rfl (Rd.move (v := .slice l1 l1n l1c) rfl) ?_
      refine LW.rd hL rfl (Wants.free rfl) rfl (Rd.builtin (v := .int .i64 (l1n : Int)) rfl (fun _ _ => by kernel_rfl)) ?_
      refine LW.rd hL rfl (Wants.free rfl) rfl (Rd.move (v := .int .i64 0) rfl) ?_
      refine LW.nil hL rfl ?_
      refine NW.then ?_
      refine CW.block ?_
      obtain ⟨I1, m1, hI1, h⟩ := h
      refine CW.loop (S := (Option Addr) × Nat × Nat × Int) (fun s1 => [(0, .pointer p1), (1, .pointer f1), (6, .slice none 0 0), (7, .int .i64 0), (26, .slice l1 l1n l1c), (27, .int .i64 (l1n : Int)), (10, .slice s1.1 s1.2.1 s1.2.2.1), (28, .int .i64 s1.2.2.2)]) I1 m1 (none, 0, 0, 0) (by exact ⟨rfl, rfl, rfl, rfl, rfl, rfl, rfl, rfl, trivial⟩) hI1 (fun s1 w3 hI1 => ?_)
      replace h := h s1 w3 hI1
      refine CW.seq ?_
      refine CW.region fun L hL => ?_
      refine LW.rd hL rfl (Wants.free rfl) rfl (Rd.bin (v := .bool (decide (s1.2.2.2 < (l1n : Int)))) rfl rfl (fun w => by kernel_rfl)) ?_
      refine LW.nil hL rfl ?_
      refine NW.then ?_
      refine CW.seq ?_
      refine CW.cond rfl (fun hb3 => ?_) (fun hb3 => ?_)
      · replace h := h.1 hb3
        refine CW.skip ?_
        refine NW.then ?_
        obtain ⟨J1, hJ1, h⟩ := h
        refine CW.cut (S := (Option Addr) × Nat × Nat) (fun s2 => [(0, .pointer p1), (1, .pointer f1), (6, .slice none 0 0), (7, .int .i64 0), (26, .slice l1 l1n l1c), (27, .int .i64 (l1n : Int)), (28, .int .i64 s1.2.2.2), (10, .slice s2.1 s2.2.1 s2.2.2)]) J1 (fun s2 w4 h_ => ?_) ?_
        · replace h := hJ1 s2 w4 h_; clear h_
          refine CW.region fun L hL => ?_
          refine LW.rd hL rfl (Wants.free rfl) rfl (Rd.bin (v := .int .i64 (IntKind.wrap .i64 (s1.2.2.2 + 1))) rfl rfl (fun w => by kernel_rfl)) ?_
          refine LW.rd hL rfl (Wants.free rfl) rfl (Rd.move (v := .int .i64 (IntKind.wrap .i64 (s1.2.2.2 + 1))) rfl) ?_
          refine LW.nil hL rfl ?_
          exact NW.loop (S := (Option Addr) × Nat × Nat × Int) (Ek := fun s1 => [(0, .pointer p1), (1, .pointer f1), (6, .slice none 0 0), (7, .int .i64 0), (26, .slice l1 l1n l1c), (27, .int .i64 (l1n : Int)), (10, .slice s1.1 s1.2.1 s1.2.2.1), (28, .int .i64 s1.2.2.2)]) (s2.1, s2.2.1, s2.2.2, IntKind.wrap .i64 (s1.2.2.2 + 1)) (by exact ⟨rfl, rfl, rfl, rfl, rfl, rfl, rfl, rfl, trivial⟩) h
        · skip
          refine CW.block ?_
          refine CW.seq ?_
          refine CW.region fun L hL => ?_
          obtain ⟨a1, he1, hi1, hi2, h⟩ := h
          refine LW.rd hL rfl (Wants.free rfl) rfl (Rd.iaS (q := a1) (sz := 3) (by rw [← he1]; rfl) rfl Try.underlying25 (by kernel_rfl) hi1 hi2) ?_
          obtain ⟨t1, t2, t3, t3n, t3c, hc1, h⟩ := h
          refine LW.rd hL rfl (Wants.free rfl) rfl (Rd.ldN (cs := [.int .i64 t1, .int .i64 t2, .slice t3 t3n t3c]) rfl (by kernel_rfl) (by kernel_rfl) (cellsS hc1)) ?_
          obtain ⟨b1, hb_b1⟩ : ∃ b1, b1 = World.size w3 := ⟨_, rfl⟩
          obtain ⟨w5, hw_w5⟩ : ∃ w5, w5 = World.alloc w3 (.cells #[.int .i64 0, .int .i64 0, .slice none 0 0] 81) := ⟨_, rfl⟩
          replace h := h b1 hb_b1 w5 hw_w5
          refine LW.val hL rfl (Wants.free rfl) rfl (boxE hb_b1 hw_w5 (Vl.alloc (z := .agg #[.int .i64 0, .int .i64 0, .slice none 0 0]) (by kernel_rfl))) ?_
          obtain ⟨ho1, hf1, h⟩ := h
          obtain ⟨w6, hw_w6⟩ : ∃ w6, w6 = setCells w5 (⟨b1, 0, none⟩ : Addr) 0 [.int .i64 t1, .int .i64 t2, .slice t3 t3n t3c] := ⟨_, rfl⟩
          replace h := h w6 hw_w6
          refine LW.eff hL rfl (Wants.free rfl) rfl (stNE hw_w6 (Ef.stN (cs := [.int .i64 t1, .int .i64 t2, .slice t3 t3n t3c]) rfl rfl (by kernel_rfl) (List.forall_mem_cons.2 ⟨rfl, (List.forall_mem_cons.2 ⟨rfl, (List.forall_mem_cons.2 ⟨rfl, (List.forall_mem_nil _)⟩)⟩)⟩) ho1 hf1)) ?_
          refine LW.nil hL rfl ?_
          refine NW.then ?_
          refine CW.seq ?_
          refine CW.region fun L hL => ?_
          refine LW.rd hL rfl (Wants.free rfl) rfl (Rd.move (v := .pointer f1) rfl) ?_
          refine LW.rd hL rfl (Wants.free rfl) rfl (Rd.fa (v := .pointer (some (⟨b1, 2, none⟩ : Addr))) rfl (fun _ => by kernel_rfl)) ?_
          obtain ⟨t4, t4n, t4c, hc2, h⟩ := h
          refine LW.rd hL rfl (Wants.free rfl) rfl (Rd.ld (v := .slice t4 t4n t4c) rfl (by kernel_rfl) (eqs hc2)) ?_
          refine LW.rd hL rfl (Wants.free rfl) rfl (Rd.build (v := .agg #[.int .i64 0, .int .i64 0, .slice t4 t4n t4c]) rfl (fun _ => by kernel_rfl)) ?_
          obtain ⟨b2, hb_b2⟩ : ∃ b2, b2 = World.size w6 := ⟨_, rfl⟩
          obtain ⟨w7, hw_w7⟩ : ∃ w7, w7 = World.alloc w6 (.cells #[.int .i64 0, .int .i64 0, .slice t4 t4n t4c] 81) := ⟨_, rfl⟩
          replace h := h b2 hb_b2 w7 hw_w7
          refine LW.val hL rfl (Wants.free rfl) rfl (sliceE (n := 1) hb_b2 hw_w7 (fun w => Vl.buildSlice (vs := [(0, .agg #[.int .i64 0, .int .i64 0, .slice t4 t4n t4c])]) rfl (by kernel_rfl))) ?_
          refine LW.call hL rfl (Wants.free rfl) rfl (Cl.fn (f := 65) rfl Try.func65 (by kernel_rfl) rfl) h (fun e w8 h_ => ?_)
          clear h
          obtain ⟨r6, r7, rfl, h⟩ := h_
          refine ⟨_, rfl, ?_⟩
          refine LW.rd hL rfl (Wants.free rfl) rfl (Rd.move (v := .tuple #[.int .u32 r6, .int .i64 r7]) rfl) ?_
          refine LW.rd hL rfl (Wants.free rfl) rfl (Rd.extract (v := .int .u32 r6) rfl rfl) ?_
          refine LW.rd hL rfl (Wants.free rfl) rfl (Rd.extract (v := .int .i64 r7) rfl rfl) ?_
          refine LW.rd hL rfl (Wants.free rfl) rfl (Rd.assign (v := .int .u32 r6) rfl) ?_
          refine LW.rd hL rfl (Wants.free rfl) rfl (Rd.assign (v := .int .i64 r7) rfl) ?_
          refine LW.nil hL rfl ?_
          refine NW.then ?_
          refine CW.seq ?_
          replace h := h _ rfl
          obtain ⟨t5, hc3, h⟩ := h
          obtain ⟨a2, ha1, h⟩ := h
          refine CW.drawn (fun w => w.cell? (⟨b1, 0, none⟩ : Addr) = some (.int .i64 t5) ∧ True) 14 (by kernel_rfl) fun H hH => ?_
          generalize World.drew _ = w9 at *
          have hS1 : w9.cell? (⟨b1, 0, none⟩ : Addr) = some (.int .i64 t5) ∧ True := ⟨hc3, trivial⟩
          refine HW.pure (i := 0) hH rfl (by kernel_rfl) (Wants.free rfl) rfl (fun _ => hS1) (Rd.move (v := .int .u32 r6) rfl) ?_
          refine HW.pure (i := 1) hH rfl (by kernel_rfl) (Wants.free rfl) rfl (fun _ => hS1) (Rd.move (v := .pointer p1) rfl) ?_
          refine HW.pure (i := 3) hH rfl (by kernel_rfl) (Wants.free rfl) rfl (fun _ => hS1) (Rd.fa (v := .pointer (some (⟨b1, 0, none⟩ : Addr))) rfl (fun _ => by kernel_rfl)) ?_
          refine HW.pure (i := 4) hH rfl (by kernel_rfl) (Wants.free rfl) rfl (fun _ => hS1) (Rd.fa (v := .pointer (some (⟨b1, 0, none⟩ : Addr))) rfl (fun _ => by kernel_rfl)) ?_
          refine HW.take (i := 5) hH rfl (by kernel_rfl) (by kernel_rfl) (Wants.free rfl) rfl (fun _ => hS1) (Rd.ld (v := .int .i64 t5) rfl (by kernel_rfl) (fun w h => h.1)) ?_
          refine HW.pure (i := 7) hH rfl (by kernel_rfl) (Wants.free rfl) rfl (fun _ => hS1) (Rd.nil (q := a2) (by rw [← ha1]; rfl)) ?_
          refine HW.pure (i := 8) hH rfl (by kernel_rfl) (Wants.free rfl) rfl (fun _ => hS1) (Rd.fa (v := .pointer (some a2)) rfl (fun _ => by kernel_rfl)) ?_
          refine HW.pure (i := 9) hH rfl (by kernel_rfl) (Wants.free rfl) rfl (fun _ => hS1) (Rd.fa (v := .pointer (some (a2.add 5))) rfl (fun _ => by kernel_rfl)) ?_
          refine HW.call (i := 2) hH (by kernel_rfl) rfl (Wants.free rfl) rfl (Cl.fn (f := 83) rfl Try.func83 (by kernel_rfl) rfl) h (fun e w10 h_ => ?_)
          clear h
          obtain ⟨r8, rfl, hS2, h⟩ := h_
          refine ⟨_, rfl, (fun _ => hS2), ?_⟩
          obtain ⟨v1, hl1, h⟩ := h
          refine HW.val (i := 6) hH (by kernel_rfl) rfl (Wants.free rfl) rfl (fun a ha => (Rd.lookup (v := .int .i64 v1) rfl rfl (fun _ e => e ▸ hl1)) a ha _ rfl) (fun _ => hS2) ?_
          obtain ⟨hi3, hi4, h⟩ := h
          refine HW.pure (i := 10) hH rfl (by kernel_rfl) (Wants.free rfl) rfl (fun _ => hS2) (Rd.iaA (sz := 1) rfl rfl Try.underlying64 (by kernel_rfl) hi3 hi4) ?_
          obtain ⟨t6, hc4, h⟩ := h
          refine HW.val (i := 11) hH (by kernel_rfl) rfl (Wants.free rfl) rfl (fun a ha => (Rd.ld (v := .int .u32 t6) rfl (by kernel_rfl) (eqs hc4)) a ha _ rfl) (fun _ => hS2) ?_
          refine HW.pure (i := 12) hH rfl (by kernel_rfl) (Wants.free rfl) rfl (fun _ => hS2) (Rd.bin (v := .int .u32 (bits .and .u32 r6 t6)) rfl rfl (fun w => by kernel_rfl)) ?_
          refine HW.pure (i := 13) hH rfl (by kernel_rfl) (Wants.free rfl) rfl (fun _ => hS2) (Rd.assign (v := .int .u32 (bits .and .u32 r6 t6)) rfl) ?_
          refine HW.done hH (by kernel_rfl) ?_
          refine NW.then ?_
          refine CW.seq ?_
          refine CW.region fun L hL => ?_
          refine LW.rd hL rfl (Wants.free rfl) rfl (Rd.move (v := .int .u32 (bits .and .u32 r6 t6)) rfl) ?_
          refine LW.rd hL rfl (Wants.free rfl) rfl (Rd.bin (v := .bool (!((bits .and .u32 r6 t6) == 0))) rfl rfl (fun w => by kernel_rfl)) ?_
          refine LW.nil hL rfl ?_
          refine NW.then ?_
          refine CW.cond rfl (fun hb4 => ?_) (fun hb4 => ?_)
          · replace h := h.1 hb4
            refine CW.region fun L hL => ?_
            refine LW.rd hL rfl (Wants.free rfl) rfl (Rd.move (v := .slice s1.1 s1.2.1 s1.2.2.1) rfl) ?_
            refine LW.rd hL rfl (Wants.free rfl) rfl (Rd.fa (v := .pointer (some (⟨b1, 0, none⟩ : Addr))) rfl (fun _ => by kernel_rfl)) ?_
            obtain ⟨t7, t8, hc5, h⟩ := h
            refine LW.rd hL rfl (Wants.free rfl) rfl (Rd.ldN (cs := [.int .i64 t7, .int .i64 t8]) rfl (by kernel_rfl) (by kernel_rfl) (cellsS hc5)) ?_
            refine LW.rd hL rfl (Wants.free rfl) rfl (Rd.move (v := .int .u32 (bits .and .u32 r6 t6)) rfl) ?_
            refine LW.rd hL rfl (Wants.free rfl) rfl (Rd.build (v := .agg #[.int .i64 t7, .int .i64 t8, .int .u32 (bits .and .u32 r6 t6)]) rfl (fun _ => by kernel_rfl)) ?_
            obtain ⟨b3, hb_b3⟩ : ∃ b3, b3 = World.size w10 := ⟨_, rfl⟩
            obtain ⟨w11, hw_w11⟩ : ∃ w11, w11 = World.alloc w10 (.cells #[.int .i64 t7, .int .i64 t8, .int .u32 (bits .and .u32 r6 t6)] 159) := ⟨_, rfl⟩
            replace h := h b3 hb_b3 w11 hw_w11
            refine LW.val hL rfl (Wants.free rfl) rfl (sliceE (n := 1) hb_b3 hw_w11 (fun w => Vl.buildSlice (vs := [(0, .agg #[.int .i64 t7, .int .i64 t8, .int .u32 (bits .and .u32 r6 t6)])]) rfl (by kernel_rfl))) ?_
            obtain ⟨l2, l2n, l2c, w12, ha2, h⟩ := h
            refine LW.val hL rfl (Wants.free rfl) rfl (Vl.builtin (v := .slice l2 l2n l2c) rfl (valB ha2)) ?_
            refine LW.rd hL rfl (Wants.free rfl) rfl (Rd.assign (v := .slice l2 l2n l2c) rfl) ?_
            refine LW.nil hL rfl ?_
            refine NW.block ?_
            exact NW.cut (S := (Option Addr) × Nat × Nat) (Ek := fun s2 => [(0, .pointer p1), (1, .pointer f1), (6, .slice none 0 0), (7, .int .i64 0), (26, .slice l1 l1n l1c), (27, .int .i64 (l1n : Int)), (28, .int .i64 s1.2.2.2), (10, .slice s2.1 s2.2.1 s2.2.2)]) (l2, l2n, l2c) (by exact ⟨rfl, rfl, rfl, rfl, rfl, rfl, rfl, rfl, trivial⟩) h
          · replace h := h.2 hb4
            refine CW.skip ?_
            refine NW.block ?_
            exact NW.cut (S := (Option Addr) × Nat × Nat) (Ek := fun s2 => [(0, .pointer p1), (1, .pointer f1), (6, .slice none 0 0), (7, .int .i64 0), (26, .slice l1 l1n l1c), (27, .int .i64 (l1n : Int)), (28, .int .i64 s1.2.2.2), (10, .slice s2.1 s2.2.1 s2.2.2)]) (s1.1, s1.2.1, s1.2.2.1) (by exact ⟨rfl, rfl, rfl, rfl, rfl, rfl, rfl, rfl, trivial⟩) h
      · replace h := h.2 hb3
        refine CW.exit ?_
        refine XW.then ?_
        refine XW.then ?_
        refine XW.hit ?_
        refine NW.then ?_
        refine CW.seq ?_
        refine CW.region fun L hL => ?_
        refine LW.rd hL rfl (Wants.free rfl) rfl (Rd.move (v := .slice s1.1 s1.2.1 s1.2.2.1) rfl) ?_
        refine LW.rd hL rfl (Wants.free rfl) rfl (Rd.assign (v := .slice s1.1 s1.2.1 s1.2.2.1) rfl) ?_
        refine LW.rd hL rfl (Wants.free rfl) rfl (Rd.assign (v := .int .i64 0) rfl) ?_
        refine LW.nil hL rfl ?_
        refine NW.then ?_
        refine CW.ret ?_
        exact res2 rfl rfl rfl ⟨s1.1, s1.2.1, s1.2.2.1, 0, rfl, h⟩

end Go.Proofs.Ytkfncibmfcdokaa
