import Derived.Test.YtkfncibmfcdokaaProg
import Derived.Test.YtkfncibmfcdokaaXEq
import Derived.Test.YtkfncibmfcdokaaXLoc
import Derived.Test.YtkfncibmfcdokaaXRange
set_option linter.unusedVariables false
set_option linter.unusedSimpArgs false
namespace Go.Proofs.Ytkfncibmfcdokaa
open Go Go.X

/- pomander/pomanderlaw03.ShadowFills -/
def W_pomanderlaw03_ShadowFills (pages1 : Int) (at1 : Int) (n1 : Int) (set1 : Int) (other1 : Int) (w : World) (R : Bool → World → Prop) : Prop :=
  ((decide (pages1 < 1) || decide (pages1 > 32)) = true → Calls Try.prog 40 #[] w fun e w1 => ∃ (r2 : Bool), e = .returned (.bool r2) ∧ (R r2 w1)) ∧ ((decide (pages1 < 1) || decide (pages1 > 32)) = false → ∀ b1 : Nat, b1 = World.size w → ∀ w2 : World, w2 = World.alloc w (.cells #[.int .i64 1, .int .i64 at1, .int .i64 n1, .int .u32 set1] 94) → (Calls Try.prog 41 #[.int .i64 pages1, .slice (some (⟨b1, 0, none⟩ : Addr)) 1 1] w2 fun e w3 => ∃ (r3 : Option Addr) (r4 : Option Addr) (r4n : Nat) (r4c : Nat) (r5 : Bool), e = .returned (.tuple #[.pointer r3, .slice r4 r4n r4c, .bool r5]) ∧ (∃ J1 : Bool → World → Prop, (∀ (b2 : Bool) (w4 : World), J1 b2 w4 → (b2 = true → R false w4) ∧ (b2 = false → Calls Try.prog 48 #[.slice r4 r4n r4c, .int .i64 at1, .int .i64 n1, .int .u32 other1] w4 fun e w6 => ∃ (r7 : Option Addr) (r7n : Nat) (r7c : Nat) (r8 : Int), e = .returned (.tuple #[.slice r7 r7n r7c, .int .i64 r8]) ∧ (Calls Try.prog 49 #[.pointer r3, .int .i64 at1, .int .i64 n1, .int .u32 other1] w6 fun e w7 => ∃ (r9 : Int), e = .returned (.int .i64 r9) ∧ (Calls Try.prog 44 #[.int .i64 r9] w7 fun e w8 => ∃ (r10 : Int), e = .returned (.int .i64 r10) ∧ (∃ J2 : Bool → World → Prop, (∀ (b3 : Bool) (w9 : World), J2 b3 w9 → ∃ J3 : Bool → World → Prop, (∀ (b4 : Bool) (w11 : World), J3 b4 w11 → R b4 w11) ∧ ((b3 = true → Calls Try.prog 40 #[] w9 fun e w12 => ∃ (r12 : Bool), e = .returned (.bool r12) ∧ (J3 r12 w12)) ∧ (b3 = false → J3 false w9))) ∧ (((r10 == r8) = true → Calls Try.prog 45 #[.pointer r3, .slice r7 r7n r7c] w8 fun e w10 => ∃ (r11 : Bool), e = .returned (.bool r11) ∧ (J2 r11 w10)) ∧ ((r10 == r8) = false → J2 false w8))))))) ∧ (((!r5) = false → Calls Try.prog 45 #[.pointer r3, .slice r4 r4n r4c] w3 fun e w5 => ∃ (r6 : Bool), e = .returned (.bool r6) ∧ (J1 (!r6) w5)) ∧ ((!r5) = true → J1 true w3)))))
set_option maxRecDepth 100000 in
theorem go_pomanderlaw03_ShadowFills (pages1 : Int) (at1 : Int) (n1 : Int) (set1 : Int) (other1 : Int) (w : World) (R : Bool → World → Prop) (h : W_pomanderlaw03_ShadowFills pages1 at1 n1 set1 other1 w R) : Calls Try.prog 11 #[.int .i64 pages1, .int .i64 at1, .int .i64 n1, .int .u32 set1, .int .u32 other1] w (fun e w' => ∃ (r1 : Bool), e = .returned (.bool r1) ∧ R r1 w') := by
  unfold W_pomanderlaw03_ShadowFills at h
  refine enter (N := 68) Try.func11 rfl rfl ?_
  refine CW.seq ?_
  refine CW.region fun L hL => ?_
  refine LW.rd hL rfl (Wants.free rfl) rfl (Rd.assign (v := .bool false) rfl) ?_
  refine LW.nil hL rfl ?_
  refine NW.then ?_
  refine CW.seq ?_
  refine CW.seq ?_
  refine CW.region fun L hL => ?_
  refine LW.rd hL rfl (Wants.free rfl) rfl (Rd.move (v := .int .i64 pages1) rfl) ?_
  refine LW.rd hL rfl (Wants.free rfl) rfl (Rd.bin (v := .bool (decide (pages1 < 1))) rfl rfl (fun w => by kernel_rfl)) ?_
  refine LW.rd hL rfl (Wants.free rfl) rfl (Rd.move (v := .bool (decide (pages1 < 1))) rfl) ?_
  suffices K1 : L 6 [(0, .int .i64 pages1), (1, .int .i64 at1), (2, .int .i64 n1), (3, .int .u32 set1), (4, .int .u32 other1), (10, .bool false), (22, .bool (decide (pages1 < 1) || decide (pages1 > 32)))] w by
    rcases Bool.eq_false_or_eq_true (decide (pages1 < 1)) with hb2 | hb2
    · skip
      refine LW.skip hL rfl (Skips.on rfl rfl rfl rfl rfl hb2) rfl ?_
      refine LW.skip hL rfl (Skips.on rfl rfl rfl rfl rfl hb2) rfl ?_
      refine LW.rd hL rfl (Wants.free rfl) rfl (Rd.pickT rfl hb2 rfl) ?_
      exact LW.sub hL (by exact ⟨rfl, rfl, rfl, rfl, rfl, rfl, (by rw [hb2]; rfl), trivial⟩) K1
    · skip
      refine LW.rd hL rfl (Wants.on rfl rfl rfl rfl rfl hb2) rfl (Rd.move (v := .int .i64 pages1) rfl) ?_
      refine LW.rd hL rfl (Wants.on rfl rfl rfl rfl rfl hb2) rfl (Rd.bin (v := .bool (decide (pages1 > 32))) rfl rfl (fun w => by kernel_rfl)) ?_
      refine LW.rd hL rfl (Wants.free rfl) rfl (Rd.pickF rfl hb2 rfl) ?_
      exact LW.sub hL (by exact ⟨rfl, rfl, rfl, rfl, rfl, rfl, (by rw [hb2]; rfl), trivial⟩) K1
  refine LW.nil hL rfl ?_
  refine NW.then ?_
  refine CW.cond rfl (fun hb3 => ?_) (fun hb3 => ?_)
  · replace h := h.1 hb3
    refine CW.seq ?_
    refine CW.region fun L hL => ?_
    refine LW.call hL rfl (Wants.free rfl) rfl (Cl.fn (f := 40) rfl Try.func40 (by kernel_rfl) rfl) h (fun e w1 h_ => ?_)
    clear h
    obtain ⟨r2, rfl, h⟩ := h_
    refine ⟨_, rfl, ?_⟩
    refine LW.rd hL rfl (Wants.free rfl) rfl (Rd.assign (v := .bool r2) rfl) ?_
    refine LW.nil hL rfl ?_
    refine NW.then ?_
    refine CW.ret ?_
    refine RW.then ?_
    exact res1 rfl rfl ⟨r2, rfl, h⟩
  · replace h := h.2 hb3
    refine CW.skip ?_
    refine NW.then ?_
    refine CW.seq ?_
    refine CW.region fun L hL => ?_
    refine LW.rd hL rfl (Wants.free rfl) rfl (Rd.move (v := .int .i64 pages1) rfl) ?_
    refine LW.rd hL rfl (Wants.free rfl) rfl (Rd.move (v := .int .i64 at1) rfl) ?_
    refine LW.rd hL rfl (Wants.free rfl) rfl (Rd.move (v := .int .i64 n1) rfl) ?_
    refine LW.rd hL rfl (Wants.free rfl) rfl (Rd.move (v := .int .u32 set1) rfl) ?_
    refine LW.rd hL rfl (Wants.free rfl) rfl (Rd.build (v := .agg #[.int .i64 1, .int .i64 at1, .int .i64 n1, .int .u32 set1]) rfl (fun _ => by kernel_rfl)) ?_
    obtain ⟨b1, hb_b1⟩ : ∃ b1, b1 = World.size w := ⟨_, rfl⟩
    obtain ⟨w2, hw_w2⟩ : ∃ w2, w2 = World.alloc w (.cells #[.int .i64 1, .int .i64 at1, .int .i64 n1, .int .u32 set1] 94) := ⟨_, rfl⟩
    replace h := h b1 hb_b1 w2 hw_w2
    refine LW.val hL rfl (Wants.free rfl) rfl (sliceE (n := 1) hb_b1 hw_w2 (fun w => Vl.buildSlice (vs := [(0, .agg #[.int .i64 1, .int .i64 at1, .int .i64 n1, .int .u32 set1])]) rfl (by kernel_rfl))) ?_
    refine LW.call hL rfl (Wants.free rfl) rfl (Cl.fn (f := 41) rfl Try.func41 (by kernel_rfl) rfl) h (fun e w3 h_ => ?_)
    clear h
    obtain ⟨r3, r4, r4n, r4c, r5, rfl, h⟩ := h_
    refine ⟨_, rfl, ?_⟩
    refine LW.rd hL rfl (Wants.free rfl) rfl (Rd.move (v := .tuple #[.pointer r3, .slice r4 r4n r4c, .bool r5]) rfl) ?_
    refine LW.rd hL rfl (Wants.free rfl) rfl (Rd.extract (v := .pointer r3) rfl rfl) ?_
    refine LW.rd hL rfl (Wants.free rfl) rfl (Rd.extract (v := .slice r4 r4n r4c) rfl rfl) ?_
    refine LW.rd hL rfl (Wants.free rfl) rfl (Rd.extract (v := .bool r5) rfl rfl) ?_
    refine LW.rd hL rfl (Wants.free rfl) rfl (Rd.assign (v := .pointer r3) rfl) ?_
    refine LW.rd hL rfl (Wants.free rfl) rfl (Rd.assign (v := .slice r4 r4n r4c) rfl) ?_
    refine LW.rd hL rfl (Wants.free rfl) rfl (Rd.assign (v := .bool r5) rfl) ?_
    refine LW.nil hL rfl ?_
    refine NW.then ?_
    refine CW.seq ?_
    refine CW.seq ?_
    refine CW.region fun L hL => ?_
    refine LW.rd hL rfl (Wants.free rfl) rfl (Rd.move (v := .bool r5) rfl) ?_
    refine LW.rd hL rfl (Wants.free rfl) rfl (Rd.un (v := .bool (!r5)) rfl (fun _ => by kernel_rfl)) ?_
    refine LW.rd hL rfl (Wants.free rfl) rfl (Rd.move (v := .bool (!r5)) rfl) ?_
    obtain ⟨J1, hJ1, h1_J1, h0_J1⟩ := h
    suffices K2 : ∀ (b2 : Bool) (w4 : World), J1 b2 w4 → L 8 [(1, .int .i64 at1), (2, .int .i64 n1), (4, .int .u32 other1), (10, .bool false), (11, .pointer r3), (12, .slice r4 r4n r4c), (42, .bool b2)] w4 by
      rcases Bool.eq_false_or_eq_true (!r5) with hb4 | hb4
      · have h := h0_J1 hb4
        refine LW.skip hL rfl (Skips.on rfl rfl rfl rfl rfl hb4) rfl ?_
        refine LW.skip hL rfl (Skips.on rfl rfl rfl rfl rfl hb4) rfl ?_
        refine LW.skip hL rfl (Skips.on rfl rfl rfl rfl rfl hb4) rfl ?_
        refine LW.skip hL rfl (Skips.on rfl rfl rfl rfl rfl hb4) rfl ?_
        refine LW.rd hL rfl (Wants.free rfl) rfl (Rd.pickT rfl hb4 rfl) ?_
        exact LW.sub hL (by exact ⟨rfl, rfl, rfl, rfl, rfl, rfl, rfl, trivial⟩) (K2 true w3 h)
      · have h := h1_J1 hb4
        refine LW.rd hL rfl (Wants.on rfl rfl rfl rfl rfl hb4) rfl (Rd.move (v := .pointer r3) rfl) ?_
        refine LW.rd hL rfl (Wants.on rfl rfl rfl rfl rfl hb4) rfl (Rd.move (v := .slice r4 r4n r4c) rfl) ?_
        refine LW.call hL rfl (Wants.on rfl rfl rfl rfl rfl hb4) rfl (Cl.fn (f := 45) rfl Try.func45 (by kernel_rfl) rfl) h (fun e w5 h_ => ?_)
        clear h
        obtain ⟨r6, rfl, h⟩ := h_
        refine ⟨_, rfl, ?_⟩
        refine LW.rd hL rfl (Wants.on rfl rfl rfl rfl rfl hb4) rfl (Rd.un (v := .bool (!r6)) rfl (fun _ => by kernel_rfl)) ?_
        refine LW.rd hL rfl (Wants.free rfl) rfl (Rd.pickF rfl hb4 rfl) ?_
        exact LW.sub hL (by exact ⟨rfl, rfl, rfl, rfl, rfl, rfl, rfl, trivial⟩) (K2 (!r6) w5 h)
    intro b2 w4 h_
    have h := hJ1 b2 w4 h_; clear h_
    refine LW.nil hL rfl ?_
    refine NW.then ?_
    refine CW.cond rfl (fun hb5 => ?_) (fun hb5 => ?_)
    · replace h := h.1 hb5
      refine CW.seq ?_
      refine CW.region fun L hL => ?_
      refine LW.rd hL rfl (Wants.free rfl) rfl (Rd.assign (v := .bool false) rfl) ?_
      refine LW.nil hL rfl ?_
      refine NW.then ?_
      refine CW.ret ?_
      refine RW.then ?_
      exact res1 rfl rfl ⟨false, rfl, h⟩
    · replace h := h.2 hb5
      refine CW.skip ?_
      refine NW.then ?_
      refine CW.seq ?_
      refine CW.region fun L hL => ?_
      refine LW.rd hL rfl (Wants.free rfl) rfl (Rd.move (v := .slice r4 r4n r4c) rfl) ?_
      refine LW.rd hL rfl (Wants.free rfl) rfl (Rd.move (v := .int .i64 at1) rfl) ?_
      refine LW.rd hL rfl (Wants.free rfl) rfl (Rd.move (v := .int .i64 n1) rfl) ?_
      refine LW.rd hL rfl (Wants.free rfl) rfl (Rd.move (v := .int .u32 other1) rfl) ?_
      refine LW.call hL rfl (Wants.free rfl) rfl (Cl.fn (f := 48) rfl Try.func48 (by kernel_rfl) rfl) h (fun e w6 h_ => ?_)
      clear h
      obtain ⟨r7, r7n, r7c, r8, rfl, h⟩ := h_
      refine ⟨_, rfl, ?_⟩
      refine LW.rd hL rfl (Wants.free rfl) rfl (Rd.move (v := .tuple #[.slice r7 r7n r7c, .int .i64 r8]) rfl) ?_
      refine LW.rd hL rfl (Wants.free rfl) rfl (Rd.extract (v := .slice r7 r7n r7c) rfl rfl) ?_
      refine LW.rd hL rfl (Wants.free rfl) rfl (Rd.extract (v := .int .i64 r8) rfl rfl) ?_
      refine LW.rd hL rfl (Wants.free rfl) rfl (Rd.assign (v := .slice r7 r7n r7c) rfl) ?_
      refine LW.rd hL rfl (Wants.free rfl) rfl (Rd.assign (v := .int .i64 r8) rfl) ?_
      refine LW.nil hL rfl ?_
      refine NW.then ?_
      refine CW.seq ?_
      refine CW.region fun L hL => ?_
      refine LW.rd hL rfl (Wants.free rfl) rfl (Rd.move (v := .pointer r3) rfl) ?_
      refine LW.rd hL rfl (Wants.free rfl) rfl (Rd.move (v := .int .i64 at1) rfl) ?_
      refine LW.rd hL rfl (Wants.free rfl) rfl (Rd.move (v := .int .i64 n1) rfl) ?_
      refine LW.rd hL rfl (Wants.free rfl) rfl (Rd.move (v := .int .u32 other1) rfl) ?_
      refine LW.call hL rfl (Wants.free rfl) rfl (Cl.fn (f := 49) rfl Try.func49 (by kernel_rfl) rfl) h (fun e w7 h_ => ?_)
      clear h
      obtain ⟨r9, rfl, h⟩ := h_
      refine ⟨_, rfl, ?_⟩
      refine LW.rd hL rfl (Wants.free rfl) rfl (Rd.assign (v := .int .i64 r9) rfl) ?_
      refine LW.nil hL rfl ?_
      refine NW.then ?_
      refine CW.seq ?_
      refine CW.region fun L hL => ?_
      refine LW.rd hL rfl (Wants.free rfl) rfl (Rd.move (v := .int .i64 r9) rfl) ?_
      refine LW.call hL rfl (Wants.free rfl) rfl (Cl.fn (f := 44) rfl Try.func44 (by kernel_rfl) rfl) h (fun e w8 h_ => ?_)
      clear h
      obtain ⟨r10, rfl, h⟩ := h_
      refine ⟨_, rfl, ?_⟩
      refine LW.rd hL rfl (Wants.free rfl) rfl (Rd.move (v := .int .i64 r8) rfl) ?_
      refine LW.rd hL rfl (Wants.free rfl) rfl (Rd.bin (v := .bool (r10 == r8)) rfl rfl (fun w => by kernel_rfl)) ?_
      refine LW.rd hL rfl (Wants.free rfl) rfl (Rd.move (v := .bool (r10 == r8)) rfl) ?_
      obtain ⟨J2, hJ2, h1_J2, h0_J2⟩ := h
      suffices K3 : ∀ (b3 : Bool) (w9 : World), J2 b3 w9 → L 9 [(10, .bool false), (64, .bool b3)] w9 by
        rcases Bool.eq_false_or_eq_true (r10 == r8) with hb6 | hb6
        · have h := h1_J2 hb6
          refine LW.rd hL rfl (Wants.on rfl rfl rfl rfl rfl hb6) rfl (Rd.move (v := .pointer r3) rfl) ?_
          refine LW.rd hL rfl (Wants.on rfl rfl rfl rfl rfl hb6) rfl (Rd.move (v := .slice r7 r7n r7c) rfl) ?_
          refine LW.call hL rfl (Wants.on rfl rfl rfl rfl rfl hb6) rfl (Cl.fn (f := 45) rfl Try.func45 (by kernel_rfl) rfl) h (fun e w10 h_ => ?_)
          clear h
          obtain ⟨r11, rfl, h⟩ := h_
          refine ⟨_, rfl, ?_⟩
          refine LW.rd hL rfl (Wants.free rfl) rfl (Rd.pickT rfl hb6 rfl) ?_
          exact LW.sub hL (by exact ⟨rfl, rfl, trivial⟩) (K3 r11 w10 h)
        · have h := h0_J2 hb6
          refine LW.skip hL rfl (Skips.on rfl rfl rfl rfl rfl hb6) rfl ?_
          refine LW.skip hL rfl (Skips.on rfl rfl rfl rfl rfl hb6) rfl ?_
          refine LW.skip hL rfl (Skips.on rfl rfl rfl rfl rfl hb6) rfl ?_
          refine LW.rd hL rfl (Wants.free rfl) rfl (Rd.pickF rfl hb6 rfl) ?_
          exact LW.sub hL (by exact ⟨rfl, rfl, trivial⟩) (K3 false w8 h)
      intro b3 w9 h_
      have h := hJ2 b3 w9 h_; clear h_
      refine LW.rd hL rfl (Wants.free rfl) rfl (Rd.move (v := .bool b3) rfl) ?_
      obtain ⟨J3, hJ3, h1_J3, h0_J3⟩ := h
      suffices K4 : ∀ (b4 : Bool) (w11 : World), J3 b4 w11 → L 12 [(10, .bool false), (67, .bool b4)] w11 by
        rcases Bool.eq_false_or_eq_true b3 with hb7 | hb7
        · have h := h1_J3 hb7
          refine LW.call hL rfl (Wants.on rfl rfl rfl rfl rfl hb7) rfl (Cl.fn (f := 40) rfl Try.func40 (by kernel_rfl) rfl) h (fun e w12 h_ => ?_)
          clear h
          obtain ⟨r12, rfl, h⟩ := h_
          refine ⟨_, rfl, ?_⟩
          refine LW.rd hL rfl (Wants.free rfl) rfl (Rd.pickT rfl hb7 rfl) ?_
          exact LW.sub hL (by exact ⟨rfl, rfl, trivial⟩) (K4 r12 w12 h)
        · have h := h0_J3 hb7
          refine LW.skip hL rfl (Skips.on rfl rfl rfl rfl rfl hb7) rfl ?_
          refine LW.rd hL rfl (Wants.free rfl) rfl (Rd.pickF rfl hb7 rfl) ?_
          exact LW.sub hL (by exact ⟨rfl, rfl, trivial⟩) (K4 false w9 h)
      intro b4 w11 h_
      have h := hJ3 b4 w11 h_; clear h_
      refine LW.rd hL rfl (Wants.free rfl) rfl (Rd.assign (v := .bool b4) rfl) ?_
      refine LW.nil hL rfl ?_
      refine NW.then ?_
      refine CW.ret ?_
      exact res1 rfl rfl ⟨b4, rfl, h⟩

end Go.Proofs.Ytkfncibmfcdokaa
