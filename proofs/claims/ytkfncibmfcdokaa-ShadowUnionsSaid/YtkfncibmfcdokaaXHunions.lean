import Derived.Test.YtkfncibmfcdokaaProg
import Derived.Test.YtkfncibmfcdokaaXEq
import Derived.Test.YtkfncibmfcdokaaXLoc
import Derived.Test.YtkfncibmfcdokaaXRange
set_option linter.unusedVariables false
set_option linter.unusedSimpArgs false
namespace Go.Proofs.Ytkfncibmfcdokaa
open Go Go.X

/- pomander/pomanderlaw03.ShadowUnions -/
def W_pomanderlaw03_ShadowUnions (pages1 : Int) (script1 : Option Addr) (script1n : Nat) (script1c : Nat) (at1 : Int) (n1 : Int) (w : World) (R : Bool → World → Prop) : Prop :=
  (((decide (pages1 < 1) || decide (pages1 > 32)) || decide ((script1n : Int) > 40)) = true → Calls Try.prog 40 #[] w fun e w1 => ∃ (r2 : Bool), e = .returned (.bool r2) ∧ (R r2 w1)) ∧ (((decide (pages1 < 1) || decide (pages1 > 32)) || decide ((script1n : Int) > 40)) = false → Calls Try.prog 41 #[.int .i64 pages1, .slice script1 script1n script1c] w fun e w2 => ∃ (r3 : Option Addr) (r4 : Option Addr) (r4n : Nat) (r4c : Nat) (r5 : Bool), e = .returned (.tuple #[.pointer r3, .slice r4 r4n r4c, .bool r5]) ∧ (Calls Try.prog 46 #[.pointer r3, .int .i64 at1, .int .i64 n1] w2 fun e w3 => ∃ (r6 : Int) (r7 : Int), e = .returned (.tuple #[.int .u32 r6, .int .i64 r7]) ∧ (Calls Try.prog 47 #[.slice r4 r4n r4c, .int .i64 at1, .int .i64 n1] w3 fun e w4 => ∃ (r8 : Int) (r9 : Int), e = .returned (.tuple #[.int .u32 r8, .int .i64 r9]) ∧ (∃ J1 : Bool → World → Prop, (∀ (b1 : Bool) (w5 : World), J1 b1 w5 → ∃ J2 : Bool → World → Prop, (∀ (b2 : Bool) (w7 : World), J2 b2 w7 → ∃ J3 : Bool → World → Prop, (∀ (b3 : Bool) (w9 : World), J3 b3 w9 → R b3 w9) ∧ ((b2 = true → Calls Try.prog 40 #[] w7 fun e w10 => ∃ (r12 : Bool), e = .returned (.bool r12) ∧ (J3 r12 w10)) ∧ (b2 = false → J3 false w7))) ∧ ((b1 = true → Calls Try.prog 45 #[.pointer r3, .slice r4 r4n r4c] w5 fun e w8 => ∃ (r11 : Bool), e = .returned (.bool r11) ∧ (J2 r11 w8)) ∧ (b1 = false → J2 false w5))) ∧ (((r5 && r6 == r8) = true → Calls Try.prog 44 #[.int .i64 r7] w4 fun e w6 => ∃ (r10 : Int), e = .returned (.int .i64 r10) ∧ (J1 (r10 == r9) w6)) ∧ ((r5 && r6 == r8) = false → J1 false w4))))))
set_option maxRecDepth 100000 in
theorem go_pomanderlaw03_ShadowUnions (pages1 : Int) (script1 : Option Addr) (script1n : Nat) (script1c : Nat) (at1 : Int) (n1 : Int) (w : World) (R : Bool → World → Prop) (h : W_pomanderlaw03_ShadowUnions pages1 script1 script1n script1c at1 n1 w R) : Calls Try.prog 10 #[.int .i64 pages1, .slice script1 script1n script1c, .int .i64 at1, .int .i64 n1] w (fun e w' => ∃ (r1 : Bool), e = .returned (.bool r1) ∧ R r1 w') := by
  unfold W_pomanderlaw03_ShadowUnions at h
  refine enter (N := 69) Try.func10 rfl rfl ?_
  refine CW.seq ?_
  refine CW.region fun L hL => ?_
  refine LW.rd hL rfl (Wants.free rfl) rfl (Rd.assign (v := .bool false) rfl) ?_
  refine LW.nil hL rfl ?_
  refine NW.then ?_
  refine CW.seq ?_
  refine CW.seq ?_
  refine CW.region fun L hL => ?_
  refine LW.rd hL rfl (Wants.free rfl) rfl (Rd.move (v := .int .i64 pages1) rfl) ?_
  refine LW.rd hL rfl (Wants.free rfl) rfl (Rd.bin (v := .bool (decide (pages1 < 1))) rfl rfl (fun w => by kernel_rfl)) ?_
  refine LW.rd hL rfl (Wants.free rfl) rfl (Rd.move (v := .bool (decide (pages1 < 1))) rfl) ?_
  suffices K1 : L 6 [(0, .int .i64 pages1), (1, .slice script1 script1n script1c), (2, .int .i64 at1), (3, .int .i64 n1), (8, .bool false), (21, .bool (decide (pages1 < 1) || decide (pages1 > 32)))] w by
    rcases Bool.eq_false_or_eq_true (decide (pages1 < 1)) with hb2 | hb2
    · skip
      refine LW.skip hL rfl (Skips.on rfl rfl rfl rfl rfl hb2) rfl ?_
      refine LW.skip hL rfl (Skips.on rfl rfl rfl rfl rfl hb2) rfl ?_
      refine LW.rd hL rfl (Wants.free rfl) rfl (Rd.pickT rfl hb2 rfl) ?_
      exact LW.sub hL (by exact ⟨rfl, rfl, rfl, rfl, rfl, (by rw [hb2]; rfl), trivial⟩) K1
    · skip
      refine LW.rd hL rfl (Wants.on rfl rfl rfl rfl rfl hb2) rfl (Rd.move (v := .int .i64 pages1) rfl) ?_
      refine LW.rd hL rfl (Wants.on rfl rfl rfl rfl rfl hb2) rfl (Rd.bin (v := .bool (decide (pages1 > 32))) rfl rfl (fun w => by kernel_rfl)) ?_
      refine LW.rd hL rfl (Wants.free rfl) rfl (Rd.pickF rfl hb2 rfl) ?_
      exact LW.sub hL (by exact ⟨rfl, rfl, rfl, rfl, rfl, (by rw [hb2]; rfl), trivial⟩) K1
  refine LW.rd hL rfl (Wants.free rfl) rfl (Rd.move (v := .bool (decide (pages1 < 1) || decide (pages1 > 32))) rfl) ?_
  suffices K2 : L 11 [(0, .int .i64 pages1), (1, .slice script1 script1n script1c), (2, .int .i64 at1), (3, .int .i64 n1), (8, .bool false), (26, .bool ((decide (pages1 < 1) || decide (pages1 > 32)) || decide ((script1n : Int) > 40)))] w by
    rcases Bool.eq_false_or_eq_true (decide (pages1 < 1) || decide (pages1 > 32)) with hb4 | hb4
    · skip
      refine LW.skip hL rfl (Skips.on rfl rfl rfl rfl rfl hb4) rfl ?_
      refine LW.skip hL rfl (Skips.on rfl rfl rfl rfl rfl hb4) rfl ?_
      refine LW.skip hL rfl (Skips.on rfl rfl rfl rfl rfl hb4) rfl ?_
      refine LW.rd hL rfl (Wants.free rfl) rfl (Rd.pickT rfl hb4 rfl) ?_
      exact LW.sub hL (by exact ⟨rfl, rfl, rfl, rfl, rfl, (by rw [hb4]; rfl), trivial⟩) K2
    · skip
      refine LW.rd hL rfl (Wants.on rfl rfl rfl rfl rfl hb4) rfl (Rd.move (v := .slice script1 script1n script1c) rfl) ?_
      refine LW.rd hL rfl (Wants.on rfl rfl rfl rfl rfl hb4) rfl (Rd.builtin (v := .int .i64 (script1n : Int)) rfl (fun _ _ => by kernel_rfl)) ?_
      refine LW.rd hL rfl (Wants.on rfl rfl rfl rfl rfl hb4) rfl (Rd.bin (v := .bool (decide ((script1n : Int) > 40))) rfl rfl (fun w => by kernel_rfl)) ?_
      refine LW.rd hL rfl (Wants.free rfl) rfl (Rd.pickF rfl hb4 rfl) ?_
      exact LW.sub hL (by exact ⟨rfl, rfl, rfl, rfl, rfl, (by rw [hb4]; rfl), trivial⟩) K2
  refine LW.nil hL rfl ?_
  refine NW.then ?_
  refine CW.cond rfl (fun hb5 => ?_) (fun hb5 => ?_)
  · replace h := h.1 hb5
    refine CW.seq ?_
    refine CW.region fun L hL => ?_
    refine LW.call hL rfl (Wants.free rfl) rfl (Cl.fn (f := 40) rfl Try.func40 (by kernel_rfl) rfl) h (fun e w1 h_ => ?_)
    clear h
    obtain ⟨r2, rfl, h⟩ := h_
    refine ⟨_, rfl, ?_⟩
    refine LW.rd hL rfl (Wants.free rfl) rfl (Rd.assign (v := .bool r2) rfl) ?_
    refine LW.nil hL rfl ?_
    refine NW.then ?_
    refine CW.ret ?_
    refine RW.then ?_
    exact res1 rfl rfl ⟨r2, rfl, h⟩
  · replace h := h.2 hb5
    refine CW.skip ?_
    refine NW.then ?_
    refine CW.seq ?_
    refine CW.region fun L hL => ?_
    refine LW.rd hL rfl (Wants.free rfl) rfl (Rd.move (v := .int .i64 pages1) rfl) ?_
    refine LW.rd hL rfl (Wants.free rfl) rfl (Rd.move (v := .slice script1 script1n script1c) rfl) ?_
    refine LW.call hL rfl (Wants.free rfl) rfl (Cl.fn (f := 41) rfl Try.func41 (by kernel_rfl) rfl) h (fun e w2 h_ => ?_)
    clear h
    obtain ⟨r3, r4, r4n, r4c, r5, rfl, h⟩ := h_
    refine ⟨_, rfl, ?_⟩
    refine LW.rd hL rfl (Wants.free rfl) rfl (Rd.move (v := .tuple #[.pointer r3, .slice r4 r4n r4c, .bool r5]) rfl) ?_
    refine LW.rd hL rfl (Wants.free rfl) rfl (Rd.extract (v := .pointer r3) rfl rfl) ?_
    refine LW.rd hL rfl (Wants.free rfl) rfl (Rd.extract (v := .slice r4 r4n r4c) rfl rfl) ?_
    refine LW.rd hL rfl (Wants.free rfl) rfl (Rd.extract (v := .bool r5) rfl rfl) ?_
    refine LW.rd hL rfl (Wants.free rfl) rfl (Rd.assign (v := .pointer r3) rfl) ?_
    refine LW.rd hL rfl (Wants.free rfl) rfl (Rd.assign (v := .slice r4 r4n r4c) rfl) ?_
    refine LW.rd hL rfl (Wants.free rfl) rfl (Rd.assign (v := .bool r5) rfl) ?_
    refine LW.nil hL rfl ?_
    refine NW.then ?_
    refine CW.seq ?_
    refine CW.region fun L hL => ?_
    refine LW.rd hL rfl (Wants.free rfl) rfl (Rd.move (v := .pointer r3) rfl) ?_
    refine LW.rd hL rfl (Wants.free rfl) rfl (Rd.move (v := .int .i64 at1) rfl) ?_
    refine LW.rd hL rfl (Wants.free rfl) rfl (Rd.move (v := .int .i64 n1) rfl) ?_
    refine LW.call hL rfl (Wants.free rfl) rfl (Cl.fn (f := 46) rfl Try.func46 (by kernel_rfl) rfl) h (fun e w3 h_ => ?_)
    clear h
    obtain ⟨r6, r7, rfl, h⟩ := h_
    refine ⟨_, rfl, ?_⟩
    refine LW.rd hL rfl (Wants.free rfl) rfl (Rd.move (v := .tuple #[.int .u32 r6, .int .i64 r7]) rfl) ?_
    refine LW.rd hL rfl (Wants.free rfl) rfl (Rd.extract (v := .int .u32 r6) rfl rfl) ?_
    refine LW.rd hL rfl (Wants.free rfl) rfl (Rd.extract (v := .int .i64 r7) rfl rfl) ?_
    refine LW.rd hL rfl (Wants.free rfl) rfl (Rd.assign (v := .int .u32 r6) rfl) ?_
    refine LW.rd hL rfl (Wants.free rfl) rfl (Rd.assign (v := .int .i64 r7) rfl) ?_
    refine LW.nil hL rfl ?_
    refine NW.then ?_
    refine CW.seq ?_
    refine CW.region fun L hL => ?_
    refine LW.rd hL rfl (Wants.free rfl) rfl (Rd.move (v := .slice r4 r4n r4c) rfl) ?_
    refine LW.rd hL rfl (Wants.free rfl) rfl (Rd.move (v := .int .i64 at1) rfl) ?_
    refine LW.rd hL rfl (Wants.free rfl) rfl (Rd.move (v := .int .i64 n1) rfl) ?_
    refine LW.call hL rfl (Wants.free rfl) rfl (Cl.fn (f := 47) rfl Try.func47 (by kernel_rfl) rfl) h (fun e w4 h_ => ?_)
    clear h
    obtain ⟨r8, r9, rfl, h⟩ := h_
    refine ⟨_, rfl, ?_⟩
    refine LW.rd hL rfl (Wants.free rfl) rfl (Rd.move (v := .tuple #[.int .u32 r8, .int .i64 r9]) rfl) ?_
    refine LW.rd hL rfl (Wants.free rfl) rfl (Rd.extract (v := .int .u32 r8) rfl rfl) ?_
    refine LW.rd hL rfl (Wants.free rfl) rfl (Rd.extract (v := .int .i64 r9) rfl rfl) ?_
    refine LW.rd hL rfl (Wants.free rfl) rfl (Rd.assign (v := .int .u32 r8) rfl) ?_
    refine LW.rd hL rfl (Wants.free rfl) rfl (Rd.assign (v := .int .i64 r9) rfl) ?_
    refine LW.nil hL rfl ?_
    refine NW.then ?_
    refine CW.seq ?_
    refine CW.region fun L hL => ?_
    refine LW.rd hL rfl (Wants.free rfl) rfl (Rd.move (v := .bool r5) rfl) ?_
    refine LW.rd hL rfl (Wants.free rfl) rfl (Rd.move (v := .bool r5) rfl) ?_
    suffices K3 : L 6 [(8, .bool false), (9, .pointer r3), (10, .slice r4 r4n r4c), (13, .int .i64 r7), (15, .int .i64 r9), (54, .bool (r5 && r6 == r8))] w4 by
      rcases Bool.eq_false_or_eq_true r5 with hb7 | hb7
      · skip
        refine LW.rd hL rfl (Wants.on rfl rfl rfl rfl rfl hb7) rfl (Rd.move (v := .int .u32 r6) rfl) ?_
        refine LW.rd hL rfl (Wants.on rfl rfl rfl rfl rfl hb7) rfl (Rd.move (v := .int .u32 r8) rfl) ?_
        refine LW.rd hL rfl (Wants.on rfl rfl rfl rfl rfl hb7) rfl (Rd.bin (v := .bool (r6 == r8)) rfl rfl (fun w => by kernel_rfl)) ?_
        refine LW.rd hL rfl (Wants.free rfl) rfl (Rd.pickT rfl hb7 rfl) ?_
        exact LW.sub hL (by exact ⟨rfl, rfl, rfl, rfl, rfl, (by rw [hb7]; rfl), trivial⟩) K3
      · skip
        refine LW.skip hL rfl (Skips.on rfl rfl rfl rfl rfl hb7) rfl ?_
        refine LW.skip hL rfl (Skips.on rfl rfl rfl rfl rfl hb7) rfl ?_
        refine LW.skip hL rfl (Skips.on rfl rfl rfl rfl rfl hb7) rfl ?_
        refine LW.rd hL rfl (Wants.free rfl) rfl (Rd.pickF rfl hb7 rfl) ?_
        exact LW.sub hL (by exact ⟨rfl, rfl, rfl, rfl, rfl, (by rw [hb7]; rfl), trivial⟩) K3
    refine LW.rd hL rfl (Wants.free rfl) rfl (Rd.move (v := .bool (r5 && r6 == r8)) rfl) ?_
    obtain ⟨J1, hJ1, h1_J1, h0_J1⟩ := h
    suffices K4 : ∀ (b1 : Bool) (w5 : World), J1 b1 w5 → L 12 [(8, .bool false), (9, .pointer r3), (10, .slice r4 r4n r4c), (60, .bool b1)] w5 by
      rcases Bool.eq_false_or_eq_true (r5 && r6 == r8) with hb8 | hb8
      · have h := h1_J1 hb8
        refine LW.rd hL rfl (Wants.on rfl rfl rfl rfl rfl hb8) rfl (Rd.move (v := .int .i64 r7) rfl) ?_
        refine LW.call hL rfl (Wants.on rfl rfl rfl rfl rfl hb8) rfl (Cl.fn (f := 44) rfl Try.func44 (by kernel_rfl) rfl) h (fun e w6 h_ => ?_)
        clear h
        obtain ⟨r10, rfl, h⟩ := h_
        refine ⟨_, rfl, ?_⟩
        refine LW.rd hL rfl (Wants.on rfl rfl rfl rfl rfl hb8) rfl (Rd.move (v := .int .i64 r9) rfl) ?_
        refine LW.rd hL rfl (Wants.on rfl rfl rfl rfl rfl hb8) rfl (Rd.bin (v := .bool (r10 == r9)) rfl rfl (fun w => by kernel_rfl)) ?_
        refine LW.rd hL rfl (Wants.free rfl) rfl (Rd.pickT rfl hb8 rfl) ?_
        exact LW.sub hL (by exact ⟨rfl, rfl, rfl, rfl, trivial⟩) (K4 (r10 == r9) w6 h)
      · have h := h0_J1 hb8
        refine LW.skip hL rfl (Skips.on rfl rfl rfl rfl rfl hb8) rfl ?_
        refine LW.skip hL rfl (Skips.on rfl rfl rfl rfl rfl hb8) rfl ?_
        refine LW.skip hL rfl (Skips.on rfl rfl rfl rfl rfl hb8) rfl ?_
        refine LW.skip hL rfl (Skips.on rfl rfl rfl rfl rfl hb8) rfl ?_
        refine LW.rd hL rfl (Wants.free rfl) rfl (Rd.pickF rfl hb8 rfl) ?_
        exact LW.sub hL (by exact ⟨rfl, rfl, rfl, rfl, trivial⟩) (K4 false w4 h)
    intro b1 w5 h_
    have h := hJ1 b1 w5 h_; clear h_
    refine LW.rd hL rfl (Wants.free rfl) rfl (Rd.move (v := .bool b1) rfl) ?_
    obtain ⟨J2, hJ2, h1_J2, h0_J2⟩ := h
    suffices K5 : ∀ (b2 : Bool) (w7 : World), J2 b2 w7 → L 17 [(8, .bool false), (65, .bool b2)] w7 by
      rcases Bool.eq_false_or_eq_true b1 with hb9 | hb9
      · have h := h1_J2 hb9
        refine LW.rd hL rfl (Wants.on rfl rfl rfl rfl rfl hb9) rfl (Rd.move (v := .pointer r3) rfl) ?_
        refine LW.rd hL rfl (Wants.on rfl rfl rfl rfl rfl hb9) rfl (Rd.move (v := .slice r4 r4n r4c) rfl) ?_
        refine LW.call hL rfl (Wants.on rfl rfl rfl rfl rfl hb9) rfl (Cl.fn (f := 45) rfl Try.func45 (by kernel_rfl) rfl) h (fun e w8 h_ => ?_)
        clear h
        obtain ⟨r11, rfl, h⟩ := h_
        refine ⟨_, rfl, ?_⟩
        refine LW.rd hL rfl (Wants.free rfl) rfl (Rd.pickT rfl hb9 rfl) ?_
        exact LW.sub hL (by exact ⟨rfl, rfl, trivial⟩) (K5 r11 w8 h)
      · have h := h0_J2 hb9
        refine LW.skip hL rfl (Skips.on rfl rfl rfl rfl rfl hb9) rfl ?_
        refine LW.skip hL rfl (Skips.on rfl rfl rfl rfl rfl hb9) rfl ?_
        refine LW.skip hL rfl (Skips.on rfl rfl rfl rfl rfl hb9) rfl ?_
        refine LW.rd hL rfl (Wants.free rfl) rfl (Rd.pickF rfl hb9 rfl) ?_
        exact LW.sub hL (by exact ⟨rfl, rfl, trivial⟩) (K5 false w5 h)
    intro b2 w7 h_
    have h := hJ2 b2 w7 h_; clear h_
    refine LW.rd hL rfl (Wants.free rfl) rfl (Rd.move (v := .bool b2) rfl) ?_
    obtain ⟨J3, hJ3, h1_J3, h0_J3⟩ := h
    suffices K6 : ∀ (b3 : Bool) (w9 : World), J3 b3 w9 → L 20 [(8, .bool false), (68, .bool b3)] w9 by
      rcases Bool.eq_false_or_eq_true b2 with hb10 | hb10
      · have h := h1_J3 hb10
        refine LW.call hL rfl (Wants.on rfl rfl rfl rfl rfl hb10) rfl (Cl.fn (f := 40) rfl Try.func40 (by kernel_rfl) rfl) h (fun e w10 h_ => ?_)
        clear h
        obtain ⟨r12, rfl, h⟩ := h_
        refine ⟨_, rfl, ?_⟩
        refine LW.rd hL rfl (Wants.free rfl) rfl (Rd.pickT rfl hb10 rfl) ?_
        exact LW.sub hL (by exact ⟨rfl, rfl, trivial⟩) (K6 r12 w10 h)
      · have h := h0_J3 hb10
        refine LW.skip hL rfl (Skips.on rfl rfl rfl rfl rfl hb10) rfl ?_
        refine LW.rd hL rfl (Wants.free rfl) rfl (Rd.pickF rfl hb10 rfl) ?_
        exact LW.sub hL (by exact ⟨rfl, rfl, trivial⟩) (K6 false w7 h)
    intro b3 w9 h_
    have h := hJ3 b3 w9 h_; clear h_
    refine LW.rd hL rfl (Wants.free rfl) rfl (Rd.assign (v := .bool b3) rfl) ?_
    refine LW.nil hL rfl ?_
    refine NW.then ?_
    refine CW.ret ?_
    exact res1 rfl rfl ⟨b3, rfl, h⟩

end Go.Proofs.Ytkfncibmfcdokaa
