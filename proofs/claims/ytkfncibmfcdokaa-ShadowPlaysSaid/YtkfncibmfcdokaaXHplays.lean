import Derived.Test.YtkfncibmfcdokaaProg
import Derived.Test.YtkfncibmfcdokaaXEq
import Derived.Test.YtkfncibmfcdokaaXLoc
import Derived.Test.YtkfncibmfcdokaaXRange
set_option linter.unusedVariables false
set_option linter.unusedSimpArgs false
namespace Go.Proofs.Ytkfncibmfcdokaa
open Go Go.X

/- pomander/pomanderlaw03.ShadowPlays -/
def W_pomanderlaw03_ShadowPlays (pages1 : Int) (script1 : Option Addr) (script1n : Nat) (script1c : Nat) (w : World) (R : Bool → World → Prop) : Prop :=
  (((decide (pages1 < 1) || decide (pages1 > 32)) || decide ((script1n : Int) > 40)) = true → Calls Try.prog 40 #[] w fun e w1 => ∃ (r2 : Bool), e = .returned (.bool r2) ∧ (R r2 w1)) ∧ (((decide (pages1 < 1) || decide (pages1 > 32)) || decide ((script1n : Int) > 40)) = false → Calls Try.prog 41 #[.int .i64 pages1, .slice script1 script1n script1c] w fun e w2 => ∃ (r3 : Option Addr) (r4 : Option Addr) (r4n : Nat) (r4c : Nat) (r5 : Bool), e = .returned (.tuple #[.pointer r3, .slice r4 r4n r4c, .bool r5]) ∧ (∃ J1 : Bool → World → Prop, (∀ (b1 : Bool) (w3 : World), J1 b1 w3 → ∃ J2 : Bool → World → Prop, (∀ (b2 : Bool) (w5 : World), J2 b2 w5 → R b2 w5) ∧ ((b1 = true → Calls Try.prog 40 #[] w3 fun e w6 => ∃ (r7 : Bool), e = .returned (.bool r7) ∧ (J2 r7 w6)) ∧ (b1 = false → J2 false w3))) ∧ ((r5 = true → Calls Try.prog 45 #[.pointer r3, .slice r4 r4n r4c] w2 fun e w4 => ∃ (r6 : Bool), e = .returned (.bool r6) ∧ (J1 r6 w4)) ∧ (r5 = false → J1 false w2))))
set_option maxRecDepth 100000 in
theorem go_pomanderlaw03_ShadowPlays (pages1 : Int) (script1 : Option Addr) (script1n : Nat) (script1c : Nat) (w : World) (R : Bool → World → Prop) (h : W_pomanderlaw03_ShadowPlays pages1 script1 script1n script1c w R) : Calls Try.prog 9 #[.int .i64 pages1, .slice script1 script1n script1c] w (fun e w' => ∃ (r1 : Bool), e = .returned (.bool r1) ∧ R r1 w') := by
  unfold W_pomanderlaw03_ShadowPlays at h
  refine enter (N := 36) Try.func9 rfl rfl ?_
  refine CW.seq ?_
  refine CW.region fun L hL => ?_
  refine LW.rd hL rfl (Wants.free rfl) rfl (Rd.assign (v := .bool false) rfl) ?_
  refine LW.nil hL rfl ?_
  refine NW.then ?_
  refine CW.seq ?_
  refine CW.seq ?_
  refine CW.region fun L hL => ?_
  refine LW.rd hL rfl (Wants.free rfl) rfl (Rd.move (v := .int .i64 pages1) rfl) ?_
  refine LW.rd hL rfl (Wants.free rfl) rfl (Rd.bin (v := .bool (decide (pages1 < 1))) rfl rfl (fun w => by kernel_rfl)) ?_
  refine LW.rd hL rfl (Wants.free rfl) rfl (Rd.move (v := .bool (decide (pages1 < 1))) rfl) ?_
  suffices K1 : L 6 [(0, .int .i64 pages1), (1, .slice script1 script1n script1c), (4, .bool false), (13, .bool (decide (pages1 < 1) || decide (pages1 > 32)))] w by
    rcases Bool.eq_false_or_eq_true (decide (pages1 < 1)) with hb2 | hb2
    · skip
      refine LW.skip hL rfl (Skips.on rfl rfl rfl rfl rfl hb2) rfl ?_
      refine LW.skip hL rfl (Skips.on rfl rfl rfl rfl rfl hb2) rfl ?_
      refine LW.rd hL rfl (Wants.free rfl) rfl (Rd.pickT rfl hb2 rfl) ?_
      exact LW.sub hL (by exact ⟨rfl, rfl, rfl, (by rw [hb2]; rfl), trivial⟩) K1
    · skip
      refine LW.rd hL rfl (Wants.on rfl rfl rfl rfl rfl hb2) rfl (Rd.move (v := .int .i64 pages1) rfl) ?_
      refine LW.rd hL rfl (Wants.on rfl rfl rfl rfl rfl hb2) rfl (Rd.bin (v := .bool (decide (pages1 > 32))) rfl rfl (fun w => by kernel_rfl)) ?_
      refine LW.rd hL rfl (Wants.free rfl) rfl (Rd.pickF rfl hb2 rfl) ?_
      exact LW.sub hL (by exact ⟨rfl, rfl, rfl, (by rw [hb2]; rfl), trivial⟩) K1
  refine LW.rd hL rfl (Wants.free rfl) rfl (Rd.move (v := .bool (decide (pages1 < 1) || decide (pages1 > 32))) rfl) ?_
  suffices K2 : L 11 [(0, .int .i64 pages1), (1, .slice script1 script1n script1c), (4, .bool false), (18, .bool ((decide (pages1 < 1) || decide (pages1 > 32)) || decide ((script1n : Int) > 40)))] w by
    rcases Bool.eq_false_or_eq_true (decide (pages1 < 1) || decide (pages1 > 32)) with hb4 | hb4
    · skip
      refine LW.skip hL rfl (Skips.on rfl rfl rfl rfl rfl hb4) rfl ?_
      refine LW.skip hL rfl (Skips.on rfl rfl rfl rfl rfl hb4) rfl ?_
      refine LW.skip hL rfl (Skips.on rfl rfl rfl rfl rfl hb4) rfl ?_
      refine LW.rd hL rfl (Wants.free rfl) rfl (Rd.pickT rfl hb4 rfl) ?_
      exact LW.sub hL (by exact ⟨rfl, rfl, rfl, (by rw [hb4]; rfl), trivial⟩) K2
    · skip
      refine LW.rd hL rfl (Wants.on rfl rfl rfl rfl rfl hb4) rfl (Rd.move (v := .slice script1 script1n script1c) rfl) ?_
      refine LW.rd hL rfl (Wants.on rfl rfl rfl rfl rfl hb4) rfl (Rd.builtin (v := .int .i64 (script1n : Int)) rfl (fun _ _ => by kernel_rfl)) ?_
      refine LW.rd hL rfl (Wants.on rfl rfl rfl rfl rfl hb4) rfl (Rd.bin (v := .bool (decide ((script1n : Int) > 40))) rfl rfl (fun w => by kernel_rfl)) ?_
      refine LW.rd hL rfl (Wants.free rfl) rfl (Rd.pickF rfl hb4 rfl) ?_
      exact LW.sub hL (by exact ⟨rfl, rfl, rfl, (by rw [hb4]; rfl), trivial⟩) K2
  refine LW.nil hL rfl ?_
  refine NW.then ?_
  refine CW.cond rfl (fun hb5 => ?_) (fun hb5 => ?_)
  · replace h := h.1 hb5
    refine CW.seq ?_
    refine CW.region fun L hL => ?_
    refine LW.call hL rfl (Wants.free rfl) rfl (Cl.fn (f := 40) rfl Try.func40 (by kernel_rfl) rfl) h (fun e w1 h_ => ?_)
    clear h
    obtain ⟨r2, rfl, h⟩ := h_
    refine ⟨_, rfl, ?_⟩
    refine LW.rd hL rfl (Wants.free rfl) rfl (Rd.assign (v := .bool r2) rfl) ?_
    refine LW.nil hL rfl ?_
    refine NW.then ?_
    refine CW.ret ?_
    refine RW.then ?_
    exact res1 rfl rfl ⟨r2, rfl, h⟩
  · replace h := h.2 hb5
    refine CW.skip ?_
    refine NW.then ?_
    refine CW.seq ?_
    refine CW.region fun L hL => ?_
    refine LW.rd hL rfl (Wants.free rfl) rfl (Rd.move (v := .int .i64 pages1) rfl) ?_
    refine LW.rd hL rfl (Wants.free rfl) rfl (Rd.move (v := .slice script1 script1n script1c) rfl) ?_
    refine LW.call hL rfl (Wants.free rfl) rfl (Cl.fn (f := 41) rfl Try.func41 (by kernel_rfl) rfl) h (fun e w2 h_ => ?_)
    clear h
    obtain ⟨r3, r4, r4n, r4c, r5, rfl, h⟩ := h_
    refine ⟨_, rfl, ?_⟩
    refine LW.rd hL rfl (Wants.free rfl) rfl (Rd.move (v := .tuple #[.pointer r3, .slice r4 r4n r4c, .bool r5]) rfl) ?_
    refine LW.rd hL rfl (Wants.free rfl) rfl (Rd.extract (v := .pointer r3) rfl rfl) ?_
    refine LW.rd hL rfl (Wants.free rfl) rfl (Rd.extract (v := .slice r4 r4n r4c) rfl rfl) ?_
    refine LW.rd hL rfl (Wants.free rfl) rfl (Rd.extract (v := .bool r5) rfl rfl) ?_
    refine LW.rd hL rfl (Wants.free rfl) rfl (Rd.assign (v := .pointer r3) rfl) ?_
    refine LW.rd hL rfl (Wants.free rfl) rfl (Rd.assign (v := .slice r4 r4n r4c) rfl) ?_
    refine LW.rd hL rfl (Wants.free rfl) rfl (Rd.assign (v := .bool r5) rfl) ?_
    refine LW.nil hL rfl ?_
    refine NW.then ?_
    refine CW.seq ?_
    refine CW.region fun L hL => ?_
    refine LW.rd hL rfl (Wants.free rfl) rfl (Rd.move (v := .bool r5) rfl) ?_
    refine LW.rd hL rfl (Wants.free rfl) rfl (Rd.move (v := .bool r5) rfl) ?_
    obtain ⟨J1, hJ1, h1_J1, h0_J1⟩ := h
    suffices K3 : ∀ (b1 : Bool) (w3 : World), J1 b1 w3 → L 6 [(4, .bool false), (32, .bool b1)] w3 by
      rcases Bool.eq_false_or_eq_true r5 with hb6 | hb6
      · have h := h1_J1 hb6
        refine LW.rd hL rfl (Wants.on rfl rfl rfl rfl rfl hb6) rfl (Rd.move (v := .pointer r3) rfl) ?_
        refine LW.rd hL rfl (Wants.on rfl rfl rfl rfl rfl hb6) rfl (Rd.move (v := .slice r4 r4n r4c) rfl) ?_
        refine LW.call hL rfl (Wants.on rfl rfl rfl rfl rfl hb6) rfl (Cl.fn (f := 45) rfl Try.func45 (by kernel_rfl) rfl) h (fun e w4 h_ => ?_)
        clear h
        obtain ⟨r6, rfl, h⟩ := h_
        refine ⟨_, rfl, ?_⟩
        refine LW.rd hL rfl (Wants.free rfl) rfl (Rd.pickT rfl hb6 rfl) ?_
        exact LW.sub hL (by exact ⟨rfl, rfl, trivial⟩) (K3 r6 w4 h)
      · have h := h0_J1 hb6
        refine LW.skip hL rfl (Skips.on rfl rfl rfl rfl rfl hb6) rfl ?_
        refine LW.skip hL rfl (Skips.on rfl rfl rfl rfl rfl hb6) rfl ?_
        refine LW.skip hL rfl (Skips.on rfl rfl rfl rfl rfl hb6) rfl ?_
        refine LW.rd hL rfl (Wants.free rfl) rfl (Rd.pickF rfl hb6 rfl) ?_
        exact LW.sub hL (by exact ⟨rfl, rfl, trivial⟩) (K3 false w2 h)
    intro b1 w3 h_
    have h := hJ1 b1 w3 h_; clear h_
    refine LW.rd hL rfl (Wants.free rfl) rfl (Rd.move (v := .bool b1) rfl) ?_
    obtain ⟨J2, hJ2, h1_J2, h0_J2⟩ := h
    suffices K4 : ∀ (b2 : Bool) (w5 : World), J2 b2 w5 → L 9 [(4, .bool false), (35, .bool b2)] w5 by
      rcases Bool.eq_false_or_eq_true b1 with hb7 | hb7
      · have h := h1_J2 hb7
        refine LW.call hL rfl (Wants.on rfl rfl rfl rfl rfl hb7) rfl (Cl.fn (f := 40) rfl Try.func40 (by kernel_rfl) rfl) h (fun e w6 h_ => ?_)
        clear h
        obtain ⟨r7, rfl, h⟩ := h_
        refine ⟨_, rfl, ?_⟩
        refine LW.rd hL rfl (Wants.free rfl) rfl (Rd.pickT rfl hb7 rfl) ?_
        exact LW.sub hL (by exact ⟨rfl, rfl, trivial⟩) (K4 r7 w6 h)
      · have h := h0_J2 hb7
        refine LW.skip hL rfl (Skips.on rfl rfl rfl rfl rfl hb7) rfl ?_
        refine LW.rd hL rfl (Wants.free rfl) rfl (Rd.pickF rfl hb7 rfl) ?_
        exact LW.sub hL (by exact ⟨rfl, rfl, trivial⟩) (K4 false w3 h)
    intro b2 w5 h_
    have h := hJ2 b2 w5 h_; clear h_
    refine LW.rd hL rfl (Wants.free rfl) rfl (Rd.assign (v := .bool b2) rfl) ?_
    refine LW.nil hL rfl ?_
    refine NW.then ?_
    refine CW.ret ?_
    exact res1 rfl rfl ⟨b2, rfl, h⟩

end Go.Proofs.Ytkfncibmfcdokaa
