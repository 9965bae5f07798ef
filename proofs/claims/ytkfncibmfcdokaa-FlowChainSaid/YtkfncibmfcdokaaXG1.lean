import Derived.Test.YtkfncibmfcdokaaXIter
import Derived.Test.YtkfncibmfcdokaaProg
import Derived.Test.YtkfncibmfcdokaaXEq
import Derived.Test.YtkfncibmfcdokaaXLoc
set_option linter.unusedVariables false
set_option linter.unusedSimpArgs false
namespace Go.Proofs.Ytkfncibmfcdokaa
open Go.X

/- pomander/pomanderlaw12.vast -/
def W_pomanderlaw12_vast (l1 : Option Addr) (l1n : Nat) (l1c : Nat) (w : World) (R : Bool → World → Prop) : Prop :=
  ((decide ((l1n : Int) > 30)) = true → R true w) ∧ ((decide ((l1n : Int) > 30)) = false → ∃ (I1 : Bool → Int → World → Prop) (m1 : Bool → Int → World → Nat), I1 false 0 w ∧ ∀ (x1 : Bool) (i1 : Int) (w1 : World), I1 x1 i1 w1 → ((decide (i1 < (l1n : Int))) = true → ∃ a1 : Addr, l1 = some a1 ∧ (0 : Int) ≤ i1 ∧ i1 < (l1n : Int) ∧ (∃ (t1 : Int), w1.cell? ((a1.add (Int.toNat i1 * 6)).add 1) = some (.int .i64 t1) ∧ (∃ J1 : Bool → World → Prop, (∀ (b1 : Bool) (w2 : World), J1 b1 w2 → ∃ J2 : Bool → World → Prop, (∀ (b2 : Bool) (w3 : World), J2 b2 w3 → (b2 = true → R true w3) ∧ (b2 = false → (I1 x1 (IntKind.wrap .i64 (i1 + 1)) w3 ∧ m1 x1 (IntKind.wrap .i64 (i1 + 1)) w3 < m1 x1 i1 w1))) ∧ ((b1 = false → ∃ (t2 : Option Addr) (t2n : Nat) (t2c : Nat), w2.cell? ((a1.add (Int.toNat i1 * 6)).add 5) = some (.slice t2 t2n t2c) ∧ (Calls Try.prog 67 #[.slice t2 t2n t2c] w2 fun e w4 => ∃ (r2 : Bool), e = .returned (.bool r2) ∧ (J2 r2 w4))) ∧ (b1 = true → J2 true w2))) ∧ (((decide (t1 > 200)) = true → J1 (decide (t1 ≤ 65536)) w1) ∧ ((decide (t1 > 200)) = false → J1 false w1))))) ∧ ((decide (i1 < (l1n : Int))) = false → R false w1))
set_option maxRecDepth 100000 in
theorem go_pomanderlaw12_vast (l1 : Option Addr) (l1n : Nat) (l1c : Nat) (w : World) (R : Bool → World → Prop) (h : W_pomanderlaw12_vast l1 l1n l1c w R) : Calls Try.prog 23 #[.slice l1 l1n l1c] w (fun e w' => ∃ (r1 : Bool), e = .returned (.bool r1) ∧ R r1 w') := by
  unfold W_pomanderlaw12_vast at h
  refine enter (N := 35) Try.func23 rfl rfl ?_
  refine CW.seq ?_
  refine CW.region fun L hL => ?_
  refine LW.rd hL rfl (Wants.free rfl) rfl (Rd.assign (v := .bool false) rfl) ?_
  refine LW.nil hL rfl ?_
  refine NW.then ?_
  refine CW.seq ?_
  refine CW.seq ?_
  refine CW.region fun L hL => ?_
  refine LW.rd hL rfl (Wants.free rfl) rfl (Rd.move (v := .slice l1 l1n l1c) rfl) ?_
  refine LW.rd hL rfl (Wants.free rfl) rfl (Rd.builtin (v := .int .i64 (l1n : Int)) rfl (fun _ _ => by kernel_rfl)) ?_
  refine LW.rd hL rfl (Wants.free rfl) rfl (Rd.bin (v := .bool (decide ((l1n : Int) > 30))) rfl rfl (fun w => by kernel_rfl)) ?_
  refine LW.nil hL rfl ?_
  refine NW.then ?_
  refine CW.cond rfl (fun hb1 => ?_) (fun hb1 => ?_)
  · replace h := h.1 hb1
    refine CW.seq ?_
    refine CW.region fun L hL => ?_
    refine LW.rd hL rfl (Wants.free rfl) rfl (Rd.assign (v := .bool true) rfl) ?_
    refine LW.nil hL rfl ?_
    refine NW.then ?_
    refine CW.ret ?_
    refine RW.then ?_
    exact res1 rfl rfl ⟨true, rfl, h⟩
  · replace h := h.2 hb1
    refine CW.skip ?_
    refine NW.then ?_
    refine CW.seq ?_
    refine CW.seq ?_
    refine CW.region fun L hL => ?_
    refine LW.rd hL rfl (Wants.free rfl) rfl (Rd.assign (v := .int .i64 0) rfl) ?_
    refine LW.nil hL rfl ?_
    refine NW.then ?_
    refine CW.block ?_
    obtain ⟨I1, m1, hI1, h⟩ := h
    refine CW.loop (S := Bool × Int) (fun s1 => [(0, .slice l1 l1n l1c), (2, .bool s1.1), (3, .int .i64 s1.2)]) (fun s1 w1 => I1 s1.1 s1.2 w1) (fun s1 w1 => m1 s1.1 s1.2 w1) (false, 0) (by exact ⟨rfl, rfl, rfl, trivial⟩) hI1 (fun s1 w1 hI1 => ?_)
    obtain ⟨x1, i1⟩ := s1; replace h := h x1 i1 w1 hI1
    refine CW.seq ?_
    refine CW.seq ?_
    refine CW.region fun L hL => ?_
    refine LW.rd hL rfl (Wants.free rfl) rfl (Rd.move (v := .int .i64 i1) rfl) ?_
    refine LW.rd hL rfl (Wants.free rfl) rfl (Rd.move (v := .slice l1 l1n l1c) rfl) ?_
    refine LW.rd hL rfl (Wants.free rfl) rfl (Rd.builtin (v := .int .i64 (l1n : Int)) rfl (fun _ _ => by kernel_rfl)) ?_
    refine LW.rd hL rfl (Wants.free rfl) rfl (Rd.bin (v := .bool (decide (i1 < (l1n : Int)))) rfl rfl (fun w => by kernel_rfl)) ?_
    refine LW.nil hL rfl ?_
    refine NW.then ?_
    refine CW.cond rfl (fun hb2 => ?_) (fun hb2 => ?_)
    · replace h := h.1 hb2
      refine CW.skip ?_
      refine NW.then ?_
      refine CW.seq ?_
      refine CW.block ?_
      refine CW.seq ?_
      refine CW.region fun L hL => ?_
      refine LW.rd hL rfl (Wants.free rfl) rfl (Rd.move (v := .slice l1 l1n l1c) rfl) ?_
      refine LW.rd hL rfl (Wants.free rfl) rfl (Rd.move (v := .int .i64 i1) rfl) ?_
      obtain ⟨a1, he1, hi1, hi2, h⟩ := h
      refine LW.rd hL rfl (Wants.free rfl) rfl (Rd.iaS (q := a1) (sz := 6) (by rw [← he1]; rfl) rfl Try.underlying46 (by kernel_rfl) hi1 hi2) ?_
      refine LW.rd hL rfl (Wants.free rfl) rfl (Rd.fa (v := .pointer (some ((a1.add (Int.toNat i1 * 6)).add 1))) rfl (fun _ => by kernel_rfl)) ?_
      obtain ⟨t1, hc1, h⟩ := h
      refine LW.rd hL rfl (Wants.free rfl) rfl (Rd.ld (v := .int .i64 t1) rfl (by kernel_rfl) (eqs hc1)) ?_
      refine LW.rd hL rfl (Wants.free rfl) rfl (Rd.bin (v := .bool (decide (t1 > 200))) rfl rfl (fun w => by kernel_rfl)) ?_
      refine LW.rd hL rfl (Wants.free rfl) rfl (Rd.move (v := .bool (decide (t1 > 200))) rfl) ?_
      obtain ⟨J1, hJ1, h1_J1, h0_J1⟩ := h
      suffices K1 : ∀ (b1 : Bool) (w2 : World), J1 b1 w2 → L 14 [(0, .slice l1 l1n l1c), (2, .bool x1), (3, .int .i64 i1), (26, .bool b1)] w2 by
        rcases Bool.eq_false_or_eq_true (decide (t1 > 200)) with hb3 | hb3
        · have h := h1_J1 hb3
          refine LW.rd hL rfl (Wants.on rfl rfl rfl rfl rfl hb3) rfl (Rd.move (v := .slice l1 l1n l1c) rfl) ?_
          refine LW.rd hL rfl (Wants.on rfl rfl rfl rfl rfl hb3) rfl (Rd.move (v := .int .i64 i1) rfl) ?_
          refine LW.rd hL rfl (Wants.on rfl rfl rfl rfl rfl hb3) rfl (Rd.iaS (q := a1) (sz := 6) (by rw [← he1]; rfl) rfl Try.underlying46 (by kernel_rfl) hi1 hi2) ?_
          refine LW.rd hL rfl (Wants.on rfl rfl rfl rfl rfl hb3) rfl (Rd.fa (v := .pointer (some ((a1.add (Int.toNat i1 * 6)).add 1))) rfl (fun _ => by kernel_rfl)) ?_
          refine LW.rd hL rfl (Wants.on rfl rfl rfl rfl rfl hb3) rfl (Rd.ld (v := .int .i64 t1) rfl (by kernel_rfl) (eqs hc1)) ?_
          refine LW.rd hL rfl (Wants.on rfl rfl rfl rfl rfl hb3) rfl (Rd.bin (v := .bool (decide (t1 ≤ 65536))) rfl rfl (fun w => by kernel_rfl)) ?_
          refine LW.rd hL rfl (Wants.free rfl) rfl (Rd.pickT rfl hb3 rfl) ?_
          exact LW.sub hL (by exact ⟨rfl, rfl, rfl, rfl, trivial⟩) (K1 (decide (t1 ≤ 65536)) w1 h)
        · have h := h0_J1 hb3
          refine LW.skip hL rfl (Skips.on rfl rfl rfl rfl rfl hb3) rfl ?_
          refine LW.skip hL rfl (Skips.on rfl rfl rfl rfl rfl hb3) rfl ?_
          refine LW.skip hL rfl (Skips.on rfl rfl rfl rfl rfl hb3) rfl ?_
          refine LW.skip hL rfl (Skips.on rfl rfl rfl rfl rfl hb3) rfl ?_
          refine LW.skip hL rfl (Skips.on rfl rfl rfl rfl rfl hb3) rfl ?_
          refine LW.skip hL rfl (Skips.on rfl rfl rfl rfl rfl hb3) rfl ?_
          refine LW.rd hL rfl (Wants.free rfl) rfl (Rd.pickF rfl hb3 rfl) ?_
          exact LW.sub hL (by exact ⟨rfl, rfl, rfl, rfl, trivial⟩) (K1 false w1 h)
      intro b1 w2 h_
      have h := hJ1 b1 w2 h_; clear h_
      refine LW.rd hL rfl (Wants.free rfl) rfl (Rd.move (v := .bool b1) rfl) ?_
      obtain ⟨J2, hJ2, h1_J2, h0_J2⟩ := h
      suffices K2 : ∀ (b2 : Bool) (w3 : World), J2 b2 w3 → L 22 [(0, .slice l1 l1n l1c), (2, .bool x1), (3, .int .i64 i1), (34, .bool b2)] w3 by
        rcases Bool.eq_false_or_eq_true b1 with hb4 | hb4
        · have h := h0_J2 hb4
          refine LW.skip hL rfl (Skips.on rfl rfl rfl rfl rfl hb4) rfl ?_
          refine LW.skip hL rfl (Skips.on rfl rfl rfl rfl rfl hb4) rfl ?_
          refine LW.skip hL rfl (Skips.on rfl rfl rfl rfl rfl hb4) rfl ?_
          refine LW.skip hL rfl (Skips.on rfl rfl rfl rfl rfl hb4) rfl ?_
          refine LW.skip hL rfl (Skips.on rfl rfl rfl rfl rfl hb4) rfl ?_
          refine LW.skip hL rfl (Skips.on rfl rfl rfl rfl rfl hb4) rfl ?_
          refine LW.rd hL rfl (Wants.free rfl) rfl (Rd.pickT rfl hb4 rfl) ?_
          exact LW.sub hL (by exact ⟨rfl, rfl, rfl, rfl, trivial⟩) (K2 true w2 h)
        · have h := h1_J2 hb4
          refine LW.rd hL rfl (Wants.on rfl rfl rfl rfl rfl hb4) rfl (Rd.move (v := .slice l1 l1n l1c) rfl) ?_
          refine LW.rd hL rfl (Wants.on rfl rfl rfl rfl rfl hb4) rfl (Rd.move (v := .int .i64 i1) rfl) ?_
          refine LW.rd hL rfl (Wants.on rfl rfl rfl rfl rfl hb4) rfl (Rd.iaS (q := a1) (sz := 6) (by rw [← he1]; rfl) rfl Try.underlying46 (by kernel_rfl) hi1 hi2) ?_
          refine LW.rd hL rfl (Wants.on rfl rfl rfl rfl rfl hb4) rfl (Rd.fa (v := .pointer (some ((a1.add (Int.toNat i1 * 6)).add 5))) rfl (fun _ => by kernel_rfl)) ?_
          obtain ⟨t2, t2n, t2c, hc2, h⟩ := h
          refine LW.rd hL rfl (Wants.on rfl rfl rfl rfl rfl hb4) rfl (Rd.ld (v := .slice t2 t2n t2c) rfl (by kernel_rfl) (eqs hc2)) ?_
          refine LW.call hL rfl (Wants.on rfl rfl rfl rfl rfl hb4) rfl (Cl.fn (f := 67) rfl Try.func67 (by kernel_rfl) rfl) h (fun e w4 h_ => ?_)
          clear h
          obtain ⟨r2, rfl, h⟩ := h_
          refine ⟨_, rfl, ?_⟩
          refine LW.rd hL rfl (Wants.free rfl) rfl (Rd.pickF rfl hb4 rfl) ?_
          exact LW.sub hL (by exact ⟨rfl, rfl, rfl, rfl, trivial⟩) (K2 r2 w4 h)
      intro b2 w3 h_
      have h := hJ2 b2 w3 h_; clear h_
      refine LW.nil hL rfl ?_
      refine NW.then ?_
      refine CW.cond rfl (fun hb5 => ?_) (fun hb5 => ?_)
      · replace h := h.1 hb5
        refine CW.seq ?_
        refine CW.region fun L hL => ?_
        refine LW.rd hL rfl (Wants.free rfl) rfl (Rd.assign (v := .bool true) rfl) ?_
        refine LW.nil hL rfl ?_
        refine NW.then ?_
        refine CW.ret ?_
        refine RW.block ?_
        refine RW.then ?_
        refine RW.then ?_
        refine RW.block ?_
        refine RW.then ?_
        exact res1 rfl rfl ⟨true, rfl, h⟩
      · replace h := h.2 hb5
        refine CW.skip ?_
        refine NW.block ?_
        refine NW.then ?_
        refine CW.region fun L hL => ?_
        refine LW.rd hL rfl (Wants.free rfl) rfl (Rd.move (v := .int .i64 i1) rfl) ?_
        refine LW.rd hL rfl (Wants.free rfl) rfl (Rd.bin (v := .int .i64 (IntKind.wrap .i64 (i1 + 1))) rfl rfl (fun w => by kernel_rfl)) ?_
        refine LW.rd hL rfl (Wants.free rfl) rfl (Rd.assign (v := .int .i64 (IntKind.wrap .i64 (i1 + 1))) rfl) ?_
        refine LW.nil hL rfl ?_
        exact NW.loop (S := Bool × Int) (Ek := fun s1 => [(0, .slice l1 l1n l1c), (2, .bool s1.1), (3, .int .i64 s1.2)]) (x1, IntKind.wrap .i64 (i1 + 1)) (by exact ⟨rfl, rfl, rfl, trivial⟩) h
    · replace h := h.2 hb2
      refine CW.exit ?_
      refine XW.then ?_
      refine XW.then ?_
      refine XW.hit ?_
      refine NW.then ?_
      refine CW.seq ?_
      refine CW.region fun L hL => ?_
      refine LW.rd hL rfl (Wants.free rfl) rfl (Rd.assign (v := .bool false) rfl) ?_
      refine LW.nil hL rfl ?_
      refine NW.then ?_
      refine CW.ret ?_
      exact res1 rfl rfl ⟨false, rfl, h⟩

/- pomander/pomanderlaw12.broad -/
def W_pomanderlaw12_broad (l1 : Option Addr) (l1n : Nat) (l1c : Nat) (w : World) (R : Bool → World → Prop) : Prop :=
  ((decide ((l1n : Int) > 20)) = true → R true w) ∧ ((decide ((l1n : Int) > 20)) = false → ∃ (I1 : Bool → Int → World → Prop) (m1 : Bool → Int → World → Nat), I1 false 0 w ∧ ∀ (x1 : Bool) (i1 : Int) (w1 : World), I1 x1 i1 w1 → ((decide (i1 < (l1n : Int))) = true → ∃ a1 : Addr, l1 = some a1 ∧ (0 : Int) ≤ i1 ∧ i1 < (l1n : Int) ∧ (∃ (t1 : Option Addr) (t1n : Nat) (t1c : Nat), w1.cell? ((a1.add (Int.toNat i1 * 3)).add 2) = some (.slice t1 t1n t1c) ∧ (((decide ((t1n : Int) > 20)) = true → R true w1) ∧ ((decide ((t1n : Int) > 20)) = false → (I1 x1 (IntKind.wrap .i64 (i1 + 1)) w1 ∧ m1 x1 (IntKind.wrap .i64 (i1 + 1)) w1 < m1 x1 i1 w1))))) ∧ ((decide (i1 < (l1n : Int))) = false → R false w1))
set_option maxRecDepth 100000 in
theorem go_pomanderlaw12_broad (l1 : Option Addr) (l1n : Nat) (l1c : Nat) (w : World) (R : Bool → World → Prop) (h : W_pomanderlaw12_broad l1 l1n l1c w R) : Calls Try.prog 67 #[.slice l1 l1n l1c] w (fun e w' => ∃ (r1 : Bool), e = .returned (.bool r1) ∧ R r1 w') := by
  unfold W_pomanderlaw12_broad at h
  refine enter (N := 20) Try.func67 rfl rfl ?_
  refine CW.seq ?_
  refine CW.region fun L hL => ?_
  refine LW.rd hL rfl (Wants.free rfl) rfl (Rd.assign (v := .bool false) rfl) ?_
  refine LW.nil hL rfl ?_
  refine NW.then ?_
  refine CW.seq ?_
  refine CW.seq ?_
  refine CW.region fun L hL => ?_
  refine LW.rd hL rfl (Wants.free rfl) rfl (Rd.move (v := .slice l1 l1n l1c) rfl) ?_
  refine LW.rd hL rfl (Wants.free rfl) rfl (Rd.builtin (v := .int .i64 (l1n : Int)) rfl (fun _ _ => by kernel_rfl)) ?_
  refine LW.rd hL rfl (Wants.free rfl) rfl (Rd.bin (v := .bool (decide ((l1n : Int) > 20))) rfl rfl (fun w => by kernel_rfl)) ?_
  refine LW.nil hL rfl ?_
  refine NW.then ?_
  refine CW.cond rfl (fun hb1 => ?_) (fun hb1 => ?_)
  · replace h := h.1 hb1
    refine CW.seq ?_
    refine CW.region fun L hL => ?_
    refine LW.rd hL rfl (Wants.free rfl) rfl (Rd.assign (v := .bool true) rfl) ?_
    refine LW.nil hL rfl ?_
    refine NW.then ?_
    refine CW.ret ?_
    refine RW.then ?_
    exact res1 rfl rfl ⟨true, rfl, h⟩
  · replace h := h.2 hb1
    refine CW.skip ?_
    refine NW.then ?_
    refine CW.seq ?_
    refine CW.seq ?_
    refine CW.region fun L hL => ?_
    refine LW.rd hL rfl (Wants.free rfl) rfl (Rd.assign (v := .int .i64 0) rfl) ?_
    refine LW.nil hL rfl ?_
    refine NW.then ?_
    refine CW.block ?_
    obtain ⟨I1, m1, hI1, h⟩ := h
    refine CW.loop (S := Bool × Int) (fun s1 => [(0, .slice l1 l1n l1c), (2, .bool s1.1), (3, .int .i64 s1.2)]) (fun s1 w1 => I1 s1.1 s1.2 w1) (fun s1 w1 => m1 s1.1 s1.2 w1) (false, 0) (by exact ⟨rfl, rfl, rfl, trivial⟩) hI1 (fun s1 w1 hI1 => ?_)
    obtain ⟨x1, i1⟩ := s1; replace h := h x1 i1 w1 hI1
    refine CW.seq ?_
    refine CW.seq ?_
    refine CW.region fun L hL => ?_
    refine LW.rd hL rfl (Wants.free rfl) rfl (Rd.move (v := .int .i64 i1) rfl) ?_
    refine LW.rd hL rfl (Wants.free rfl) rfl (Rd.move (v := .slice l1 l1n l1c) rfl) ?_
    refine LW.rd hL rfl (Wants.free rfl) rfl (Rd.builtin (v := .int .i64 (l1n : Int)) rfl (fun _ _ => by kernel_rfl)) ?_
    refine LW.rd hL rfl (Wants.free rfl) rfl (Rd.bin (v := .bool (decide (i1 < (l1n : Int)))) rfl rfl (fun w => by kernel_rfl)) ?_
    refine LW.nil hL rfl ?_
    refine NW.then ?_
    refine CW.cond rfl (fun hb2 => ?_) (fun hb2 => ?_)
    · replace h := h.1 hb2
      refine CW.skip ?_
      refine NW.then ?_
      refine CW.seq ?_
      refine CW.block ?_
      refine CW.seq ?_
      refine CW.region fun L hL => ?_
      refine LW.rd hL rfl (Wants.free rfl) rfl (Rd.move (v := .slice l1 l1n l1c) rfl) ?_
      refine LW.rd hL rfl (Wants.free rfl) rfl (Rd.move (v := .int .i64 i1) rfl) ?_
      obtain ⟨a1, he1, hi1, hi2, h⟩ := h
      refine LW.rd hL rfl (Wants.free rfl) rfl (Rd.iaS (q := a1) (sz := 3) (by rw [← he1]; rfl) rfl Try.underlying25 (by kernel_rfl) hi1 hi2) ?_
      refine LW.rd hL rfl (Wants.free rfl) rfl (Rd.fa (v := .pointer (some ((a1.add (Int.toNat i1 * 3)).add 2))) rfl (fun _ => by kernel_rfl)) ?_
      obtain ⟨t1, t1n, t1c, hc1, h⟩ := h
      refine LW.rd hL rfl (Wants.free rfl) rfl (Rd.ld (v := .slice t1 t1n t1c) rfl (by kernel_rfl) (eqs hc1)) ?_
      refine LW.rd hL rfl (Wants.free rfl) rfl (Rd.builtin (v := .int .i64 (t1n : Int)) rfl (fun _ _ => by kernel_rfl)) ?_
      refine LW.rd hL rfl (Wants.free rfl) rfl (Rd.bin (v := .bool (decide ((t1n : Int) > 20))) rfl rfl (fun w => by kernel_rfl)) ?_
      refine LW.nil hL rfl ?_
      refine NW.then ?_
      refine CW.cond rfl (fun hb3 => ?_) (fun hb3 => ?_)
      · replace h := h.1 hb3
        refine CW.seq ?_
        refine CW.region fun L hL => ?_
        refine LW.rd hL rfl (Wants.free rfl) rfl (Rd.assign (v := .bool true) rfl) ?_
        refine LW.nil hL rfl ?_
        refine NW.then ?_
        refine CW.ret ?_
        refine RW.block ?_
        refine RW.then ?_
        refine RW.then ?_
        refine RW.block ?_
        refine RW.then ?_
        exact res1 rfl rfl ⟨true, rfl, h⟩
      · replace h := h.2 hb3
        refine CW.skip ?_
        refine NW.block ?_
        refine NW.then ?_
        refine CW.region fun L hL => ?_
        refine LW.rd hL rfl (Wants.free rfl) rfl (Rd.move (v := .int .i64 i1) rfl) ?_
        refine LW.rd hL rfl (Wants.free rfl) rfl (Rd.bin (v := .int .i64 (IntKind.wrap .i64 (i1 + 1))) rfl rfl (fun w => by kernel_rfl)) ?_
        refine LW.rd hL rfl (Wants.free rfl) rfl (Rd.assign (v := .int .i64 (IntKind.wrap .i64 (i1 + 1))) rfl) ?_
        refine LW.nil hL rfl ?_
        exact NW.loop (S := Bool × Int) (Ek := fun s1 => [(0, .slice l1 l1n l1c), (2, .bool s1.1), (3, .int .i64 s1.2)]) (x1, IntKind.wrap .i64 (i1 + 1)) (by exact ⟨rfl, rfl, rfl, trivial⟩) h
    · replace h := h.2 hb2
      refine CW.exit ?_
      refine XW.then ?_
      refine XW.then ?_
      refine XW.hit ?_
      refine NW.then ?_
      refine CW.seq ?_
      refine CW.region fun L hL => ?_
      refine LW.rd hL rfl (Wants.free rfl) rfl (Rd.assign (v := .bool false) rfl) ?_
      refine LW.nil hL rfl ?_
      refine NW.then ?_
      refine CW.ret ?_
      exact res1 rfl rfl ⟨false, rfl, h⟩

/- pomander/pomanderlaw12.known -/
def W_pomanderlaw12_known  (w : World) (R : Bool → World → Prop) : Prop :=
  Calls Try.prog 25 #[.agg #[.int .i64 1, .int .i64 1], .int .i64 4] w fun e w1 => ∃ (r2 : Option Addr) (r3 : Int), e = .returned (.tuple #[.pointer r2, .int .i64 r3]) ∧ (∀ (b2 b1 : Nat) (w5 : World), (w1.heap.size ≤ b2 ∧ b2 < w5.heap.size) → (w1.heap.size ≤ b1 ∧ b1 < w5.heap.size) → Chg [] w1 w5 → (Calls Try.prog 36 #[.pointer r2, .agg #[.int .i64 13, .int .i64 0], .int .i64 2, .int .u32 1] w5 fun e w6 => ∃ (r4 : Int), e = .returned (.int .i64 r4) ∧ (Same w5 w6 [b2, b1] ∧ (∀ b3 : Nat, b3 = World.size w6 → ∀ w7 : World, w7 = World.alloc w6 (.cells #[.int .i64 13, .int .i64 0] 56) → (∀ b4 : Nat, b4 = World.size w7 → ∀ w8 : World, w8 = World.alloc w7 (.cells #[.int .i64 1, .int .i64 1, .slice (some (⟨b3, 0, none⟩ : Addr)) 1 1] 81) → (Calls Try.prog 38 #[.pointer r2, .slice (some (⟨b4, 0, none⟩ : Addr)) 1 1] w8 fun e w9 => ∃ (r5 : Int), e = .returned (.int .i64 r5) ∧ (Same w8 w9 [b2] ∧ (Calls Try.prog 28 #[.pointer r2, .agg #[.int .i64 1, .int .i64 1]] w9 fun e w10 => ∃ (r6 : Int) (r7 : Int), e = .returned (.tuple #[.int .u32 r6, .int .i64 r7]) ∧ (R ((((r3 == 0 && r4 == 0) && r5 == 0) && r6 == 1) && r7 == 0) w10)))))))))
set_option maxRecDepth 100000 in
theorem go_pomanderlaw12_known  (w : World) (R : Bool → World → Prop) (h : W_pomanderlaw12_known  w R) : Calls Try.prog 24 #[] w (fun e w' => ∃ (r1 : Bool), e = .returned (.bool r1) ∧ R r1 w') := by
  unfold W_pomanderlaw12_known at h
  refine enter (N := 50) Try.func24 rfl rfl ?_
  refine CW.seq ?_
  refine CW.region fun L hL => ?_
  refine LW.rd hL rfl (Wants.free rfl) rfl (Rd.assign (v := .bool false) rfl) ?_
  refine LW.nil hL rfl ?_
  refine NW.then ?_
  refine CW.seq ?_
  refine CW.region fun L hL => ?_
  refine LW.rd hL rfl (Wants.free rfl) rfl (Rd.build (v := .agg #[.int .i64 1, .int .i64 1]) rfl (fun _ => by kernel_rfl)) ?_
  refine LW.call hL rfl (Wants.free rfl) rfl (Cl.fn (f := 25) rfl Try.func25 (by kernel_rfl) rfl) h (fun e w1 h_ => ?_)
  clear h
  obtain ⟨r2, r3, rfl, h⟩ := h_
  refine ⟨_, rfl, ?_⟩
  refine LW.rd hL rfl (Wants.free rfl) rfl (Rd.move (v := .tuple #[.pointer r2, .int .i64 r3]) rfl) ?_
  refine LW.rd hL rfl (Wants.free rfl) rfl (Rd.extract (v := .pointer r2) rfl rfl) ?_
  refine LW.rd hL rfl (Wants.free rfl) rfl (Rd.extract (v := .int .i64 r3) rfl rfl) ?_
  refine LW.rd hL rfl (Wants.free rfl) rfl (Rd.assign (v := .pointer r2) rfl) ?_
  refine LW.rd hL rfl (Wants.free rfl) rfl (Rd.assign (v := .int .i64 r3) rfl) ?_
  refine LW.nil hL rfl ?_
  refine NW.then ?_
  refine CW.seq ?_
  refine CW.region fun L hL => ?_
  refine LW.rd hL rfl (Wants.free rfl) rfl (Rd.build (v := .agg #[.int .i64 13, .int .i64 0]) rfl (fun _ => by kernel_rfl)) ?_
  refine LW.rd hL rfl (Wants.free rfl) rfl (Rd.build (v := .agg #[.int .i64 1, .int .i64 1]) rfl (fun _ => by kernel_rfl)) ?_
  obtain ⟨b1, hb_b1⟩ : ∃ b1, b1 = World.size w1 := ⟨_, rfl⟩
  obtain ⟨w2, hw_w2⟩ : ∃ w2, w2 = World.alloc w1 (.cells #[.int .i64 0, .int .i64 0] 56) := ⟨_, rfl⟩
  refine LW.val hL rfl (Wants.free rfl) rfl (boxE hb_b1 hw_w2 (Vl.alloc (z := .agg #[.int .i64 0, .int .i64 0]) (by kernel_rfl))) ?_
  have hB := Boxes.alloc (cs := [.int .i64 0, .int .i64 0]) (T := 56) (Boxes.nil w1) hb_b1 hw_w2
  have hlo_b1 := sil_lo (Chg.refl [] w1) hb_b1
  have hc_w2 := sil_alloc (Chg.refl [] w1) hw_w2
  obtain ⟨b2, hb_b2⟩ : ∃ b2, b2 = World.size w2 := ⟨_, rfl⟩
  obtain ⟨w3, hw_w3⟩ : ∃ w3, w3 = World.alloc w2 (.cells #[.int .i64 0, .int .i64 0] 56) := ⟨_, rfl⟩
  refine LW.val hL rfl (Wants.free rfl) rfl (boxE hb_b2 hw_w3 (Vl.alloc (z := .agg #[.int .i64 0, .int .i64 0]) (by kernel_rfl))) ?_
  replace hB := Boxes.alloc (cs := [.int .i64 0, .int .i64 0]) (T := 56) hB hb_b2 hw_w3
  have hlo_b2 := sil_lo hc_w2 hb_b2
  have hc_w3 := sil_alloc hc_w2 hw_w3
  obtain ⟨w4, hw_w4⟩ : ∃ x, x = setCells w3 (⟨b1, 0, none⟩ : Addr) 0 [.int .i64 13, .int .i64 0] := ⟨_, rfl⟩
  refine LW.eff hL rfl (Wants.free rfl) rfl (stNE hw_w4 (Ef.stN (cs := [.int .i64 13, .int .i64 0]) rfl rfl (by kernel_rfl) (List.forall_mem_cons.2 ⟨rfl, (List.forall_mem_cons.2 ⟨rfl, (List.forall_mem_nil _)⟩)⟩) (has_of (hB.at (i := 1) rfl) (by simp)) (free_of' (hB.at (i := 1) rfl)))) ?_
  replace hB : Boxes w4 [(b2, [.int .i64 0, .int .i64 0], 56), (b1, [.int .i64 13, .int .i64 0], 56)] := Boxes.store (vs := [.int .i64 13, .int .i64 0]) (i := 1) (o := 0) hB rfl rfl rfl rfl hw_w4
  have hc_w4 := sil_new hc_w3 (sil_cN hw_w4) hlo_b1
  obtain ⟨w5, hw_w5⟩ : ∃ x, x = setCells w4 (⟨b2, 0, none⟩ : Addr) 0 [.int .i64 1, .int .i64 1] := ⟨_, rfl⟩
  refine LW.eff hL rfl (Wants.free rfl) rfl (stNE hw_w5 (Ef.stN (cs := [.int .i64 1, .int .i64 1]) rfl rfl (by kernel_rfl) (List.forall_mem_cons.2 ⟨rfl, (List.forall_mem_cons.2 ⟨rfl, (List.forall_mem_nil _)⟩)⟩) (has_of (hB.at (i := 0) rfl) (by simp)) (free_of' (hB.at (i := 0) rfl)))) ?_
  replace hB : Boxes w5 [(b2, [.int .i64 1, .int .i64 1], 56), (b1, [.int .i64 13, .int .i64 0], 56)] := Boxes.store (vs := [.int .i64 1, .int .i64 1]) (i := 0) (o := 0) hB rfl rfl rfl rfl hw_w5
  have hc_w5 := sil_new hc_w4 (sil_cN hw_w5) hlo_b2
  refine LW.nil hL rfl ?_
  refine NW.then ?_
  refine CW.seq ?_
  refine CW.region fun L hL => ?_
  refine LW.rd hL rfl (Wants.free rfl) rfl (Rd.move (v := .pointer r2) rfl) ?_
  refine LW.rd hL rfl (Wants.free rfl) rfl (Rd.ldN (cs := [.int .i64 13, .int .i64 0]) rfl (by kernel_rfl) (by kernel_rfl) (cellsS (box_cells (hB.at (i := 1) rfl) rfl))) ?_
  replace h := h b2 b1 w5 ⟨hlo_b2, lt_of_heap (hB.at (i := 0) rfl)⟩ ⟨hlo_b1, lt_of_heap (hB.at (i := 1) rfl)⟩ hc_w5
  refine LW.call hL rfl (Wants.free rfl) rfl (Cl.fn (f := 36) rfl Try.func36 (by kernel_rfl) rfl) h (fun e w6 h_ => ?_)
  clear h
  obtain ⟨r4, rfl, h⟩ := h_
  obtain ⟨hsm1, h⟩ := h
  replace hB := Boxes.same hB (by exact hsm1)
  refine ⟨_, rfl, ?_⟩
  refine LW.rd hL rfl (Wants.free rfl) rfl (Rd.assign (v := .int .i64 r4) rfl) ?_
  refine LW.nil hL rfl ?_
  refine NW.then ?_
  refine CW.seq ?_
  refine CW.region fun L hL => ?_
  refine LW.rd hL rfl (Wants.free rfl) rfl (Rd.move (v := .pointer r2) rfl) ?_
  refine LW.rd hL rfl (Wants.free rfl) rfl (Rd.ldN (cs := [.int .i64 1, .int .i64 1]) rfl (by kernel_rfl) (by kernel_rfl) (cellsS (box_cells (hB.at (i := 0) rfl) rfl))) ?_
  refine LW.rd hL rfl (Wants.free rfl) rfl (Rd.ldN (cs := [.int .i64 13, .int .i64 0]) rfl (by kernel_rfl) (by kernel_rfl) (cellsS (box_cells (hB.at (i := 1) rfl) rfl))) ?_
  obtain ⟨b3, hb_b3⟩ : ∃ b3, b3 = World.size w6 := ⟨_, rfl⟩
  obtain ⟨w7, hw_w7⟩ : ∃ w7, w7 = World.alloc w6 (.cells #[.int .i64 13, .int .i64 0] 56) := ⟨_, rfl⟩
  replace h := h b3 hb_b3 w7 hw_w7
  refine LW.val hL rfl (Wants.free rfl) rfl (sliceE (n := 1) hb_b3 hw_w7 (fun w => Vl.buildSlice (vs := [(0, .agg #[.int .i64 13, .int .i64 0])]) rfl (by kernel_rfl))) ?_
  replace hB := hB.grow hw_w7
  refine LW.rd hL rfl (Wants.free rfl) rfl (Rd.build (v := .agg #[.int .i64 1, .int .i64 1, .slice (some (⟨b3, 0, none⟩ : Addr)) 1 1]) rfl (fun _ => by kernel_rfl)) ?_
  obtain ⟨b4, hb_b4⟩ : ∃ b4, b4 = World.size w7 := ⟨_, rfl⟩
  obtain ⟨w8, hw_w8⟩ : ∃ w8, w8 = World.alloc w7 (.cells #[.int .i64 1, .int .i64 1, .slice (some (⟨b3, 0, none⟩ : Addr)) 1 1] 81) := ⟨_, rfl⟩
  replace h := h b4 hb_b4 w8 hw_w8
  refine LW.val hL rfl (Wants.free rfl) rfl (sliceE (n := 1) hb_b4 hw_w8 (fun w => Vl.buildSlice (vs := [(0, .agg #[.int .i64 1, .int .i64 1, .slice (some (⟨b3, 0, none⟩ : Addr)) 1 1])]) rfl (by kernel_rfl))) ?_
  replace hB := hB.grow hw_w8
  refine LW.call hL rfl (Wants.free rfl) rfl (Cl.fn (f := 38) rfl Try.func38 (by kernel_rfl) rfl) h (fun e w9 h_ => ?_)
  clear h
  obtain ⟨r5, rfl, h⟩ := h_
  obtain ⟨hsm2, h⟩ := h
  replace hB := Boxes.same (hB.sel [0] (by decide) rfl) (by exact hsm2)
  refine ⟨_, rfl, ?_⟩
  refine LW.rd hL rfl (Wants.free rfl) rfl (Rd.assign (v := .int .i64 r5) rfl) ?_
  refine LW.nil hL rfl ?_
  refine NW.then ?_
  refine CW.seq ?_
  refine CW.region fun L hL => ?_
  refine LW.rd hL rfl (Wants.free rfl) rfl (Rd.move (v := .pointer r2) rfl) ?_
  refine LW.rd hL rfl (Wants.free rfl) rfl (Rd.ldN (cs := [.int .i64 1, .int .i64 1]) rfl (by kernel_rfl) (by kernel_rfl) (cellsS (box_cells (hB.at (i := 0) rfl) rfl))) ?_
  refine LW.call hL rfl (Wants.free rfl) rfl (Cl.fn (f := 28) rfl Try.func28 (by kernel_rfl) rfl) h (fun e w10 h_ => ?_)
  clear h
  obtain ⟨r6, r7, rfl, h⟩ := h_
  refine ⟨_, rfl, ?_⟩
  refine LW.rd hL rfl (Wants.free rfl) rfl (Rd.move (v := .tuple #[.int .u32 r6, .int .i64 r7]) rfl) ?_
  refine LW.rd hL rfl (Wants.free rfl) rfl (Rd.extract (v := .int .u32 r6) rfl rfl) ?_
  refine LW.rd hL rfl (Wants.free rfl) rfl (Rd.extract (v := .int .i64 r7) rfl rfl) ?_
  refine LW.rd hL rfl (Wants.free rfl) rfl (Rd.assign (v := .int .u32 r6) rfl) ?_
  refine LW.rd hL rfl (Wants.free rfl) rfl (Rd.assign (v := .int .i64 r7) rfl) ?_
  refine LW.nil hL rfl ?_
  refine NW.then ?_
  refine CW.seq ?_
  refine CW.region fun L hL => ?_
  refine LW.rd hL rfl (Wants.free rfl) rfl (Rd.move (v := .int .i64 r3) rfl) ?_
  refine LW.rd hL rfl (Wants.free rfl) rfl (Rd.bin (v := .bool (r3 == 0)) rfl rfl (fun w => by kernel_rfl)) ?_
  refine LW.rd hL rfl (Wants.free rfl) rfl (Rd.move (v := .bool (r3 == 0)) rfl) ?_
  suffices K1 : L 6 [(0, .bool false), (6, .int .i64 r5), (7, .int .u32 r6), (8, .int .i64 r7), (37, .bool (r3 == 0 && r4 == 0))] w10 by
    rcases Bool.eq_false_or_eq_true (r3 == 0) with hb2 | hb2
    · skip
      refine LW.rd hL rfl (Wants.on rfl rfl rfl rfl rfl hb2) rfl (Rd.move (v := .int .i64 r4) rfl) ?_
      refine LW.rd hL rfl (Wants.on rfl rfl rfl rfl rfl hb2) rfl (Rd.bin (v := .bool (r4 == 0)) rfl rfl (fun w => by kernel_rfl)) ?_
      refine LW.rd hL rfl (Wants.free rfl) rfl (Rd.pickT rfl hb2 rfl) ?_
      exact LW.sub hL (by exact ⟨rfl, rfl, rfl, rfl, (by rw [hb2]; rfl), trivial⟩) K1
    · skip
      refine LW.skip hL rfl (Skips.on rfl rfl rfl rfl rfl hb2) rfl ?_
      refine LW.skip hL rfl (Skips.on rfl rfl rfl rfl rfl hb2) rfl ?_
      refine LW.rd hL rfl (Wants.free rfl) rfl (Rd.pickF rfl hb2 rfl) ?_
      exact LW.sub hL (by exact ⟨rfl, rfl, rfl, rfl, (by rw [hb2]; rfl), trivial⟩) K1
  refine LW.rd hL rfl (Wants.free rfl) rfl (Rd.move (v := .bool (r3 == 0 && r4 == 0)) rfl) ?_
  suffices K2 : L 10 [(0, .bool false), (7, .int .u32 r6), (8, .int .i64 r7), (41, .bool ((r3 == 0 && r4 == 0) && r5 == 0))] w10 by
    rcases Bool.eq_false_or_eq_true (r3 == 0 && r4 == 0) with hb4 | hb4
    · skip
      refine LW.rd hL rfl (Wants.on rfl rfl rfl rfl rfl hb4) rfl (Rd.move (v := .int .i64 r5) rfl) ?_
      refine LW.rd hL rfl (Wants.on rfl rfl rfl rfl rfl hb4) rfl (Rd.bin (v := .bool (r5 == 0)) rfl rfl (fun w => by kernel_rfl)) ?_
      refine LW.rd hL rfl (Wants.free rfl) rfl (Rd.pickT rfl hb4 rfl) ?_
      exact LW.sub hL (by exact ⟨rfl, rfl, rfl, (by rw [hb4]; rfl), trivial⟩) K2
    · skip
      refine LW.skip hL rfl (Skips.on rfl rfl rfl rfl rfl hb4) rfl ?_
      refine LW.skip hL rfl (Skips.on rfl rfl rfl rfl rfl hb4) rfl ?_
      refine LW.rd hL rfl (Wants.free rfl) rfl (Rd.pickF rfl hb4 rfl) ?_
      exact LW.sub hL (by exact ⟨rfl, rfl, rfl, (by rw [hb4]; rfl), trivial⟩) K2
  refine LW.rd hL rfl (Wants.free rfl) rfl (Rd.move (v := .bool ((r3 == 0 && r4 == 0) && r5 == 0)) rfl) ?_
  suffices K3 : L 14 [(0, .bool false), (8, .int .i64 r7), (45, .bool (((r3 == 0 && r4 == 0) && r5 == 0) && r6 == 1))] w10 by
    rcases Bool.eq_false_or_eq_true ((r3 == 0 && r4 == 0) && r5 == 0) with hb6 | hb6
    · skip
      refine LW.rd hL rfl (Wants.on rfl rfl rfl rfl rfl hb6) rfl (Rd.move (v := .int .u32 r6) rfl) ?_
      refine LW.rd hL rfl (Wants.on rfl rfl rfl rfl rfl hb6) rfl (Rd.bin (v := .bool (r6 == 1)) rfl rfl (fun w => by kernel_rfl)) ?_
      refine LW.rd hL rfl (Wants.free rfl) rfl (Rd.pickT rfl hb6 rfl) ?_
      exact LW.sub hL (by exact ⟨rfl, rfl, (by rw [hb6]; rfl), trivial⟩) K3
    · skip
      refine LW.skip hL rfl (Skips.on rfl rfl rfl rfl rfl hb6) rfl ?_
      refine LW.skip hL rfl (Skips.on rfl rfl rfl rfl rfl hb6) rfl ?_
      refine LW.rd hL rfl (Wants.free rfl) rfl (Rd.pickF rfl hb6 rfl) ?_
      exact LW.sub hL (by exact ⟨rfl, rfl, (by rw [hb6]; rfl), trivial⟩) K3
  refine LW.rd hL rfl (Wants.free rfl) rfl (Rd.move (v := .bool (((r3 == 0 && r4 == 0) && r5 == 0) && r6 == 1)) rfl) ?_
  suffices K4 : L 18 [(0, .bool false), (49, .bool ((((r3 == 0 && r4 == 0) && r5 == 0) && r6 == 1) && r7 == 0))] w10 by
    rcases Bool.eq_false_or_eq_true (((r3 == 0 && r4 == 0) && r5 == 0) && r6 == 1) with hb8 | hb8
    · skip
      refine LW.rd hL rfl (Wants.on rfl rfl rfl rfl rfl hb8) rfl (Rd.move (v := .int .i64 r7) rfl) ?_
      refine LW.rd hL rfl (Wants.on rfl rfl rfl rfl rfl hb8) rfl (Rd.bin (v := .bool (r7 == 0)) rfl rfl (fun w => by kernel_rfl)) ?_
      refine LW.rd hL rfl (Wants.free rfl) rfl (Rd.pickT rfl hb8 rfl) ?_
      exact LW.sub hL (by exact ⟨rfl, (by rw [hb8]; rfl), trivial⟩) K4
    · skip
      refine LW.skip hL rfl (Skips.on rfl rfl rfl rfl rfl hb8) rfl ?_
      refine LW.skip hL rfl (Skips.on rfl rfl rfl rfl rfl hb8) rfl ?_
      refine LW.rd hL rfl (Wants.free rfl) rfl (Rd.pickF rfl hb8 rfl) ?_
      exact LW.sub hL (by exact ⟨rfl, (by rw [hb8]; rfl), trivial⟩) K4
  refine LW.rd hL rfl (Wants.free rfl) rfl (Rd.assign (v := .bool ((((r3 == 0 && r4 == 0) && r5 == 0) && r6 == 1) && r7 == 0)) rfl) ?_
  refine LW.nil hL rfl ?_
  refine NW.then ?_
  refine CW.ret ?_
  exact res1 rfl rfl ⟨((((r3 == 0 && r4 == 0) && r5 == 0) && r6 == 1) && r7 == 0), rfl, h⟩

/- (*pomander/flow.Flow).Apply -/
def W_flow_Flow_Apply (f1 : Option Addr) (l1 : Option Addr) (l1n : Nat) (l1c : Nat) (w : World) (R : Int → World → Prop) : Prop :=
  Calls Try.prog 73 #[.pointer f1] w fun e w1 => ∃ (r2 : Bool), e = .returned (.bool r2) ∧ ((r2 = true → R 1 w1) ∧ (r2 = false → Calls Try.prog 81 #[.pointer f1, .slice l1 l1n l1c] w1 fun e w2 => ∃ (r3 : Bool), e = .returned (.bool r3) ∧ (((!r3) = true → R 2 w2) ∧ ((!r3) = false → ∀ b1 : Nat, b1 = World.size w2 → ∀ w3 : World, w3 = World.alloc w2 (.map #[] 0) → (∃ (I1 : Int → Int → World → Prop) (m1 : Int → Int → World → Nat), I1 0 0 w3 ∧ ∀ (x1 : Int) (x2 : Int) (w4 : World), I1 x1 x2 w4 → ((decide (x2 < (l1n : Int))) = true → ∃ J1 : Int → World → Prop, (∀ (x3 : Int) (w5 : World), J1 x3 w5 → (I1 x3 (IntKind.wrap .i64 (x2 + 1)) w5 ∧ m1 x3 (IntKind.wrap .i64 (x2 + 1)) w5 < m1 x1 x2 w4)) ∧ (∃ a1 : Addr, l1 = some a1 ∧ (0 : Int) ≤ x2 ∧ x2 < (l1n : Int) ∧ (∃ (t1 : Int) (t2 : Int) (t3 : Option Addr) (t3n : Nat) (t3c : Nat), CellsAt w4 (a1.add (Int.toNat x2 * 3)) 0 [.int .i64 t1, .int .i64 t2, .slice t3 t3n t3c] ∧ (∀ (b2 : Nat) (w7 : World), (w4.heap.size ≤ b2 ∧ b2 < w7.heap.size) → Chg [] w4 w7 → ((((t1 == 0) && (t2 == 0)) = true → J1 x1 w7) ∧ (((t1 == 0) && (t2 == 0)) = false → Calls Try.prog 82 #[.pointer f1, .slice t3 t3n t3c] w7 fun e w8 => ∃ (r4 : Int), e = .returned (.int .u32 r4) ∧ (Same w7 w8 [b2] ∧ (Calls Try.prog 77 #[.pointer f1, .int .u32 r4] w8 fun e w9 => ∃ (r5 : Int), e = .returned (.int .i64 r5) ∧ (Same w8 w9 [b2] ∧ (((!(r5 == 0)) = true → R r5 w9) ∧ ((!(r5 == 0)) = false → ∃ w10 : World, (Instr.mapUpdate 143 (.map (some b1)) (.agg #[.int .i64 t1, .int .i64 t2]) (.int .u32 r4)).run Try.prog w9 = .ok () w10 ∧ (J1 x1 w10)))))))))))) ∧ ((decide (x2 < (l1n : Int))) = false → ∃ (it1 : Option Addr) (w11 : World), (Instr.range 143 (.map (some b1))).run Try.prog w4 = .ok (.pointer it1) w11 ∧ (∃ (I2 : World → Prop) (m2 : World → Nat), I2 w11 ∧ ∀ (w12 : World), I2 w12 → ∃ (nx1 : Array Value) (ok1 : Bool) (w13 : World), (Instr.next (.pointer it1) false 0).run Try.prog w12 = .ok (.tuple nx1) w13 ∧ nx1[0]? = some (.bool ok1) ∧ ((ok1 = true → ∃ (k1 : Int) (k2 : Int) (v1 : Int), (Instr.entry (.pointer it1)).run Try.prog w13 = .ok (.tuple #[.agg #[.int .i64 k1, .int .i64 k2], .int .u32 v1]) w13 ∧ (∀ (b3 : Nat) (w15 : World), (w13.heap.size ≤ b3 ∧ b3 < w15.heap.size) → Chg [] w13 w15 → (Calls Try.prog 78 #[.pointer f1, .agg #[.int .i64 k1, .int .i64 k2], .int .u32 v1] w15 fun e w16 => e = .returned (.tuple #[]) ∧ ((I2 w16 ∧ m2 w16 < m2 w12))))) ∧ (ok1 = false → R 0 w13)))))))))
set_option maxRecDepth 100000 in
theorem go_flow_Flow_Apply (f1 : Option Addr) (l1 : Option Addr) (l1n : Nat) (l1c : Nat) (w : World) (R : Int → World → Prop) (h : W_flow_Flow_Apply f1 l1 l1n l1c w R) : Calls Try.prog 38 #[.pointer f1, .slice l1 l1n l1c] w (fun e w' => ∃ (r1 : Int), e = .returned (.int .i64 r1) ∧ R r1 w') := by
  unfold W_flow_Flow_Apply at h
  refine enter (N := 57) Try.func38 rfl rfl ?_
  refine CW.seq ?_
  refine CW.region fun L hL => ?_
  refine LW.rd hL rfl (Wants.free rfl) rfl (Rd.assign (v := .int .i64 0) rfl) ?_
  refine LW.nil hL rfl ?_
  refine NW.then ?_
  refine CW.seq ?_
  refine CW.block ?_
  refine CW.seq ?_
  refine CW.region fun L hL => ?_
  refine LW.rd hL rfl (Wants.free rfl) rfl (Rd.move (v := .pointer f1) rfl) ?_
  refine LW.call hL rfl (Wants.free rfl) rfl (Cl.fn (f := 73) rfl Try.func73 (by kernel_rfl) rfl) h (fun e w1 h_ => ?_)
  clear h
  obtain ⟨r2, rfl, h⟩ := h_
  refine ⟨_, rfl, ?_⟩
  refine LW.rd hL rfl (Wants.free rfl) rfl (Rd.assign (v := .bool r2) rfl) ?_
  refine LW.nil hL rfl ?_
  refine NW.then ?_
  refine CW.cond rfl (fun hb1 => ?_) (fun hb1 => ?_)
  · replace h := h.1 hb1
    refine CW.seq ?_
    refine CW.region fun L hL => ?_
    refine LW.rd hL rfl (Wants.free rfl) rfl (Rd.assign (v := .int .i64 1) rfl) ?_
    refine LW.nil hL rfl ?_
    refine NW.then ?_
    refine CW.ret ?_
    refine RW.block ?_
    refine RW.then ?_
    exact res1 rfl rfl ⟨1, rfl, h⟩
  · replace h := h.2 hb1
    refine CW.seq ?_
    refine CW.region fun L hL => ?_
    refine LW.rd hL rfl (Wants.free rfl) rfl (Rd.move (v := .pointer f1) rfl) ?_
    refine LW.rd hL rfl (Wants.free rfl) rfl (Rd.move (v := .slice l1 l1n l1c) rfl) ?_
    refine LW.call hL rfl (Wants.free rfl) rfl (Cl.fn (f := 81) rfl Try.func81 (by kernel_rfl) rfl) h (fun e w2 h_ => ?_)
    clear h
    obtain ⟨r3, rfl, h⟩ := h_
    refine ⟨_, rfl, ?_⟩
    refine LW.rd hL rfl (Wants.free rfl) rfl (Rd.un (v := .bool (!r3)) rfl (fun _ => by kernel_rfl)) ?_
    refine LW.rd hL rfl (Wants.free rfl) rfl (Rd.assign (v := .bool (!r3)) rfl) ?_
    refine LW.nil hL rfl ?_
    refine NW.then ?_
    refine CW.cond rfl (fun hb2 => ?_) (fun hb2 => ?_)
    · replace h := h.1 hb2
      refine CW.seq ?_
      refine CW.region fun L hL => ?_
      refine LW.rd hL rfl (Wants.free rfl) rfl (Rd.assign (v := .int .i64 2) rfl) ?_
      refine LW.nil hL rfl ?_
      refine NW.then ?_
      refine CW.ret ?_
      refine RW.block ?_
      refine RW.then ?_
      exact res1 rfl rfl ⟨2, rfl, h⟩
    · replace h := h.2 hb2
      refine CW.skip ?_
      refine NW.block ?_
      refine NW.then ?_
      refine CW.seq ?_
      refine CW.region fun L hL => ?_
      obtain ⟨b1, hb_b1⟩ : ∃ b1, b1 = World.size w2 := ⟨_, rfl⟩
      obtain ⟨w3, hw_w3⟩ : ∃ w3, w3 = World.alloc w2 (.map #[] 0) := ⟨_, rfl⟩
      replace h := h b1 hb_b1 w3 hw_w3
      refine LW.val hL rfl (Wants.free rfl) rfl (mapE hb_b1 hw_w3 Vl.makeMap) ?_
      refine LW.rd hL rfl (Wants.free rfl) rfl (Rd.assign (v := .map (some b1)) rfl) ?_
      refine LW.nil hL rfl ?_
      refine NW.then ?_
      refine CW.seq ?_
      refine CW.seq ?_
      refine CW.region fun L hL => ?_
      refine LW.rd hL rfl (Wants.free rfl) rfl (Rd.move (v := .slice l1 l1n l1c) rfl) ?_
      refine LW.rd hL rfl (Wants.free rfl) rfl (Rd.builtin (v := .int .i64 (l1n : Int)) rfl (fun _ _ => by kernel_rfl)) ?_
      refine LW.rd hL rfl (Wants.free rfl) rfl (Rd.move (v := .int .i64 0) rfl) ?_
      refine LW.nil hL rfl ?_
      refine NW.then ?_
      refine CW.block ?_
      obtain ⟨I1, m1, hI1, h⟩ := h
      refine CW.loop (S := Int × Int) (fun s1 => [(0, .pointer f1), (5, .map (some b1)), (21, .slice l1 l1n l1c), (22, .int .i64 (l1n : Int)), (4, .int .i64 s1.1), (23, .int .i64 s1.2)]) (fun s1 w4 => I1 s1.1 s1.2 w4) (fun s1 w4 => m1 s1.1 s1.2 w4) (0, 0) (by exact ⟨rfl, rfl, rfl, rfl, rfl, rfl, trivial⟩) hI1 (fun s1 w4 hI1 => ?_)
      obtain ⟨x1, x2⟩ := s1; replace h := h x1 x2 w4 hI1
      refine CW.seq ?_
      refine CW.region fun L hL => ?_
      refine LW.rd hL rfl (Wants.free rfl) rfl (Rd.bin (v := .bool (decide (x2 < (l1n : Int)))) rfl rfl (fun w => by kernel_rfl)) ?_
      refine LW.nil hL rfl ?_
      refine NW.then ?_
      refine CW.seq ?_
      refine CW.cond rfl (fun hb3 => ?_) (fun hb3 => ?_)
      · replace h := h.1 hb3
        refine CW.skip ?_
        refine NW.then ?_
        obtain ⟨J1, hJ1, h⟩ := h
        refine CW.cut (S := Int) (fun x3 => [(0, .pointer f1), (5, .map (some b1)), (21, .slice l1 l1n l1c), (22, .int .i64 (l1n : Int)), (23, .int .i64 x2), (4, .int .i64 x3)]) (fun x3 w5 => J1 x3 w5) (fun x3 w5 h_ => ?_) ?_
        · replace h := hJ1 x3 w5 h_; clear h_
          refine CW.region fun L hL => ?_
          refine LW.rd hL rfl (Wants.free rfl) rfl (Rd.bin (v := .int .i64 (IntKind.wrap .i64 (x2 + 1))) rfl rfl (fun w => by kernel_rfl)) ?_
          refine LW.rd hL rfl (Wants.free rfl) rfl (Rd.move (v := .int .i64 (IntKind.wrap .i64 (x2 + 1))) rfl) ?_
          refine LW.nil hL rfl ?_
          exact NW.loop (S := Int × Int) (Ek := fun s1 => [(0, .pointer f1), (5, .map (some b1)), (21, .slice l1 l1n l1c), (22, .int .i64 (l1n : Int)), (4, .int .i64 s1.1), (23, .int .i64 s1.2)]) (x3, IntKind.wrap .i64 (x2 + 1)) (by exact ⟨rfl, rfl, rfl, rfl, rfl, rfl, trivial⟩) h
        · skip
          refine CW.block ?_
          refine CW.seq ?_
          refine CW.region fun L hL => ?_
          obtain ⟨a1, he1, hi1, hi2, h⟩ := h
          refine LW.rd hL rfl (Wants.free rfl) rfl (Rd.iaS (q := a1) (sz := 3) (by rw [← he1]; rfl) rfl Try.underlying25 (by kernel_rfl) hi1 hi2) ?_
          obtain ⟨t1, t2, t3, t3n, t3c, hc1, h⟩ := h
          refine LW.rd hL rfl (Wants.free rfl) rfl (Rd.ldN (cs := [.int .i64 t1, .int .i64 t2, .slice t3 t3n t3c]) rfl (by kernel_rfl) (by kernel_rfl) (cellsS hc1)) ?_
          obtain ⟨b2, hb_b2⟩ : ∃ b2, b2 = World.size w4 := ⟨_, rfl⟩
          obtain ⟨w6, hw_w6⟩ : ∃ w6, w6 = World.alloc w4 (.cells #[.int .i64 0, .int .i64 0, .slice none 0 0] 81) := ⟨_, rfl⟩
          refine LW.val hL rfl (Wants.free rfl) rfl (boxE hb_b2 hw_w6 (Vl.alloc (z := .agg #[.int .i64 0, .int .i64 0, .slice none 0 0]) (by kernel_rfl))) ?_
          have hB := Boxes.alloc (cs := [.int .i64 0, .int .i64 0, .slice none 0 0]) (T := 81) (Boxes.nil w4) hb_b2 hw_w6
          have hlo_b2 := sil_lo (Chg.refl [] w4) hb_b2
          have hc_w6 := sil_alloc (Chg.refl [] w4) hw_w6
          obtain ⟨w7, hw_w7⟩ : ∃ x, x = setCells w6 (⟨b2, 0, none⟩ : Addr) 0 [.int .i64 t1, .int .i64 t2, .slice t3 t3n t3c] := ⟨_, rfl⟩
          refine LW.eff hL rfl (Wants.free rfl) rfl (stNE hw_w7 (Ef.stN (cs := [.int .i64 t1, .int .i64 t2, .slice t3 t3n t3c]) rfl rfl (by kernel_rfl) (List.forall_mem_cons.2 ⟨rfl, (List.forall_mem_cons.2 ⟨rfl, (List.forall_mem_cons.2 ⟨rfl, (List.forall_mem_nil _)⟩)⟩)⟩) (has_of (hB.at (i := 0) rfl) (by simp)) (free_of' (hB.at (i := 0) rfl)))) ?_
          replace hB : Boxes w7 [(b2, [.int .i64 t1, .int .i64 t2, .slice t3 t3n t3c], 81)] := Boxes.store (vs := [.int .i64 t1, .int .i64 t2, .slice t3 t3n t3c]) (i := 0) (o := 0) hB rfl rfl rfl rfl hw_w7
          have hc_w7 := sil_new hc_w6 (sil_cN hw_w7) hlo_b2
          refine LW.nil hL rfl ?_
          refine NW.then ?_
          refine CW.seq ?_
          refine CW.seq ?_
          refine CW.region fun L hL => ?_
          refine LW.rd hL rfl (Wants.free rfl) rfl (Rd.fa (v := .pointer (some (⟨b2, 0, none⟩ : Addr))) rfl (fun _ => by kernel_rfl)) ?_
          refine LW.rd hL rfl (Wants.free rfl) rfl (Rd.ldN (cs := [.int .i64 t1, .int .i64 t2]) rfl (by kernel_rfl) (by kernel_rfl) (cellsS (box_cells (hB.at (i := 0) rfl) rfl))) ?_
          refine LW.rd hL rfl (Wants.free rfl) rfl (Rd.build (v := .agg #[.int .i64 0, .int .i64 0]) rfl (fun _ => by kernel_rfl)) ?_
          refine LW.rd hL rfl (Wants.free rfl) rfl (Rd.bin (v := .bool ((t1 == 0) && (t2 == 0))) rfl rfl (fun w => eqS_56 _ _ _ _ w)) ?_
          refine LW.nil hL rfl ?_
          refine NW.then ?_
          replace h := h b2 w7 ⟨hlo_b2, lt_of_heap (hB.at (i := 0) rfl)⟩ hc_w7
          refine CW.cond rfl (fun hb4 => ?_) (fun hb4 => ?_)
          · replace h := h.1 hb4
            refine CW.exit ?_
            refine XW.then ?_
            refine XW.hit ?_
            exact NW.cut (S := Int) (Ek := fun x3 => [(0, .pointer f1), (5, .map (some b1)), (21, .slice l1 l1n l1c), (22, .int .i64 (l1n : Int)), (23, .int .i64 x2), (4, .int .i64 x3)]) x1 (by exact ⟨rfl, rfl, rfl, rfl, rfl, rfl, trivial⟩) h
          · replace h := h.2 hb4
            refine CW.skip ?_
            refine NW.then ?_
            refine CW.seq ?_
            refine CW.region fun L hL => ?_
            refine LW.rd hL rfl (Wants.free rfl) rfl (Rd.move (v := .pointer f1) rfl) ?_
            refine LW.rd hL rfl (Wants.free rfl) rfl (Rd.fa (v := .pointer (some (⟨b2, 2, none⟩ : Addr))) rfl (fun _ => by kernel_rfl)) ?_
            refine LW.rd hL rfl (Wants.free rfl) rfl (Rd.ld (v := .slice t3 t3n t3c) rfl (by kernel_rfl) (eqs (box_cell (hB.at (i := 0) rfl) rfl))) ?_
            refine LW.call hL rfl (Wants.free rfl) rfl (Cl.fn (f := 82) rfl Try.func82 (by kernel_rfl) rfl) h (fun e w8 h_ => ?_)
            clear h
            obtain ⟨r4, rfl, h⟩ := h_
            obtain ⟨hsm1, h⟩ := h
            replace hB := Boxes.same hB (by exact hsm1)
            refine ⟨_, rfl, ?_⟩
            refine LW.rd hL rfl (Wants.free rfl) rfl (Rd.assign (v := .int .u32 r4) rfl) ?_
            refine LW.nil hL rfl ?_
            refine NW.then ?_
            refine CW.seq ?_
            refine CW.seq ?_
            refine CW.region fun L hL => ?_
            refine LW.rd hL rfl (Wants.free rfl) rfl (Rd.move (v := .pointer f1) rfl) ?_
            refine LW.rd hL rfl (Wants.free rfl) rfl (Rd.move (v := .int .u32 r4) rfl) ?_
            refine LW.call hL rfl (Wants.free rfl) rfl (Cl.fn (f := 77) rfl Try.func77 (by kernel_rfl) rfl) h (fun e w9 h_ => ?_)
            clear h
            obtain ⟨r5, rfl, h⟩ := h_
            obtain ⟨hsm2, h⟩ := h
            replace hB := Boxes.same hB (by exact hsm2)
            refine ⟨_, rfl, ?_⟩
            refine LW.rd hL rfl (Wants.free rfl) rfl (Rd.assign (v := .int .i64 r5) rfl) ?_
            refine LW.nil hL rfl ?_
            refine NW.then ?_
            refine CW.seq ?_
            refine CW.region fun L hL => ?_
            refine LW.rd hL rfl (Wants.free rfl) rfl (Rd.move (v := .int .i64 r5) rfl) ?_
            refine LW.rd hL rfl (Wants.free rfl) rfl (Rd.bin (v := .bool (!(r5 == 0))) rfl rfl (fun w => by kernel_rfl)) ?_
            refine LW.nil hL rfl ?_
            refine NW.then ?_
            refine CW.cond rfl (fun hb5 => ?_) (fun hb5 => ?_)
            · replace h := h.1 hb5
              refine CW.seq ?_
              refine CW.region fun L hL => ?_
              refine LW.rd hL rfl (Wants.free rfl) rfl (Rd.move (v := .int .i64 r5) rfl) ?_
              refine LW.rd hL rfl (Wants.free rfl) rfl (Rd.assign (v := .int .i64 r5) rfl) ?_
              refine LW.nil hL rfl ?_
              refine NW.then ?_
              refine CW.ret ?_
              refine RW.then ?_
              refine RW.block ?_
              refine RW.then ?_
              refine RW.then ?_
              refine RW.block ?_
              refine RW.then ?_
              exact res1 rfl rfl ⟨r5, rfl, h⟩
            · replace h := h.2 hb5
              refine CW.skip ?_
              refine NW.then ?_
              refine CW.region fun L hL => ?_
              refine LW.rd hL rfl (Wants.free rfl) rfl (Rd.move (v := .map (some b1)) rfl) ?_
              refine LW.rd hL rfl (Wants.free rfl) rfl (Rd.fa (v := .pointer (some (⟨b2, 0, none⟩ : Addr))) rfl (fun _ => by kernel_rfl)) ?_
              refine LW.rd hL rfl (Wants.free rfl) rfl (Rd.ldN (cs := [.int .i64 t1, .int .i64 t2]) rfl (by kernel_rfl) (by kernel_rfl) (cellsS (box_cells (hB.at (i := 0) rfl) rfl))) ?_
              refine LW.rd hL rfl (Wants.free rfl) rfl (Rd.move (v := .int .u32 r4) rfl) ?_
              obtain ⟨w10, hm1, h⟩ := h
              refine LW.eff hL rfl (Wants.free rfl) rfl (Ef.mapUpdate rfl rfl rfl hm1) ?_
              refine LW.nil hL rfl ?_
              refine NW.block ?_
              exact NW.cut (S := Int) (Ek := fun x3 => [(0, .pointer f1), (5, .map (some b1)), (21, .slice l1 l1n l1c), (22, .int .i64 (l1n : Int)), (23, .int .i64 x2), (4, .int .i64 x3)]) x1 (by exact ⟨rfl, rfl, rfl, rfl, rfl, rfl, trivial⟩) h
      · replace h := h.2 hb3
        refine CW.exit ?_
        refine XW.then ?_
        refine XW.then ?_
        refine XW.hit ?_
        refine NW.then ?_
        refine CW.seq ?_
        refine CW.seq ?_
        refine CW.region fun L hL => ?_
        refine LW.rd hL rfl (Wants.free rfl) rfl (Rd.move (v := .map (some b1)) rfl) ?_
        obtain ⟨it1, w11, hm2, h⟩ := h
        refine LW.val hL rfl (Wants.free rfl) rfl (Vl.range (v := .pointer it1) rfl hm2) ?_
        refine LW.nil hL rfl ?_
        refine NW.then ?_
        refine CW.block ?_
        obtain ⟨I2, m2, hI2, h⟩ := h
        refine CW.loop (S := Unit) (fun s2 => [(0, .pointer f1), (4, .int .i64 x1), (47, .pointer it1)]) (fun s2 w12 => I2 w12) (fun s2 w12 => m2 w12) () (by exact ⟨rfl, rfl, rfl, trivial⟩) hI2 (fun s2 w12 hI2 => ?_)
        replace h := h w12 hI2
        refine CW.seq ?_
        refine CW.region fun L hL => ?_
        obtain ⟨nx1, ok1, w13, hm3, hk1, h⟩ := h
        refine LW.val hL rfl (Wants.free rfl) rfl (Vl.next (v := .tuple nx1) rfl hm3) ?_
        refine LW.rd hL rfl (Wants.free rfl) rfl (Rd.extract (v := .bool ok1) rfl hk1) ?_
        refine LW.nil hL rfl ?_
        refine NW.then ?_
        refine CW.seq ?_
        refine CW.cond rfl (fun hb6 => ?_) (fun hb6 => ?_)
        · replace h := h.1 hb6
          refine CW.skip ?_
          refine NW.then ?_
          refine CW.block ?_
          refine CW.seq ?_
          refine CW.region fun L hL => ?_
          obtain ⟨k1, k2, v1, hl1, h⟩ := h
          refine LW.rd hL rfl (Wants.free rfl) rfl (Rd.entry (v := .tuple #[.agg #[.int .i64 k1, .int .i64 k2], .int .u32 v1]) rfl (fun _ e => e ▸ hl1)) ?_
          refine LW.rd hL rfl (Wants.free rfl) rfl (Rd.extract (v := .agg #[.int .i64 k1, .int .i64 k2]) rfl rfl) ?_
          refine LW.rd hL rfl (Wants.free rfl) rfl (Rd.extract (v := .int .u32 v1) rfl rfl) ?_
          obtain ⟨b3, hb_b3⟩ : ∃ b3, b3 = World.size w13 := ⟨_, rfl⟩
          obtain ⟨w14, hw_w14⟩ : ∃ w14, w14 = World.alloc w13 (.cells #[.int .i64 0, .int .i64 0] 56) := ⟨_, rfl⟩
          refine LW.val hL rfl (Wants.free rfl) rfl (boxE hb_b3 hw_w14 (Vl.alloc (z := .agg #[.int .i64 0, .int .i64 0]) (by kernel_rfl))) ?_
          have hB := Boxes.alloc (cs := [.int .i64 0, .int .i64 0]) (T := 56) (Boxes.nil w13) hb_b3 hw_w14
          have hlo_b3 := sil_lo (Chg.refl [] w13) hb_b3
          have hc_w14 := sil_alloc (Chg.refl [] w13) hw_w14
          obtain ⟨w15, hw_w15⟩ : ∃ x, x = setCells w14 (⟨b3, 0, none⟩ : Addr) 0 [.int .i64 k1, .int .i64 k2] := ⟨_, rfl⟩
          refine LW.eff hL rfl (Wants.free rfl) rfl (stNE hw_w15 (Ef.stN (cs := [.int .i64 k1, .int .i64 k2]) rfl rfl (by kernel_rfl) (List.forall_mem_cons.2 ⟨rfl, (List.forall_mem_cons.2 ⟨rfl, (List.forall_mem_nil _)⟩)⟩) (has_of (hB.at (i := 0) rfl) (by simp)) (free_of' (hB.at (i := 0) rfl)))) ?_
          replace hB : Boxes w15 [(b3, [.int .i64 k1, .int .i64 k2], 56)] := Boxes.store (vs := [.int .i64 k1, .int .i64 k2]) (i := 0) (o := 0) hB rfl rfl rfl rfl hw_w15
          have hc_w15 := sil_new hc_w14 (sil_cN hw_w15) hlo_b3
          refine LW.rd hL rfl (Wants.free rfl) rfl (Rd.assign (v := .int .u32 v1) rfl) ?_
          refine LW.nil hL rfl ?_
          refine NW.then ?_
          refine CW.region fun L hL => ?_
          refine LW.rd hL rfl (Wants.free rfl) rfl (Rd.move (v := .pointer f1) rfl) ?_
          refine LW.rd hL rfl (Wants.free rfl) rfl (Rd.ldN (cs := [.int .i64 k1, .int .i64 k2]) rfl (by kernel_rfl) (by kernel_rfl) (cellsS (box_cells (hB.at (i := 0) rfl) rfl))) ?_
          refine LW.rd hL rfl (Wants.free rfl) rfl (Rd.move (v := .int .u32 v1) rfl) ?_
          replace h := h b3 w15 ⟨hlo_b3, lt_of_heap (hB.at (i := 0) rfl)⟩ hc_w15
          refine LW.call hL rfl (Wants.free rfl) rfl (Cl.fn (f := 78) rfl Try.func78 (by kernel_rfl) rfl) h (fun e w16 h_ => ?_)
          clear h
          obtain ⟨rfl, h⟩ := h_
          refine ⟨_, rfl, ?_⟩
          refine LW.nil hL rfl ?_
          refine NW.block ?_
          exact NW.loop (S := Unit) (Ek := fun s2 => [(0, .pointer f1), (4, .int .i64 x1), (47, .pointer it1)]) () (by exact ⟨rfl, rfl, rfl, trivial⟩) h
        · replace h := h.2 hb6
          refine CW.exit ?_
          refine XW.then ?_
          refine XW.then ?_
          refine XW.hit ?_
          refine NW.then ?_
          refine CW.seq ?_
          refine CW.region fun L hL => ?_
          refine LW.rd hL rfl (Wants.free rfl) rfl (Rd.assign (v := .int .i64 0) rfl) ?_
          refine LW.nil hL rfl ?_
          refine NW.then ?_
          refine CW.ret ?_
          exact res1 rfl rfl ⟨0, rfl, h⟩

/- (pomander/pomanderref12.Flow).Get -/
def W_pomanderref12_Flow_Get (f1 : Int) (f2 : Int) (f3 : Int) (f4 : Option Addr) (f4n : Nat) (f4c : Nat) (f5 : Option Addr) (f5n : Nat) (f5c : Nat) (p1 : Int) (p2 : Int) (w : World) (R : Int → World → Prop) : Prop :=
  ∀ (b2 b1 : Nat) (w2 : World), (w.heap.size ≤ b2 ∧ b2 < w2.heap.size) → (w.heap.size ≤ b1 ∧ b1 < w2.heap.size) → Chg [] w w2 → (∃ (I1 : Int → Int → World → Prop) (m1 : Int → Int → World → Nat), I1 0 0 w2 ∧ ∀ (x1 : Int) (i1 : Int) (w3 : World), I1 x1 i1 w3 → ((decide (i1 < (f5n : Int))) = true → ∃ a1 : Addr, f5 = some a1 ∧ (0 : Int) ≤ i1 ∧ i1 < (f5n : Int) ∧ (∀ (w4 : World), Chg [] w3 w4 → (∃ (t1 : Int) (t2 : Int), CellsAt w4 (a1.add (Int.toNat i1 * 3)) 0 [.int .i64 t1, .int .i64 t2] ∧ ((((t1 == p1) && (t2 == p2)) = true → ∃ (t3 : Int), w4.cell? ((a1.add (Int.toNat i1 * 3)).add 2) = some (.int .u32 t3) ∧ (R t3 w4)) ∧ (((t1 == p1) && (t2 == p2)) = false → (I1 x1 (IntKind.wrap .i64 (i1 + 1)) w4 ∧ m1 x1 (IntKind.wrap .i64 (i1 + 1)) w4 < m1 x1 i1 w3)))))) ∧ ((decide (i1 < (f5n : Int))) = false → R 0 w3))
set_option maxRecDepth 100000 in
theorem go_pomanderref12_Flow_Get (f1 : Int) (f2 : Int) (f3 : Int) (f4 : Option Addr) (f4n : Nat) (f4c : Nat) (f5 : Option Addr) (f5n : Nat) (f5c : Nat) (p1 : Int) (p2 : Int) (w : World) (R : Int → World → Prop) (h : W_pomanderref12_Flow_Get f1 f2 f3 f4 f4n f4c f5 f5n f5c p1 p2 w R) : Calls Try.prog 30 #[.agg #[.int .i64 f1, .int .i64 f2, .int .i64 f3, .slice f4 f4n f4c, .slice f5 f5n f5c], .agg #[.int .i64 p1, .int .i64 p2]] w (fun e w' => ∃ (r1 : Int), e = .returned (.int .u32 r1) ∧ R r1 w') := by
  unfold W_pomanderref12_Flow_Get at h
  refine enter (N := 27) Try.func30 rfl rfl ?_
  refine CW.seq ?_
  refine CW.region fun L hL => ?_
  obtain ⟨b1, hb_b1⟩ : ∃ b1, b1 = World.size w := ⟨_, rfl⟩
  obtain ⟨w1, hw_w1⟩ : ∃ w1, w1 = World.alloc w (.cells #[.int .i64 f1, .int .i64 f2, .int .i64 f3, .slice f4 f4n f4c, .slice f5 f5n f5c] 36) := ⟨_, rfl⟩
  refine LW.val hL rfl (Wants.free rfl) rfl (boxE hb_b1 hw_w1 (Vl.box (v := .agg #[.int .i64 f1, .int .i64 f2, .int .i64 f3, .slice f4 f4n f4c, .slice f5 f5n f5c]) rfl)) ?_
  have hB := Boxes.alloc (cs := [.int .i64 f1, .int .i64 f2, .int .i64 f3, .slice f4 f4n f4c, .slice f5 f5n f5c]) (T := 36) (Boxes.nil w) hb_b1 hw_w1
  have hlo_b1 := sil_lo (Chg.refl [] w) hb_b1
  have hc_w1 := sil_alloc (Chg.refl [] w) hw_w1
  obtain ⟨b2, hb_b2⟩ : ∃ b2, b2 = World.size w1 := ⟨_, rfl⟩
  obtain ⟨w2, hw_w2⟩ : ∃ w2, w2 = World.alloc w1 (.cells #[.int .i64 p1, .int .i64 p2] 56) := ⟨_, rfl⟩
  refine LW.val hL rfl (Wants.free rfl) rfl (boxE hb_b2 hw_w2 (Vl.box (v := .agg #[.int .i64 p1, .int .i64 p2]) rfl)) ?_
  replace hB := Boxes.alloc (cs := [.int .i64 p1, .int .i64 p2]) (T := 56) hB hb_b2 hw_w2
  have hlo_b2 := sil_lo hc_w1 hb_b2
  have hc_w2 := sil_alloc hc_w1 hw_w2
  refine LW.rd hL rfl (Wants.free rfl) rfl (Rd.assign (v := .int .u32 0) rfl) ?_
  refine LW.nil hL rfl ?_
  refine NW.then ?_
  refine CW.seq ?_
  refine CW.seq ?_
  refine CW.region fun L hL => ?_
  refine LW.rd hL rfl (Wants.free rfl) rfl (Rd.assign (v := .int .i64 0) rfl) ?_
  refine LW.nil hL rfl ?_
  refine NW.then ?_
  refine CW.block ?_
  replace h := h b2 b1 w2 ⟨hlo_b2, lt_of_heap (hB.at (i := 0) rfl)⟩ ⟨hlo_b1, lt_of_heap (hB.at (i := 1) rfl)⟩ hc_w2
  obtain ⟨I1, m1, hI1, h⟩ := h
  refine CW.loop (S := Int × Int) (fun s1 => [(2, .pointer (some (⟨b1, 0, none⟩ : Addr))), (3, .pointer (some (⟨b2, 0, none⟩ : Addr))), (4, .int .u32 s1.1), (5, .int .i64 s1.2)]) (fun s1 w3 => I1 s1.1 s1.2 w3 ∧ Boxes w3 [(b1, [.int .i64 f1, .int .i64 f2, .int .i64 f3, .slice f4 f4n f4c, .slice f5 f5n f5c], 36), (b2, [.int .i64 p1, .int .i64 p2], 56)]) (fun s1 w3 => m1 s1.1 s1.2 w3) (0, 0) (by exact ⟨rfl, rfl, rfl, rfl, trivial⟩) ⟨hI1, (hB.sel [1, 0] (by decide) rfl)⟩ (fun s1 w3 hI1 => ?_)
  obtain ⟨hI1, hB⟩ := hI1
  obtain ⟨x1, i1⟩ := s1; replace h := h x1 i1 w3 hI1
  refine CW.seq ?_
  refine CW.seq ?_
  refine CW.region fun L hL => ?_
  refine LW.rd hL rfl (Wants.free rfl) rfl (Rd.move (v := .int .i64 i1) rfl) ?_
  refine LW.rd hL rfl (Wants.free rfl) rfl (Rd.fa (v := .pointer (some (⟨b1, 4, none⟩ : Addr))) rfl (fun _ => by kernel_rfl)) ?_
  refine LW.rd hL rfl (Wants.free rfl) rfl (Rd.ld (v := .slice f5 f5n f5c) rfl (by kernel_rfl) (eqs (box_cell (hB.at (i := 0) rfl) rfl))) ?_
  refine LW.rd hL rfl (Wants.free rfl) rfl (Rd.builtin (v := .int .i64 (f5n : Int)) rfl (fun _ _ => by kernel_rfl)) ?_
  refine LW.rd hL rfl (Wants.free rfl) rfl (Rd.bin (v := .bool (decide (i1 < (f5n : Int)))) rfl rfl (fun w => by kernel_rfl)) ?_
  refine LW.nil hL rfl ?_
  refine NW.then ?_
  refine CW.cond rfl (fun hb1 => ?_) (fun hb1 => ?_)
  · replace h := h.1 hb1
    refine CW.skip ?_
    refine NW.then ?_
    refine CW.seq ?_
    refine CW.block ?_
    refine CW.seq ?_
    obtain ⟨w4, hw_w4⟩ : ∃ x, x = World.drew w3 := ⟨_, rfl⟩
    have hc_w4 := sil_drew (Chg.refl [] w3) hw_w4
    replace hB := hB.drew hw_w4
    refine CW.drawn (fun w => w = w4) 8 (by kernel_rfl) fun H hH => ?_
    rw [← hw_w4]
    refine HW.pure (i := 0) hH rfl (by kernel_rfl) (Wants.free rfl) rfl (fun _ => rfl) (Rd.fa (v := .pointer (some (⟨b1, 4, none⟩ : Addr))) rfl (fun _ => by kernel_rfl)) ?_
    refine HW.take (i := 1) hH rfl (by kernel_rfl) (by kernel_rfl) (Wants.free rfl) rfl (fun _ => rfl) (Rd.ld (v := .slice f5 f5n f5c) rfl (by kernel_rfl) (eqs (box_cell (hB.at (i := 0) rfl) rfl))) ?_
    refine HW.pure (i := 2) hH rfl (by kernel_rfl) (Wants.free rfl) rfl (fun _ => rfl) (Rd.move (v := .int .i64 i1) rfl) ?_
    obtain ⟨a1, he1, hi1, hi2, h⟩ := h
    refine HW.pure (i := 3) hH rfl (by kernel_rfl) (Wants.free rfl) rfl (fun _ => rfl) (Rd.iaS (q := a1) (sz := 3) (by rw [← he1]; rfl) rfl Try.underlying34 (by kernel_rfl) hi1 hi2) ?_
    refine HW.pure (i := 4) hH rfl (by kernel_rfl) (Wants.free rfl) rfl (fun _ => rfl) (Rd.fa (v := .pointer (some (a1.add (Int.toNat i1 * 3)))) rfl (fun _ => by kernel_rfl)) ?_
    replace h := h  w4  hc_w4
    obtain ⟨t1, t2, hc1, h⟩ := h
    refine HW.take (i := 5) hH rfl (by kernel_rfl) (by kernel_rfl) (Wants.free rfl) rfl (fun _ => rfl) (Rd.ldN (cs := [.int .i64 t1, .int .i64 t2]) rfl (by kernel_rfl) (by kernel_rfl) (cellsS hc1)) ?_
    refine HW.take (i := 6) hH rfl (by kernel_rfl) (by kernel_rfl) (Wants.free rfl) rfl (fun _ => rfl) (Rd.ldN (cs := [.int .i64 p1, .int .i64 p2]) rfl (by kernel_rfl) (by kernel_rfl) (cellsS (box_cells (hB.at (i := 1) rfl) rfl))) ?_
    refine HW.pure (i := 7) hH rfl (by kernel_rfl) (Wants.free rfl) rfl (fun _ => rfl) (Rd.bin (v := .bool ((t1 == p1) && (t2 == p2))) rfl rfl (fun w => eqS_56 _ _ _ _ w)) ?_
    refine HW.done hH (by kernel_rfl) ?_
    refine NW.then ?_
    refine CW.cond rfl (fun hb2 => ?_) (fun hb2 => ?_)
    · replace h := h.1 hb2
      refine CW.seq ?_
      refine CW.region fun L hL => ?_
      refine LW.rd hL rfl (Wants.free rfl) rfl (Rd.fa (v := .pointer (some (⟨b1, 4, none⟩ : Addr))) rfl (fun _ => by kernel_rfl)) ?_
      refine LW.rd hL rfl (Wants.free rfl) rfl (Rd.ld (v := .slice f5 f5n f5c) rfl (by kernel_rfl) (eqs (box_cell (hB.at (i := 0) rfl) rfl))) ?_
      refine LW.rd hL rfl (Wants.free rfl) rfl (Rd.move (v := .int .i64 i1) rfl) ?_
      refine LW.rd hL rfl (Wants.free rfl) rfl (Rd.iaS (q := a1) (sz := 3) (by rw [← he1]; rfl) rfl Try.underlying34 (by kernel_rfl) hi1 hi2) ?_
      refine LW.rd hL rfl (Wants.free rfl) rfl (Rd.fa (v := .pointer (some ((a1.add (Int.toNat i1 * 3)).add 2))) rfl (fun _ => by kernel_rfl)) ?_
      obtain ⟨t3, hc2, h⟩ := h
      refine LW.rd hL rfl (Wants.free rfl) rfl (Rd.ld (v := .int .u32 t3) rfl (by kernel_rfl) (eqs hc2)) ?_
      refine LW.rd hL rfl (Wants.free rfl) rfl (Rd.assign (v := .int .u32 t3) rfl) ?_
      refine LW.nil hL rfl ?_
      refine NW.then ?_
      refine CW.ret ?_
      refine RW.block ?_
      refine RW.then ?_
      refine RW.then ?_
      refine RW.block ?_
      refine RW.then ?_
      exact res1 rfl rfl ⟨t3, rfl, h⟩
    · replace h := h.2 hb2
      refine CW.skip ?_
      refine NW.block ?_
      refine NW.then ?_
      refine CW.region fun L hL => ?_
      refine LW.rd hL rfl (Wants.free rfl) rfl (Rd.move (v := .int .i64 i1) rfl) ?_
      refine LW.rd hL rfl (Wants.free rfl) rfl (Rd.bin (v := .int .i64 (IntKind.wrap .i64 (i1 + 1))) rfl rfl (fun w => by kernel_rfl)) ?_
      refine LW.rd hL rfl (Wants.free rfl) rfl (Rd.assign (v := .int .i64 (IntKind.wrap .i64 (i1 + 1))) rfl) ?_
      refine LW.nil hL rfl ?_
      exact NW.loop (S := Int × Int) (Ek := fun s1 => [(2, .pointer (some (⟨b1, 0, none⟩ : Addr))), (3, .pointer (some (⟨b2, 0, none⟩ : Addr))), (4, .int .u32 s1.1), (5, .int .i64 s1.2)]) (x1, IntKind.wrap .i64 (i1 + 1)) (by exact ⟨rfl, rfl, rfl, rfl, trivial⟩) ⟨⟨h.1, hB⟩, h.2⟩
  · replace h := h.2 hb1
    refine CW.exit ?_
    refine XW.then ?_
    refine XW.then ?_
    refine XW.hit ?_
    refine NW.then ?_
    refine CW.seq ?_
    refine CW.region fun L hL => ?_
    refine LW.rd hL rfl (Wants.free rfl) rfl (Rd.assign (v := .int .u32 0) rfl) ?_
    refine LW.nil hL rfl ?_
    refine NW.then ?_
    refine CW.ret ?_
    exact res1 rfl rfl ⟨0, rfl, h⟩

/- (pomander/pomanderref12.Flow).MayAll -/
def W_pomanderref12_Flow_MayAll (f1 : Int) (f2 : Int) (f3 : Int) (f4 : Option Addr) (f4n : Nat) (f4c : Nat) (f5 : Option Addr) (f5n : Nat) (f5c : Nat) (l1 : Option Addr) (l1n : Nat) (l1c : Nat) (w : World) (R : Bool → World → Prop) : Prop :=
  ∀ (b1 : Nat) (w1 : World), (w.heap.size ≤ b1 ∧ b1 < w1.heap.size) → Chg [] w w1 → (∃ (I1 : Bool → Int → World → Prop) (m1 : Bool → Int → World → Nat), I1 false 0 w1 ∧ ∀ (x1 : Bool) (i1 : Int) (w2 : World), I1 x1 i1 w2 → ((decide (i1 < (l1n : Int))) = true → ∃ a1 : Addr, l1 = some a1 ∧ (0 : Int) ≤ i1 ∧ i1 < (l1n : Int) ∧ (∀ (w3 : World), Chg [] w2 w3 → (∃ (t1 : Int) (t2 : Int), CellsAt w3 (a1.add (Int.toNat i1 * 3)) 0 [.int .i64 t1, .int .i64 t2] ∧ (∃ J1 : Bool → World → Prop, (∀ (b2 : Bool) (w4 : World), J1 b2 w4 → (b2 = true → R false w4) ∧ (b2 = false → ∃ (I2 : Bool → Int → World → Prop) (m2 : Bool → Int → World → Nat), I2 x1 0 w4 ∧ ∀ (x2 : Bool) (k1 : Int) (w6 : World), I2 x2 k1 w6 → ∃ (t5 : Option Addr) (t5n : Nat) (t5c : Nat), w6.cell? ((a1.add (Int.toNat i1 * 3)).add 2) = some (.slice t5 t5n t5c) ∧ (((decide (k1 < (t5n : Int))) = true → ∀ (w7 : World), Chg [] w6 w7 → (∃ (t6 : Option Addr) (t6n : Nat) (t6c : Nat), w7.cell? ((a1.add (Int.toNat i1 * 3)).add 2) = some (.slice t6 t6n t6c) ∧ (∃ a2 : Addr, t6 = some a2 ∧ (0 : Int) ≤ k1 ∧ k1 < (t6n : Int) ∧ (∃ (t7 : Int) (t8 : Int), CellsAt w7 (a2.add (Int.toNat k1 * 2)) 0 [.int .i64 t7, .int .i64 t8] ∧ (Calls Try.prog 29 #[.agg #[.int .i64 f1, .int .i64 f2, .int .i64 f3, .slice f4 f4n f4c, .slice f5 f5n f5c], .agg #[.int .i64 t7, .int .i64 t8]] w7 fun e w8 => ∃ (r3 : Bool), e = .returned (.bool r3) ∧ (Same w7 w8 [b1] ∧ (((!r3) = true → R false w8) ∧ ((!r3) = false → (I2 x2 (IntKind.wrap .i64 (k1 + 1)) w8 ∧ m2 x2 (IntKind.wrap .i64 (k1 + 1)) w8 < m2 x2 k1 w6))))))))) ∧ ((decide (k1 < (t5n : Int))) = false → (I1 x2 (IntKind.wrap .i64 (i1 + 1)) w6 ∧ m1 x2 (IntKind.wrap .i64 (i1 + 1)) w6 < m1 x1 i1 w2))))) ∧ (((!((t1 == 0) && (t2 == 0))) = true → ∃ (t3 : Int) (t4 : Int), CellsAt w3 (a1.add (Int.toNat i1 * 3)) 0 [.int .i64 t3, .int .i64 t4] ∧ (Calls Try.prog 29 #[.agg #[.int .i64 f1, .int .i64 f2, .int .i64 f3, .slice f4 f4n f4c, .slice f5 f5n f5c], .agg #[.int .i64 t3, .int .i64 t4]] w3 fun e w5 => ∃ (r2 : Bool), e = .returned (.bool r2) ∧ (Same w3 w5 [b1] ∧ (J1 (!r2) w5)))) ∧ ((!((t1 == 0) && (t2 == 0))) = false → J1 false w3)))))) ∧ ((decide (i1 < (l1n : Int))) = false → R true w2))
set_option maxRecDepth 100000 in
theorem go_pomanderref12_Flow_MayAll (f1 : Int) (f2 : Int) (f3 : Int) (f4 : Option Addr) (f4n : Nat) (f4c : Nat) (f5 : Option Addr) (f5n : Nat) (f5c : Nat) (l1 : Option Addr) (l1n : Nat) (l1c : Nat) (w : World) (R : Bool → World → Prop) (h : W_pomanderref12_Flow_MayAll f1 f2 f3 f4 f4n f4c f5 f5n f5c l1 l1n l1c w R) : Calls Try.prog 70 #[.agg #[.int .i64 f1, .int .i64 f2, .int .i64 f3, .slice f4 f4n f4c, .slice f5 f5n f5c], .slice l1 l1n l1c] w (fun e w' => ∃ (r1 : Bool), e = .returned (.bool r1) ∧ R r1 w') := by
  unfold W_pomanderref12_Flow_MayAll at h
  refine enter (N := 51) Try.func70 rfl rfl ?_
  refine CW.seq ?_
  refine CW.region fun L hL => ?_
  obtain ⟨b1, hb_b1⟩ : ∃ b1, b1 = World.size w := ⟨_, rfl⟩
  obtain ⟨w1, hw_w1⟩ : ∃ w1, w1 = World.alloc w (.cells #[.int .i64 f1, .int .i64 f2, .int .i64 f3, .slice f4 f4n f4c, .slice f5 f5n f5c] 36) := ⟨_, rfl⟩
  refine LW.val hL rfl (Wants.free rfl) rfl (boxE hb_b1 hw_w1 (Vl.box (v := .agg #[.int .i64 f1, .int .i64 f2, .int .i64 f3, .slice f4 f4n f4c, .slice f5 f5n f5c]) rfl)) ?_
  have hB := Boxes.alloc (cs := [.int .i64 f1, .int .i64 f2, .int .i64 f3, .slice f4 f4n f4c, .slice f5 f5n f5c]) (T := 36) (Boxes.nil w) hb_b1 hw_w1
  have hlo_b1 := sil_lo (Chg.refl [] w) hb_b1
  have hc_w1 := sil_alloc (Chg.refl [] w) hw_w1
  refine LW.rd hL rfl (Wants.free rfl) rfl (Rd.assign (v := .bool false) rfl) ?_
  refine LW.nil hL rfl ?_
  refine NW.then ?_
  refine CW.seq ?_
  refine CW.seq ?_
  refine CW.region fun L hL => ?_
  refine LW.rd hL rfl (Wants.free rfl) rfl (Rd.assign (v := .int .i64 0) rfl) ?_
  refine LW.nil hL rfl ?_
  refine NW.then ?_
  refine CW.block ?_
  replace h := h b1 w1 ⟨hlo_b1, lt_of_heap (hB.at (i := 0) rfl)⟩ hc_w1
  obtain ⟨I1, m1, hI1, h⟩ := h
  refine CW.loop (S := Bool × Int) (fun s1 => [(1, .slice l1 l1n l1c), (2, .pointer (some (⟨b1, 0, none⟩ : Addr))), (4, .bool s1.1), (5, .int .i64 s1.2)]) (fun s1 w2 => I1 s1.1 s1.2 w2 ∧ Boxes w2 [(b1, [.int .i64 f1, .int .i64 f2, .int .i64 f3, .slice f4 f4n f4c, .slice f5 f5n f5c], 36)]) (fun s1 w2 => m1 s1.1 s1.2 w2) (false, 0) (by exact ⟨rfl, rfl, rfl, rfl, trivial⟩) ⟨hI1, hB⟩ (fun s1 w2 hI1 => ?_)
  obtain ⟨hI1, hB⟩ := hI1
  obtain ⟨x1, i1⟩ := s1; replace h := h x1 i1 w2 hI1
  refine CW.seq ?_
  refine CW.seq ?_
  refine CW.region fun L hL => ?_
  refine LW.rd hL rfl (Wants.free rfl) rfl (Rd.move (v := .int .i64 i1) rfl) ?_
  refine LW.rd hL rfl (Wants.free rfl) rfl (Rd.move (v := .slice l1 l1n l1c) rfl) ?_
  refine LW.rd hL rfl (Wants.free rfl) rfl (Rd.builtin (v := .int .i64 (l1n : Int)) rfl (fun _ _ => by kernel_rfl)) ?_
  refine LW.rd hL rfl (Wants.free rfl) rfl (Rd.bin (v := .bool (decide (i1 < (l1n : Int)))) rfl rfl (fun w => by kernel_rfl)) ?_
  refine LW.nil hL rfl ?_
  refine NW.then ?_
  refine CW.cond rfl (fun hb1 => ?_) (fun hb1 => ?_)
  · replace h := h.1 hb1
    refine CW.skip ?_
    refine NW.then ?_
    refine CW.seq ?_
    refine CW.block ?_
    refine CW.seq ?_
    refine CW.seq ?_
    obtain ⟨w3, hw_w3⟩ : ∃ x, x = World.drew w2 := ⟨_, rfl⟩
    have hc_w3 := sil_drew (Chg.refl [] w2) hw_w3
    replace hB := hB.drew hw_w3
    refine CW.drawn (fun w => w = w3) 14 (by kernel_rfl) fun H hH => ?_
    rw [← hw_w3]
    refine HW.pure (i := 0) hH rfl (by kernel_rfl) (Wants.free rfl) rfl (fun _ => rfl) (Rd.move (v := .slice l1 l1n l1c) rfl) ?_
    refine HW.pure (i := 1) hH rfl (by kernel_rfl) (Wants.free rfl) rfl (fun _ => rfl) (Rd.move (v := .int .i64 i1) rfl) ?_
    obtain ⟨a1, he1, hi1, hi2, h⟩ := h
    refine HW.pure (i := 2) hH rfl (by kernel_rfl) (Wants.free rfl) rfl (fun _ => rfl) (Rd.iaS (q := a1) (sz := 3) (by rw [← he1]; rfl) rfl Try.underlying25 (by kernel_rfl) hi1 hi2) ?_
    refine HW.pure (i := 3) hH rfl (by kernel_rfl) (Wants.free rfl) rfl (fun _ => rfl) (Rd.fa (v := .pointer (some (a1.add (Int.toNat i1 * 3)))) rfl (fun _ => by kernel_rfl)) ?_
    replace h := h  w3  hc_w3
    obtain ⟨t1, t2, hc1, h⟩ := h
    refine HW.take (i := 4) hH rfl (by kernel_rfl) (by kernel_rfl) (Wants.free rfl) rfl (fun _ => rfl) (Rd.ldN (cs := [.int .i64 t1, .int .i64 t2]) rfl (by kernel_rfl) (by kernel_rfl) (cellsS hc1)) ?_
    refine HW.pure (i := 5) hH rfl (by kernel_rfl) (Wants.free rfl) rfl (fun _ => rfl) (Rd.build (v := .agg #[.int .i64 0, .int .i64 0]) rfl (fun _ => by kernel_rfl)) ?_
    refine HW.pure (i := 6) hH rfl (by kernel_rfl) (Wants.free rfl) rfl (fun _ => rfl) (Rd.bin (v := .bool (!((t1 == 0) && (t2 == 0)))) rfl rfl (fun w => neS_56 _ _ _ _ w)) ?_
    refine HW.pure (i := 7) hH rfl (by kernel_rfl) (Wants.free rfl) rfl (fun _ => rfl) (Rd.move (v := .bool (!((t1 == 0) && (t2 == 0)))) rfl) ?_
    obtain ⟨J1, hJ1, h1_J1, h0_J1⟩ := h
    suffices K1 : ∀ (b2 : Bool) (w4 : World), Boxes w4 [(b1, [.int .i64 f1, .int .i64 f2, .int .i64 f3, .slice f4 f4n f4c, .slice f5 f5n f5c], 36)] → J1 b2 w4 → H 0 #[true, true, true, true, true, true, true, true, true, true, true, true, true, true, true, true, true] [(1, .slice l1 l1n l1c), (2, .pointer (some (⟨b1, 0, none⟩ : Addr))), (4, .bool x1), (5, .int .i64 i1), (29, .bool b2)] w4 by
      rcases Bool.eq_false_or_eq_true (!((t1 == 0) && (t2 == 0))) with hb2 | hb2
      · have h := h1_J1 hb2
        refine HW.take (i := 8) hH rfl (by kernel_rfl) (by kernel_rfl) (Wants.on rfl rfl rfl rfl rfl hb2) rfl (fun _ => rfl) (Rd.ldN (cs := [.int .i64 f1, .int .i64 f2, .int .i64 f3, .slice f4 f4n f4c, .slice f5 f5n f5c]) rfl (by kernel_rfl) (by kernel_rfl) (cellsS (box_cells (hB.at (i := 0) rfl) rfl))) ?_
        refine HW.pure (i := 9) hH rfl (by kernel_rfl) (Wants.on rfl rfl rfl rfl rfl hb2) rfl (fun _ => rfl) (Rd.move (v := .slice l1 l1n l1c) rfl) ?_
        refine HW.pure (i := 10) hH rfl (by kernel_rfl) (Wants.on rfl rfl rfl rfl rfl hb2) rfl (fun _ => rfl) (Rd.move (v := .int .i64 i1) rfl) ?_
        refine HW.pure (i := 11) hH rfl (by kernel_rfl) (Wants.on rfl rfl rfl rfl rfl hb2) rfl (fun _ => rfl) (Rd.iaS (q := a1) (sz := 3) (by rw [← he1]; rfl) rfl Try.underlying25 (by kernel_rfl) hi1 hi2) ?_
        refine HW.pure (i := 12) hH rfl (by kernel_rfl) (Wants.on rfl rfl rfl rfl rfl hb2) rfl (fun _ => rfl) (Rd.fa (v := .pointer (some (a1.add (Int.toNat i1 * 3)))) rfl (fun _ => by kernel_rfl)) ?_
        obtain ⟨t3, t4, hc2, h⟩ := h
        refine HW.take (i := 13) hH rfl (by kernel_rfl) (by kernel_rfl) (Wants.on rfl rfl rfl rfl rfl hb2) rfl (fun _ => rfl) (Rd.ldN (cs := [.int .i64 t3, .int .i64 t4]) rfl (by kernel_rfl) (by kernel_rfl) (cellsS hc2)) ?_
        refine HW.call (i := 14) hH (by kernel_rfl) rfl (Wants.on rfl rfl rfl rfl rfl hb2) rfl (Cl.fn (f := 29) rfl Try.func29 (by kernel_rfl) rfl) h (fun e w5 h_ => ?_)
        clear h
        obtain ⟨r2, rfl, h⟩ := h_
        obtain ⟨hsm1, h⟩ := h
        replace hB := Boxes.same hB (by exact hsm1)
        refine ⟨_, rfl, (fun hc => by cases hc), ?_⟩
        refine HW.pure (i := 15) hH rfl (by kernel_rfl) (Wants.on rfl rfl rfl rfl rfl hb2) rfl (fun hc => by cases hc) (Rd.un (v := .bool (!r2)) rfl (fun _ => by kernel_rfl)) ?_
        refine HW.pure (i := 16) hH rfl (by kernel_rfl) (Wants.free rfl) rfl (fun hc => by cases hc) (Rd.pickT rfl hb2 rfl) ?_
        exact HW.sub hH (by exact ⟨rfl, rfl, rfl, rfl, rfl, trivial⟩) (K1 (!r2) w5 (by exact hB) h)
      · have h := h0_J1 hb2
        refine HW.skip (i := 8) hH rfl (by kernel_rfl) (Skips.on rfl rfl rfl rfl rfl hb2) rfl (fun _ => rfl) ?_
        refine HW.skip (i := 9) hH rfl (by kernel_rfl) (Skips.on rfl rfl rfl rfl rfl hb2) rfl (fun _ => rfl) ?_
        refine HW.skip (i := 10) hH rfl (by kernel_rfl) (Skips.on rfl rfl rfl rfl rfl hb2) rfl (fun _ => rfl) ?_
        refine HW.skip (i := 11) hH rfl (by kernel_rfl) (Skips.on rfl rfl rfl rfl rfl hb2) rfl (fun _ => rfl) ?_
        refine HW.skip (i := 12) hH rfl (by kernel_rfl) (Skips.on rfl rfl rfl rfl rfl hb2) rfl (fun _ => rfl) ?_
        refine HW.skip (i := 13) hH rfl (by kernel_rfl) (Skips.on rfl rfl rfl rfl rfl hb2) rfl (fun _ => rfl) ?_
        refine HW.skip1 (i := 14) hH (by kernel_rfl) rfl (Skips.on rfl rfl rfl rfl rfl hb2) rfl (fun hc => by cases hc) ?_
        refine HW.skip (i := 15) hH rfl (by kernel_rfl) (Skips.on rfl rfl rfl rfl rfl hb2) rfl (fun hc => by cases hc) ?_
        refine HW.pure (i := 16) hH rfl (by kernel_rfl) (Wants.free rfl) rfl (fun hc => by cases hc) (Rd.pickF rfl hb2 rfl) ?_
        exact HW.sub hH (by exact ⟨rfl, rfl, rfl, rfl, rfl, trivial⟩) (K1 false w3 (by exact hB) h)
    intro b2 w4 hB h_
    have h := hJ1 b2 w4 h_; clear h_
    refine HW.done hH (by kernel_rfl) ?_
    refine NW.then ?_
    refine CW.cond rfl (fun hb3 => ?_) (fun hb3 => ?_)
    · replace h := h.1 hb3
      refine CW.seq ?_
      refine CW.region fun L hL => ?_
      refine LW.rd hL rfl (Wants.free rfl) rfl (Rd.assign (v := .bool false) rfl) ?_
      refine LW.nil hL rfl ?_
      refine NW.then ?_
      refine CW.ret ?_
      refine RW.then ?_
      refine RW.block ?_
      refine RW.then ?_
      refine RW.then ?_
      refine RW.block ?_
      refine RW.then ?_
      exact res1 rfl rfl ⟨false, rfl, h⟩
    · replace h := h.2 hb3
      refine CW.skip ?_
      refine NW.then ?_
      refine CW.seq ?_
      refine CW.region fun L hL => ?_
      refine LW.rd hL rfl (Wants.free rfl) rfl (Rd.assign (v := .int .i64 0) rfl) ?_
      refine LW.nil hL rfl ?_
      refine NW.then ?_
      refine CW.block ?_
      obtain ⟨I2, m2, hI2, h⟩ := h
      refine CW.loop (S := Bool × Int) (fun s2 => [(1, .slice l1 l1n l1c), (2, .pointer (some (⟨b1, 0, none⟩ : Addr))), (5, .int .i64 i1), (4, .bool s2.1), (6, .int .i64 s2.2)]) (fun s2 w6 => I2 s2.1 s2.2 w6 ∧ Boxes w6 [(b1, [.int .i64 f1, .int .i64 f2, .int .i64 f3, .slice f4 f4n f4c, .slice f5 f5n f5c], 36)]) (fun s2 w6 => m2 s2.1 s2.2 w6) (x1, 0) (by exact ⟨rfl, rfl, rfl, rfl, rfl, trivial⟩) ⟨hI2, hB⟩ (fun s2 w6 hI2 => ?_)
      obtain ⟨hI2, hB⟩ := hI2
      obtain ⟨x2, k1⟩ := s2; replace h := h x2 k1 w6 hI2
      refine CW.seq ?_
      refine CW.seq ?_
      refine CW.region fun L hL => ?_
      refine LW.rd hL rfl (Wants.free rfl) rfl (Rd.move (v := .int .i64 k1) rfl) ?_
      refine LW.rd hL rfl (Wants.free rfl) rfl (Rd.move (v := .slice l1 l1n l1c) rfl) ?_
      refine LW.rd hL rfl (Wants.free rfl) rfl (Rd.move (v := .int .i64 i1) rfl) ?_
      refine LW.rd hL rfl (Wants.free rfl) rfl (Rd.iaS (q := a1) (sz := 3) (by rw [← he1]; rfl) rfl Try.underlying25 (by kernel_rfl) hi1 hi2) ?_
      refine LW.rd hL rfl (Wants.free rfl) rfl (Rd.fa (v := .pointer (some ((a1.add (Int.toNat i1 * 3)).add 2))) rfl (fun _ => by kernel_rfl)) ?_
      obtain ⟨t5, t5n, t5c, hc3, h⟩ := h
      refine LW.rd hL rfl (Wants.free rfl) rfl (Rd.ld (v := .slice t5 t5n t5c) rfl (by kernel_rfl) (eqs hc3)) ?_
      refine LW.rd hL rfl (Wants.free rfl) rfl (Rd.builtin (v := .int .i64 (t5n : Int)) rfl (fun _ _ => by kernel_rfl)) ?_
      refine LW.rd hL rfl (Wants.free rfl) rfl (Rd.bin (v := .bool (decide (k1 < (t5n : Int)))) rfl rfl (fun w => by kernel_rfl)) ?_
      refine LW.nil hL rfl ?_
      refine NW.then ?_
      refine CW.cond rfl (fun hb4 => ?_) (fun hb4 => ?_)
      · replace h := h.1 hb4
        refine CW.skip ?_
        refine NW.then ?_
        refine CW.seq ?_
        refine CW.block ?_
        refine CW.seq ?_
        obtain ⟨w7, hw_w7⟩ : ∃ x, x = World.drew w6 := ⟨_, rfl⟩
        have hc_w7 := sil_drew (Chg.refl [] w6) hw_w7
        replace hB := hB.drew hw_w7
        refine CW.drawn (fun w => w = w7) 9 (by kernel_rfl) fun H hH => ?_
        rw [← hw_w7]
        refine HW.take (i := 0) hH rfl (by kernel_rfl) (by kernel_rfl) (Wants.free rfl) rfl (fun _ => rfl) (Rd.ldN (cs := [.int .i64 f1, .int .i64 f2, .int .i64 f3, .slice f4 f4n f4c, .slice f5 f5n f5c]) rfl (by kernel_rfl) (by kernel_rfl) (cellsS (box_cells (hB.at (i := 0) rfl) rfl))) ?_
        refine HW.pure (i := 1) hH rfl (by kernel_rfl) (Wants.free rfl) rfl (fun _ => rfl) (Rd.move (v := .slice l1 l1n l1c) rfl) ?_
        refine HW.pure (i := 2) hH rfl (by kernel_rfl) (Wants.free rfl) rfl (fun _ => rfl) (Rd.move (v := .int .i64 i1) rfl) ?_
        refine HW.pure (i := 3) hH rfl (by kernel_rfl) (Wants.free rfl) rfl (fun _ => rfl) (Rd.iaS (q := a1) (sz := 3) (by rw [← he1]; rfl) rfl Try.underlying25 (by kernel_rfl) hi1 hi2) ?_
        refine HW.pure (i := 4) hH rfl (by kernel_rfl) (Wants.free rfl) rfl (fun _ => rfl) (Rd.fa (v := .pointer (some ((a1.add (Int.toNat i1 * 3)).add 2))) rfl (fun _ => by kernel_rfl)) ?_
        replace h := h  w7  hc_w7
        obtain ⟨t6, t6n, t6c, hc4, h⟩ := h
        refine HW.take (i := 5) hH rfl (by kernel_rfl) (by kernel_rfl) (Wants.free rfl) rfl (fun _ => rfl) (Rd.ld (v := .slice t6 t6n t6c) rfl (by kernel_rfl) (eqs hc4)) ?_
        refine HW.pure (i := 6) hH rfl (by kernel_rfl) (Wants.free rfl) rfl (fun _ => rfl) (Rd.move (v := .int .i64 k1) rfl) ?_
        obtain ⟨a2, he2, hi9, hi10, h⟩ := h
        refine HW.pure (i := 7) hH rfl (by kernel_rfl) (Wants.free rfl) rfl (fun _ => rfl) (Rd.iaS (q := a2) (sz := 2) (by rw [← he2]; rfl) rfl Try.underlying47 (by kernel_rfl) hi9 hi10) ?_
        obtain ⟨t7, t8, hc5, h⟩ := h
        refine HW.take (i := 8) hH rfl (by kernel_rfl) (by kernel_rfl) (Wants.free rfl) rfl (fun _ => rfl) (Rd.ldN (cs := [.int .i64 t7, .int .i64 t8]) rfl (by kernel_rfl) (by kernel_rfl) (cellsS hc5)) ?_
        refine HW.call (i := 9) hH (by kernel_rfl) rfl (Wants.free rfl) rfl (Cl.fn (f := 29) rfl Try.func29 (by kernel_rfl) rfl) h (fun e w8 h_ => ?_)
        clear h
        obtain ⟨r3, rfl, h⟩ := h_
        obtain ⟨hsm2, h⟩ := h
        replace hB := Boxes.same hB (by exact hsm2)
        refine ⟨_, rfl, (fun hc => by cases hc), ?_⟩
        refine HW.pure (i := 10) hH rfl (by kernel_rfl) (Wants.free rfl) rfl (fun hc => by cases hc) (Rd.un (v := .bool (!r3)) rfl (fun _ => by kernel_rfl)) ?_
        refine HW.done hH (by kernel_rfl) ?_
        refine NW.then ?_
        refine CW.cond rfl (fun hb5 => ?_) (fun hb5 => ?_)
        · replace h := h.1 hb5
          refine CW.seq ?_
          refine CW.region fun L hL => ?_
          refine LW.rd hL rfl (Wants.free rfl) rfl (Rd.assign (v := .bool false) rfl) ?_
          refine LW.nil hL rfl ?_
          refine NW.then ?_
          refine CW.ret ?_
          refine RW.block ?_
          refine RW.then ?_
          refine RW.then ?_
          refine RW.block ?_
          refine RW.block ?_
          refine RW.then ?_
          refine RW.then ?_
          refine RW.block ?_
          refine RW.then ?_
          exact res1 rfl rfl ⟨false, rfl, h⟩
        · replace h := h.2 hb5
          refine CW.skip ?_
          refine NW.block ?_
          refine NW.then ?_
          refine CW.region fun L hL => ?_
          refine LW.rd hL rfl (Wants.free rfl) rfl (Rd.move (v := .int .i64 k1) rfl) ?_
          refine LW.rd hL rfl (Wants.free rfl) rfl (Rd.bin (v := .int .i64 (IntKind.wrap .i64 (k1 + 1))) rfl rfl (fun w => by kernel_rfl)) ?_
          refine LW.rd hL rfl (Wants.free rfl) rfl (Rd.assign (v := .int .i64 (IntKind.wrap .i64 (k1 + 1))) rfl) ?_
          refine LW.nil hL rfl ?_
          exact NW.loop (S := Bool × Int) (Ek := fun s2 => [(1, .slice l1 l1n l1c), (2, .pointer (some (⟨b1, 0, none⟩ : Addr))), (5, .int .i64 i1), (4, .bool s2.1), (6, .int .i64 s2.2)]) (x2, IntKind.wrap .i64 (k1 + 1)) (by exact ⟨rfl, rfl, rfl, rfl, rfl, trivial⟩) ⟨⟨h.1, hB⟩, h.2⟩
      · replace h := h.2 hb4
        refine CW.exit ?_
        refine XW.then ?_
        refine XW.then ?_
        refine XW.hit ?_
        refine NW.block ?_
        refine NW.then ?_
        refine CW.region fun L hL => ?_
        refine LW.rd hL rfl (Wants.free rfl) rfl (Rd.move (v := .int .i64 i1) rfl) ?_
        refine LW.rd hL rfl (Wants.free rfl) rfl (Rd.bin (v := .int .i64 (IntKind.wrap .i64 (i1 + 1))) rfl rfl (fun w => by kernel_rfl)) ?_
        refine LW.rd hL rfl (Wants.free rfl) rfl (Rd.assign (v := .int .i64 (IntKind.wrap .i64 (i1 + 1))) rfl) ?_
        refine LW.nil hL rfl ?_
        exact NW.loop (S := Bool × Int) (Ek := fun s1 => [(1, .slice l1 l1n l1c), (2, .pointer (some (⟨b1, 0, none⟩ : Addr))), (4, .bool s1.1), (5, .int .i64 s1.2)]) (x2, IntKind.wrap .i64 (i1 + 1)) (by exact ⟨rfl, rfl, rfl, rfl, trivial⟩) ⟨⟨h.1, hB⟩, h.2⟩
  · replace h := h.2 hb1
    refine CW.exit ?_
    refine XW.then ?_
    refine XW.then ?_
    refine XW.hit ?_
    refine NW.then ?_
    refine CW.seq ?_
    refine CW.region fun L hL => ?_
    refine LW.rd hL rfl (Wants.free rfl) rfl (Rd.assign (v := .bool true) rfl) ?_
    refine LW.nil hL rfl ?_
    refine NW.then ?_
    refine CW.ret ?_
    exact res1 rfl rfl ⟨true, rfl, h⟩

/- (pomander/pomanderref12.Flow).together -/
def W_pomanderref12_Flow_together (f1 : Int) (f2 : Int) (f3 : Int) (f4 : Option Addr) (f4n : Nat) (f4c : Nat) (f5 : Option Addr) (f5n : Nat) (f5c : Nat) (l1 : Option Addr) (l1n : Nat) (l1c : Nat) (w : World) (R : Int → World → Prop) : Prop :=
  ∀ (b1 : Nat) (w1 : World), (w.heap.size ≤ b1 ∧ b1 < w1.heap.size) → Chg [] w w1 → (∃ (I1 : Int → Int → World → Prop) (m1 : Int → Int → World → Nat), I1 0 0 w1 ∧ ∀ (set1 : Int) (i1 : Int) (w2 : World), I1 set1 i1 w2 → ((decide (i1 < (l1n : Int))) = true → ∀ (w3 : World), Chg [] w2 w3 → (∃ a1 : Addr, l1 = some a1 ∧ (0 : Int) ≤ i1 ∧ i1 < (l1n : Int) ∧ (∃ (t1 : Int) (t2 : Int), CellsAt w3 (a1.add (Int.toNat i1 * 2)) 0 [.int .i64 t1, .int .i64 t2] ∧ (Calls Try.prog 30 #[.agg #[.int .i64 f1, .int .i64 f2, .int .i64 f3, .slice f4 f4n f4c, .slice f5 f5n f5c], .agg #[.int .i64 t1, .int .i64 t2]] w3 fun e w4 => ∃ (r2 : Int), e = .returned (.int .u32 r2) ∧ ((CellsAt w4 (a1.add (Int.toNat i1 * 2)) 0 [.int .i64 t1, .int .i64 t2]) ∧ (Same w3 w4 [b1] ∧ (Calls Try.prog 106 #[.int .u32 set1, .int .u32 r2] w4 fun e w5 => ∃ (r3 : Int), e = .returned (.int .u32 r3) ∧ (Same w4 w5 [b1] ∧ ((I1 r3 (IntKind.wrap .i64 (i1 + 1)) w5 ∧ m1 r3 (IntKind.wrap .i64 (i1 + 1)) w5 < m1 set1 i1 w2)))))))))) ∧ ((decide (i1 < (l1n : Int))) = false → R set1 w2))
set_option maxRecDepth 100000 in
theorem go_pomanderref12_Flow_together (f1 : Int) (f2 : Int) (f3 : Int) (f4 : Option Addr) (f4n : Nat) (f4c : Nat) (f5 : Option Addr) (f5n : Nat) (f5c : Nat) (l1 : Option Addr) (l1n : Nat) (l1c : Nat) (w : World) (R : Int → World → Prop) (h : W_pomanderref12_Flow_together f1 f2 f3 f4 f4n f4c f5 f5n f5c l1 l1n l1c w R) : Calls Try.prog 107 #[.agg #[.int .i64 f1, .int .i64 f2, .int .i64 f3, .slice f4 f4n f4c, .slice f5 f5n f5c], .slice l1 l1n l1c] w (fun e w' => ∃ (r1 : Int), e = .returned (.int .u32 r1) ∧ R r1 w') := by
  unfold W_pomanderref12_Flow_together at h
  refine enter (N := 22) Try.func107 rfl rfl ?_
  refine CW.seq ?_
  refine CW.region fun L hL => ?_
  obtain ⟨b1, hb_b1⟩ : ∃ b1, b1 = World.size w := ⟨_, rfl⟩
  obtain ⟨w1, hw_w1⟩ : ∃ w1, w1 = World.alloc w (.cells #[.int .i64 f1, .int .i64 f2, .int .i64 f3, .slice f4 f4n f4c, .slice f5 f5n f5c] 36) := ⟨_, rfl⟩
  refine LW.val hL rfl (Wants.free rfl) rfl (boxE hb_b1 hw_w1 (Vl.box (v := .agg #[.int .i64 f1, .int .i64 f2, .int .i64 f3, .slice f4 f4n f4c, .slice f5 f5n f5c]) rfl)) ?_
  have hB := Boxes.alloc (cs := [.int .i64 f1, .int .i64 f2, .int .i64 f3, .slice f4 f4n f4c, .slice f5 f5n f5c]) (T := 36) (Boxes.nil w) hb_b1 hw_w1
  have hlo_b1 := sil_lo (Chg.refl [] w) hb_b1
  have hc_w1 := sil_alloc (Chg.refl [] w) hw_w1
  refine LW.rd hL rfl (Wants.free rfl) rfl (Rd.assign (v := .int .u32 0) rfl) ?_
  refine LW.nil hL rfl ?_
  refine NW.then ?_
  refine CW.seq ?_
  refine CW.region fun L hL => ?_
  refine LW.rd hL rfl (Wants.free rfl) rfl (Rd.assign (v := .int .u32 0) rfl) ?_
  refine LW.nil hL rfl ?_
  refine NW.then ?_
  refine CW.seq ?_
  refine CW.seq ?_
  refine CW.region fun L hL => ?_
  refine LW.rd hL rfl (Wants.free rfl) rfl (Rd.assign (v := .int .i64 0) rfl) ?_
  refine LW.nil hL rfl ?_
  refine NW.then ?_
  refine CW.block ?_
  replace h := h b1 w1 ⟨hlo_b1, lt_of_heap (hB.at (i := 0) rfl)⟩ hc_w1
  obtain ⟨I1, m1, hI1, h⟩ := h
  refine CW.loop (S := Int × Int) (fun s1 => [(1, .slice l1 l1n l1c), (2, .pointer (some (⟨b1, 0, none⟩ : Addr))), (4, .int .u32 0), (5, .int .u32 s1.1), (6, .int .i64 s1.2)]) (fun s1 w2 => I1 s1.1 s1.2 w2 ∧ Boxes w2 [(b1, [.int .i64 f1, .int .i64 f2, .int .i64 f3, .slice f4 f4n f4c, .slice f5 f5n f5c], 36)]) (fun s1 w2 => m1 s1.1 s1.2 w2) (0, 0) (by exact ⟨rfl, rfl, rfl, rfl, rfl, trivial⟩) ⟨hI1, hB⟩ (fun s1 w2 hI1 => ?_)
  obtain ⟨hI1, hB⟩ := hI1
  obtain ⟨set1, i1⟩ := s1; replace h := h set1 i1 w2 hI1
  refine CW.seq ?_
  refine CW.seq ?_
  refine CW.region fun L hL => ?_
  refine LW.rd hL rfl (Wants.free rfl) rfl (Rd.move (v := .int .i64 i1) rfl) ?_
  refine LW.rd hL rfl (Wants.free rfl) rfl (Rd.move (v := .slice l1 l1n l1c) rfl) ?_
  refine LW.rd hL rfl (Wants.free rfl) rfl (Rd.builtin (v := .int .i64 (l1n : Int)) rfl (fun _ _ => by kernel_rfl)) ?_
  refine LW.rd hL rfl (Wants.free rfl) rfl (Rd.bin (v := .bool (decide (i1 < (l1n : Int)))) rfl rfl (fun w => by kernel_rfl)) ?_
  refine LW.nil hL rfl ?_
  refine NW.then ?_
  refine CW.cond rfl (fun hb1 => ?_) (fun hb1 => ?_)
  · replace h := h.1 hb1
    refine CW.skip ?_
    refine NW.then ?_
    refine CW.seq ?_
    refine CW.block ?_
    obtain ⟨w3, hw_w3⟩ : ∃ x, x = World.drew w2 := ⟨_, rfl⟩
    have hc_w3 := sil_drew (Chg.refl [] w2) hw_w3
    replace hB := hB.drew hw_w3
    replace h := h  w3  hc_w3
    obtain ⟨a1, he1, hi1, hi2, h⟩ := h
    obtain ⟨t1, t2, hc1, h⟩ := h
    refine CW.drawn (fun w => CellsAt w (a1.add (Int.toNat i1 * 2)) 0 [.int .i64 t1, .int .i64 t2] ∧ Boxes w [(b1, [.int .i64 f1, .int .i64 f2, .int .i64 f3, .slice f4 f4n f4c, .slice f5 f5n f5c], 36)]) 7 (by kernel_rfl) fun H hH => ?_
    rw [← hw_w3]
    have hS1 : CellsAt w3 (a1.add (Int.toNat i1 * 2)) 0 [.int .i64 t1, .int .i64 t2] ∧ Boxes w3 [(b1, [.int .i64 f1, .int .i64 f2, .int .i64 f3, .slice f4 f4n f4c, .slice f5 f5n f5c], 36)] := ⟨hc1, hB⟩
    refine HW.pure (i := 0) hH rfl (by kernel_rfl) (Wants.free rfl) rfl (fun _ => hS1) (Rd.move (v := .int .u32 set1) rfl) ?_
    refine HW.take (i := 1) hH rfl (by kernel_rfl) (by kernel_rfl) (Wants.free rfl) rfl (fun _ => hS1) (Rd.ldN (cs := [.int .i64 f1, .int .i64 f2, .int .i64 f3, .slice f4 f4n f4c, .slice f5 f5n f5c]) rfl (by kernel_rfl) (by kernel_rfl) (fun w h => cellsAt_get (box_cells (Boxes.at (i := 0) h.2 rfl) rfl))) ?_
    refine HW.pure (i := 2) hH rfl (by kernel_rfl) (Wants.free rfl) rfl (fun _ => hS1) (Rd.move (v := .slice l1 l1n l1c) rfl) ?_
    refine HW.pure (i := 3) hH rfl (by kernel_rfl) (Wants.free rfl) rfl (fun _ => hS1) (Rd.move (v := .int .i64 i1) rfl) ?_
    refine HW.pure (i := 4) hH rfl (by kernel_rfl) (Wants.free rfl) rfl (fun _ => hS1) (Rd.iaS (q := a1) (sz := 2) (by rw [← he1]; rfl) rfl Try.underlying47 (by kernel_rfl) hi1 hi2) ?_
    refine HW.take (i := 5) hH rfl (by kernel_rfl) (by kernel_rfl) (Wants.free rfl) rfl (fun _ => hS1) (Rd.ldN (cs := [.int .i64 t1, .int .i64 t2]) rfl (by kernel_rfl) (by kernel_rfl) (fun w h => cellsAt_get h.1)) ?_
    refine HW.call (i := 6) hH (by kernel_rfl) rfl (Wants.free rfl) rfl (Cl.fn (f := 30) rfl Try.func30 (by kernel_rfl) rfl) h (fun e w4 h_ => ?_)
    clear h
    obtain ⟨r2, rfl, hS2, h⟩ := h_
    obtain ⟨hsm1, h⟩ := h
    replace hB := Boxes.same hB (by exact hsm1)
    have hS3 := (⟨hS2, hB⟩ : CellsAt w4 (a1.add (Int.toNat i1 * 2)) 0 [.int .i64 t1, .int .i64 t2] ∧ Boxes w4 [(b1, [.int .i64 f1, .int .i64 f2, .int .i64 f3, .slice f4 f4n f4c, .slice f5 f5n f5c], 36)])
    refine ⟨_, rfl, (fun _ => hS3), ?_⟩
    refine HW.call (i := 7) hH (by kernel_rfl) rfl (Wants.free rfl) rfl (Cl.fn (f := 106) rfl Try.func106 (by kernel_rfl) rfl) h (fun e w5 h_ => ?_)
    clear h
    obtain ⟨r3, rfl, h⟩ := h_
    obtain ⟨hsm2, h⟩ := h
    replace hB := Boxes.same hB (by exact hsm2)
    refine ⟨_, rfl, (fun hc => by cases hc), ?_⟩
    refine HW.pure (i := 8) hH rfl (by kernel_rfl) (Wants.free rfl) rfl (fun hc => by cases hc) (Rd.assign (v := .int .u32 r3) rfl) ?_
    refine HW.done hH (by kernel_rfl) ?_
    refine NW.block ?_
    refine NW.then ?_
    refine CW.region fun L hL => ?_
    refine LW.rd hL rfl (Wants.free rfl) rfl (Rd.move (v := .int .i64 i1) rfl) ?_
    refine LW.rd hL rfl (Wants.free rfl) rfl (Rd.bin (v := .int .i64 (IntKind.wrap .i64 (i1 + 1))) rfl rfl (fun w => by kernel_rfl)) ?_
    refine LW.rd hL rfl (Wants.free rfl) rfl (Rd.assign (v := .int .i64 (IntKind.wrap .i64 (i1 + 1))) rfl) ?_
    refine LW.nil hL rfl ?_
    exact NW.loop (S := Int × Int) (Ek := fun s1 => [(1, .slice l1 l1n l1c), (2, .pointer (some (⟨b1, 0, none⟩ : Addr))), (4, .int .u32 0), (5, .int .u32 s1.1), (6, .int .i64 s1.2)]) (r3, IntKind.wrap .i64 (i1 + 1)) (by exact ⟨rfl, rfl, rfl, rfl, rfl, trivial⟩) ⟨⟨h.1, hB⟩, h.2⟩
  · replace h := h.2 hb1
    refine CW.exit ?_
    refine XW.then ?_
    refine XW.then ?_
    refine XW.hit ?_
    refine NW.then ?_
    refine CW.seq ?_
    refine CW.region fun L hL => ?_
    refine LW.rd hL rfl (Wants.free rfl) rfl (Rd.move (v := .int .u32 set1) rfl) ?_
    refine LW.rd hL rfl (Wants.free rfl) rfl (Rd.assign (v := .int .u32 set1) rfl) ?_
    refine LW.nil hL rfl ?_
    refine NW.then ?_
    refine CW.ret ?_
    exact res1 rfl rfl ⟨set1, rfl, h⟩

/- (pomander/pomanderref12.Flow).Decides -/
def W_pomanderref12_Flow_Decides (f1 : Int) (f2 : Int) (f3 : Int) (f4 : Option Addr) (f4n : Nat) (f4c : Nat) (f5 : Option Addr) (f5n : Nat) (f5c : Nat) (l1 : Option Addr) (l1n : Nat) (l1c : Nat) (w : World) (R : Int → World → Prop) : Prop :=
  ∀ (b1 : Nat) (w1 : World), (w.heap.size ≤ b1 ∧ b1 < w1.heap.size) → Chg [] w w1 → (∃ (I1 : Int → Int → World → Prop) (m1 : Int → Int → World → Nat), I1 0 0 w1 ∧ ∀ (set1 : Int) (i1 : Int) (w2 : World), I1 set1 i1 w2 → ((decide (i1 < (l1n : Int))) = true → ∃ J1 : Int → World → Prop, (∀ (set2 : Int) (w3 : World), J1 set2 w3 → (I1 set2 (IntKind.wrap .i64 (i1 + 1)) w3 ∧ m1 set2 (IntKind.wrap .i64 (i1 + 1)) w3 < m1 set1 i1 w2)) ∧ (∃ a1 : Addr, l1 = some a1 ∧ (0 : Int) ≤ i1 ∧ i1 < (l1n : Int) ∧ (∃ (t1 : Int) (t2 : Int), CellsAt w2 (a1.add (Int.toNat i1 * 3)) 0 [.int .i64 t1, .int .i64 t2] ∧ ((((t1 == 0) && (t2 == 0)) = true → ∀ (w4 : World), Chg [] w2 w4 → (∃ (t3 : Option Addr) (t3n : Nat) (t3c : Nat), w4.cell? ((a1.add (Int.toNat i1 * 3)).add 2) = some (.slice t3 t3n t3c) ∧ (Calls Try.prog 107 #[.agg #[.int .i64 f1, .int .i64 f2, .int .i64 f3, .slice f4 f4n f4c, .slice f5 f5n f5c], .slice t3 t3n t3c] w4 fun e w5 => ∃ (r2 : Int), e = .returned (.int .u32 r2) ∧ ((w5.cell? ((a1.add (Int.toNat i1 * 3)).add 2) = some (.slice t3 t3n t3c)) ∧ (Same w4 w5 [b1] ∧ (Calls Try.prog 106 #[.int .u32 set1, .int .u32 r2] w5 fun e w6 => ∃ (r3 : Int), e = .returned (.int .u32 r3) ∧ (Same w5 w6 [b1] ∧ (J1 r3 w6)))))))) ∧ (((t1 == 0) && (t2 == 0)) = false → J1 set1 w2))))) ∧ ((decide (i1 < (l1n : Int))) = false → R set1 w2))
set_option maxRecDepth 100000 in
theorem go_pomanderref12_Flow_Decides (f1 : Int) (f2 : Int) (f3 : Int) (f4 : Option Addr) (f4n : Nat) (f4c : Nat) (f5 : Option Addr) (f5n : Nat) (f5c : Nat) (l1 : Option Addr) (l1n : Nat) (l1c : Nat) (w : World) (R : Int → World → Prop) (h : W_pomanderref12_Flow_Decides f1 f2 f3 f4 f4n f4c f5 f5n f5c l1 l1n l1c w R) : Calls Try.prog 71 #[.agg #[.int .i64 f1, .int .i64 f2, .int .i64 f3, .slice f4 f4n f4c, .slice f5 f5n f5c], .slice l1 l1n l1c] w (fun e w' => ∃ (r1 : Int), e = .returned (.int .u32 r1) ∧ R r1 w') := by
  unfold W_pomanderref12_Flow_Decides at h
  refine enter (N := 30) Try.func71 rfl rfl ?_
  refine CW.seq ?_
  refine CW.region fun L hL => ?_
  obtain ⟨b1, hb_b1⟩ : ∃ b1, b1 = World.size w := ⟨_, rfl⟩
  obtain ⟨w1, hw_w1⟩ : ∃ w1, w1 = World.alloc w (.cells #[.int .i64 f1, .int .i64 f2, .int .i64 f3, .slice f4 f4n f4c, .slice f5 f5n f5c] 36) := ⟨_, rfl⟩
  refine LW.val hL rfl (Wants.free rfl) rfl (boxE hb_b1 hw_w1 (Vl.box (v := .agg #[.int .i64 f1, .int .i64 f2, .int .i64 f3, .slice f4 f4n f4c, .slice f5 f5n f5c]) rfl)) ?_
  have hB := Boxes.alloc (cs := [.int .i64 f1, .int .i64 f2, .int .i64 f3, .slice f4 f4n f4c, .slice f5 f5n f5c]) (T := 36) (Boxes.nil w) hb_b1 hw_w1
  have hlo_b1 := sil_lo (Chg.refl [] w) hb_b1
  have hc_w1 := sil_alloc (Chg.refl [] w) hw_w1
  refine LW.rd hL rfl (Wants.free rfl) rfl (Rd.assign (v := .int .u32 0) rfl) ?_
  refine LW.nil hL rfl ?_
  refine NW.then ?_
  refine CW.seq ?_
  refine CW.region fun L hL => ?_
  refine LW.rd hL rfl (Wants.free rfl) rfl (Rd.assign (v := .int .u32 0) rfl) ?_
  refine LW.nil hL rfl ?_
  refine NW.then ?_
  refine CW.seq ?_
  refine CW.seq ?_
  refine CW.region fun L hL => ?_
  refine LW.rd hL rfl (Wants.free rfl) rfl (Rd.assign (v := .int .i64 0) rfl) ?_
  refine LW.nil hL rfl ?_
  refine NW.then ?_
  refine CW.block ?_
  replace h := h b1 w1 ⟨hlo_b1, lt_of_heap (hB.at (i := 0) rfl)⟩ hc_w1
  obtain ⟨I1, m1, hI1, h⟩ := h
  refine CW.loop (S := Int × Int) (fun s1 => [(1, .slice l1 l1n l1c), (2, .pointer (some (⟨b1, 0, none⟩ : Addr))), (4, .int .u32 0), (5, .int .u32 s1.1), (6, .int .i64 s1.2)]) (fun s1 w2 => I1 s1.1 s1.2 w2 ∧ Boxes w2 [(b1, [.int .i64 f1, .int .i64 f2, .int .i64 f3, .slice f4 f4n f4c, .slice f5 f5n f5c], 36)]) (fun s1 w2 => m1 s1.1 s1.2 w2) (0, 0) (by exact ⟨rfl, rfl, rfl, rfl, rfl, trivial⟩) ⟨hI1, hB⟩ (fun s1 w2 hI1 => ?_)
  obtain ⟨hI1, hB⟩ := hI1
  obtain ⟨set1, i1⟩ := s1; replace h := h set1 i1 w2 hI1
  refine CW.seq ?_
  refine CW.seq ?_
  refine CW.region fun L hL => ?_
  refine LW.rd hL rfl (Wants.free rfl) rfl (Rd.move (v := .int .i64 i1) rfl) ?_
  refine LW.rd hL rfl (Wants.free rfl) rfl (Rd.move (v := .slice l1 l1n l1c) rfl) ?_
  refine LW.rd hL rfl (Wants.free rfl) rfl (Rd.builtin (v := .int .i64 (l1n : Int)) rfl (fun _ _ => by kernel_rfl)) ?_
  refine LW.rd hL rfl (Wants.free rfl) rfl (Rd.bin (v := .bool (decide (i1 < (l1n : Int)))) rfl rfl (fun w => by kernel_rfl)) ?_
  refine LW.nil hL rfl ?_
  refine NW.then ?_
  refine CW.cond rfl (fun hb1 => ?_) (fun hb1 => ?_)
  · replace h := h.1 hb1
    refine CW.skip ?_
    refine NW.then ?_
    obtain ⟨J1, hJ1, h⟩ := h
    refine CW.cut (S := Int) (fun set2 => [(1, .slice l1 l1n l1c), (2, .pointer (some (⟨b1, 0, none⟩ : Addr))), (4, .int .u32 0), (6, .int .i64 i1), (5, .int .u32 set2)]) (fun set2 w3 => J1 set2 w3 ∧ Boxes w3 [(b1, [.int .i64 f1, .int .i64 f2, .int .i64 f3, .slice f4 f4n f4c, .slice f5 f5n f5c], 36)]) (fun set2 w3 h_ => ?_) ?_
    · obtain ⟨h_, hB⟩ := h_; replace h := hJ1 set2 w3 h_; clear h_
      refine CW.region fun L hL => ?_
      refine LW.rd hL rfl (Wants.free rfl) rfl (Rd.move (v := .int .i64 i1) rfl) ?_
      refine LW.rd hL rfl (Wants.free rfl) rfl (Rd.bin (v := .int .i64 (IntKind.wrap .i64 (i1 + 1))) rfl rfl (fun w => by kernel_rfl)) ?_
      refine LW.rd hL rfl (Wants.free rfl) rfl (Rd.assign (v := .int .i64 (IntKind.wrap .i64 (i1 + 1))) rfl) ?_
      refine LW.nil hL rfl ?_
      exact NW.loop (S := Int × Int) (Ek := fun s1 => [(1, .slice l1 l1n l1c), (2, .pointer (some (⟨b1, 0, none⟩ : Addr))), (4, .int .u32 0), (5, .int .u32 s1.1), (6, .int .i64 s1.2)]) (set2, IntKind.wrap .i64 (i1 + 1)) (by exact ⟨rfl, rfl, rfl, rfl, rfl, trivial⟩) ⟨⟨h.1, hB⟩, h.2⟩
    · skip
      refine CW.block ?_
      refine CW.seq ?_
      refine CW.region fun L hL => ?_
      refine LW.rd hL rfl (Wants.free rfl) rfl (Rd.move (v := .slice l1 l1n l1c) rfl) ?_
      refine LW.rd hL rfl (Wants.free rfl) rfl (Rd.move (v := .int .i64 i1) rfl) ?_
      obtain ⟨a1, he1, hi1, hi2, h⟩ := h
      refine LW.rd hL rfl (Wants.free rfl) rfl (Rd.iaS (q := a1) (sz := 3) (by rw [← he1]; rfl) rfl Try.underlying25 (by kernel_rfl) hi1 hi2) ?_
      refine LW.rd hL rfl (Wants.free rfl) rfl (Rd.fa (v := .pointer (some (a1.add (Int.toNat i1 * 3)))) rfl (fun _ => by kernel_rfl)) ?_
      obtain ⟨t1, t2, hc1, h⟩ := h
      refine LW.rd hL rfl (Wants.free rfl) rfl (Rd.ldN (cs := [.int .i64 t1, .int .i64 t2]) rfl (by kernel_rfl) (by kernel_rfl) (cellsS hc1)) ?_
      refine LW.rd hL rfl (Wants.free rfl) rfl (Rd.build (v := .agg #[.int .i64 0, .int .i64 0]) rfl (fun _ => by kernel_rfl)) ?_
      refine LW.rd hL rfl (Wants.free rfl) rfl (Rd.bin (v := .bool ((t1 == 0) && (t2 == 0))) rfl rfl (fun w => eqS_56 _ _ _ _ w)) ?_
      refine LW.nil hL rfl ?_
      refine NW.then ?_
      refine CW.cond rfl (fun hb2 => ?_) (fun hb2 => ?_)
      · replace h := h.1 hb2
        obtain ⟨w4, hw_w4⟩ : ∃ x, x = World.drew w2 := ⟨_, rfl⟩
        have hc_w4 := sil_drew (Chg.refl [] w2) hw_w4
        replace hB := hB.drew hw_w4
        replace h := h  w4  hc_w4
        obtain ⟨t3, t3n, t3c, hc2, h⟩ := h
        refine CW.drawn (fun w => w.cell? ((a1.add (Int.toNat i1 * 3)).add 2) = some (.slice t3 t3n t3c) ∧ Boxes w [(b1, [.int .i64 f1, .int .i64 f2, .int .i64 f3, .slice f4 f4n f4c, .slice f5 f5n f5c], 36)]) 8 (by kernel_rfl) fun H hH => ?_
        rw [← hw_w4]
        have hS1 : w4.cell? ((a1.add (Int.toNat i1 * 3)).add 2) = some (.slice t3 t3n t3c) ∧ Boxes w4 [(b1, [.int .i64 f1, .int .i64 f2, .int .i64 f3, .slice f4 f4n f4c, .slice f5 f5n f5c], 36)] := ⟨hc2, hB⟩
        refine HW.pure (i := 0) hH rfl (by kernel_rfl) (Wants.free rfl) rfl (fun _ => hS1) (Rd.move (v := .int .u32 set1) rfl) ?_
        refine HW.take (i := 1) hH rfl (by kernel_rfl) (by kernel_rfl) (Wants.free rfl) rfl (fun _ => hS1) (Rd.ldN (cs := [.int .i64 f1, .int .i64 f2, .int .i64 f3, .slice f4 f4n f4c, .slice f5 f5n f5c]) rfl (by kernel_rfl) (by kernel_rfl) (fun w h => cellsAt_get (box_cells (Boxes.at (i := 0) h.2 rfl) rfl))) ?_
        refine HW.pure (i := 2) hH rfl (by kernel_rfl) (Wants.free rfl) rfl (fun _ => hS1) (Rd.move (v := .slice l1 l1n l1c) rfl) ?_
        refine HW.pure (i := 3) hH rfl (by kernel_rfl) (Wants.free rfl) rfl (fun _ => hS1) (Rd.move (v := .int .i64 i1) rfl) ?_
        refine HW.pure (i := 4) hH rfl (by kernel_rfl) (Wants.free rfl) rfl (fun _ => hS1) (Rd.iaS (q := a1) (sz := 3) (by rw [← he1]; rfl) rfl Try.underlying25 (by kernel_rfl) hi1 hi2) ?_
        refine HW.pure (i := 5) hH rfl (by kernel_rfl) (Wants.free rfl) rfl (fun _ => hS1) (Rd.fa (v := .pointer (some ((a1.add (Int.toNat i1 * 3)).add 2))) rfl (fun _ => by kernel_rfl)) ?_
        refine HW.take (i := 6) hH rfl (by kernel_rfl) (by kernel_rfl) (Wants.free rfl) rfl (fun _ => hS1) (Rd.ld (v := .slice t3 t3n t3c) rfl (by kernel_rfl) (fun w h => h.1)) ?_
        refine HW.call (i := 7) hH (by kernel_rfl) rfl (Wants.free rfl) rfl (Cl.fn (f := 107) rfl Try.func107 (by kernel_rfl) rfl) h (fun e w5 h_ => ?_)
        clear h
        obtain ⟨r2, rfl, hS2, h⟩ := h_
        obtain ⟨hsm1, h⟩ := h
        replace hB := Boxes.same hB (by exact hsm1)
        have hS3 := (⟨hS2, hB⟩ : w5.cell? ((a1.add (Int.toNat i1 * 3)).add 2) = some (.slice t3 t3n t3c) ∧ Boxes w5 [(b1, [.int .i64 f1, .int .i64 f2, .int .i64 f3, .slice f4 f4n f4c, .slice f5 f5n f5c], 36)])
        refine ⟨_, rfl, (fun _ => hS3), ?_⟩
        refine HW.call (i := 8) hH (by kernel_rfl) rfl (Wants.free rfl) rfl (Cl.fn (f := 106) rfl Try.func106 (by kernel_rfl) rfl) h (fun e w6 h_ => ?_)
        clear h
        obtain ⟨r3, rfl, h⟩ := h_
        obtain ⟨hsm2, h⟩ := h
        replace hB := Boxes.same hB (by exact hsm2)
        refine ⟨_, rfl, (fun hc => by cases hc), ?_⟩
        refine HW.pure (i := 9) hH rfl (by kernel_rfl) (Wants.free rfl) rfl (fun hc => by cases hc) (Rd.assign (v := .int .u32 r3) rfl) ?_
        refine HW.done hH (by kernel_rfl) ?_
        refine NW.block ?_
        exact NW.cut (S := Int) (Ek := fun set2 => [(1, .slice l1 l1n l1c), (2, .pointer (some (⟨b1, 0, none⟩ : Addr))), (4, .int .u32 0), (6, .int .i64 i1), (5, .int .u32 set2)]) r3 (by exact ⟨rfl, rfl, rfl, rfl, rfl, trivial⟩) ⟨h, hB⟩
      · replace h := h.2 hb2
        refine CW.skip ?_
        refine NW.block ?_
        exact NW.cut (S := Int) (Ek := fun set2 => [(1, .slice l1 l1n l1c), (2, .pointer (some (⟨b1, 0, none⟩ : Addr))), (4, .int .u32 0), (6, .int .i64 i1), (5, .int .u32 set2)]) set1 (by exact ⟨rfl, rfl, rfl, rfl, rfl, trivial⟩) ⟨h, hB⟩
  · replace h := h.2 hb1
    refine CW.exit ?_
    refine XW.then ?_
    refine XW.then ?_
    refine XW.hit ?_
    refine NW.then ?_
    refine CW.seq ?_
    refine CW.region fun L hL => ?_
    refine LW.rd hL rfl (Wants.free rfl) rfl (Rd.move (v := .int .u32 set1) rfl) ?_
    refine LW.rd hL rfl (Wants.free rfl) rfl (Rd.assign (v := .int .u32 set1) rfl) ?_
    refine LW.nil hL rfl ?_
    refine NW.then ?_
    refine CW.ret ?_
    exact res1 rfl rfl ⟨set1, rfl, h⟩

/- (pomander/pomanderref12.Flow).Apply -/
def W_pomanderref12_Flow_Apply (f1 : Int) (f2 : Int) (f3 : Int) (f4 : Option Addr) (f4n : Nat) (f4c : Nat) (f5 : Option Addr) (f5n : Nat) (f5c : Nat) (l1 : Option Addr) (l1n : Nat) (l1c : Nat) (w : World) (R : Int → Int → Int → (Option Addr) → Nat → Nat → (Option Addr) → Nat → Nat → Int → World → Prop) : Prop :=
  ∀ (b2 b1 : Nat) (w2 : World), (w.heap.size ≤ b2 ∧ b2 < w2.heap.size) → (w.heap.size ≤ b1 ∧ b1 < w2.heap.size) → Chg [] w w2 → (Calls Try.prog 70 #[.agg #[.int .i64 f1, .int .i64 f2, .int .i64 f3, .slice f4 f4n f4c, .slice f5 f5n f5c], .slice l1 l1n l1c] w2 fun e w3 => ∃ (r7 : Bool), e = .returned (.bool r7) ∧ (Same w2 w3 [b2, b1] ∧ (((!r7) = true → ∀ (w4 : World), Chg [b2] w3 w4 → (R f1 f2 f3 f4 f4n f4c f5 f5n f5c 2 w4)) ∧ ((!r7) = false → ∃ (I1 : Int → (Option Addr) → Nat → Nat → Int → Int → (Option Addr) → Nat → Nat → World → Prop) (m1 : Int → (Option Addr) → Nat → Nat → Int → Int → (Option Addr) → Nat → Nat → World → Nat), I1 0 none 0 0 0 f3 f4 f4n f4c w3 ∧ ∀ (x1 : Int) (sets1 : Option Addr) (sets1n : Nat) (sets1c : Nat) (i1 : Int) (c1 : Int) (c2 : Option Addr) (c2n : Nat) (c2c : Nat) (w5 : World), I1 x1 sets1 sets1n sets1c i1 c1 c2 c2n c2c w5 → ((decide (i1 < (l1n : Int))) = true → ∃ J1 : Int → Int → Int → (Option Addr) → Nat → Nat → World → Prop, (∀ (x2 : Int) (set1 : Int) (c3 : Int) (c4 : Option Addr) (c4n : Nat) (c4c : Nat) (w6 : World), J1 x2 set1 c3 c4 c4n c4c w6 → ∀ b3 : Nat, b3 = World.size w6 → ∀ w7 : World, w7 = World.alloc w6 (.cells #[.int .u32 set1] 22) → (∃ (l2 : Option Addr) (l2n : Nat) (l2c : Nat) (w8 : World), (Builtin.append_ #[31, 31] 31 #[.slice sets1 sets1n sets1c, .slice (some (⟨b3, 0, none⟩ : Addr)) 1 1]).run Try.prog w7 = .ok (.slice l2 l2n l2c) w8 ∧ (Same w7 w8 [b1, b2] ∧ ((I1 x2 l2 l2n l2c (IntKind.wrap .i64 (i1 + 1)) c3 c4 c4n c4c w8 ∧ m1 x2 l2 l2n l2c (IntKind.wrap .i64 (i1 + 1)) c3 c4 c4n c4c w8 < m1 x1 sets1 sets1n sets1c i1 c1 c2 c2n c2c w5))))) ∧ (∃ a1 : Addr, l1 = some a1 ∧ (0 : Int) ≤ i1 ∧ i1 < (l1n : Int) ∧ (∃ (t1 : Int) (t2 : Int), CellsAt w5 (a1.add (Int.toNat i1 * 3)) 0 [.int .i64 t1, .int .i64 t2] ∧ (((!((t1 == 0) && (t2 == 0))) = true → ∀ (w9 : World), Chg [] w5 w9 → (∃ (t3 : Option Addr) (t3n : Nat) (t3c : Nat), w9.cell? ((a1.add (Int.toNat i1 * 3)).add 2) = some (.slice t3 t3n t3c) ∧ (Calls Try.prog 107 #[.agg #[.int .i64 f1, .int .i64 f2, .int .i64 c1, .slice c2 c2n c2c, .slice f5 f5n f5c], .slice t3 t3n t3c] w9 fun e w10 => ∃ (r8 : Int), e = .returned (.int .u32 r8) ∧ (Same w9 w10 [b1, b2] ∧ (Calls Try.prog 104 #[.agg #[.int .i64 c1, .slice c2 c2n c2c], .int .u32 r8] w10 fun e w11 => ∃ (r9 : Int) (r10 : Option Addr) (r10n : Nat) (r10c : Nat) (r11 : Int) (r12 : Int), e = .returned (.tuple #[.agg #[.int .i64 r9, .slice r10 r10n r10c], .int .i64 r11, .int .i64 r12]) ∧ (Same w10 w11 [b1, b2] ∧ (∀ (b4 : Nat) (w13 : World), (w11.heap.size ≤ b4 ∧ b4 < w13.heap.size) → Chg [] w11 w13 → (((!(r12 == 0)) = true → ∀ (w14 : World), Chg [b2] w13 w14 → (R f1 f2 c1 c2 c2n c2c f5 f5n f5c r12 w14)) ∧ ((!(r12 == 0)) = false → ∀ (w15 : World), Chg [b1] w13 w15 → (J1 x1 r8 r9 r10 r10n r10c w15)))))))))) ∧ ((!((t1 == 0) && (t2 == 0))) = false → J1 x1 0 c1 c2 c2n c2c w5))))) ∧ ((decide (i1 < (l1n : Int))) = false → ∃ (I2 : Int → Int → Int → Int → (Option Addr) → Nat → Nat → (Option Addr) → Nat → Nat → World → Prop) (m2 : Int → Int → Int → Int → (Option Addr) → Nat → Nat → (Option Addr) → Nat → Nat → World → Nat), I2 0 f1 f2 c1 c2 c2n c2c f5 f5n f5c w5 ∧ ∀ (i2 : Int) (c5 : Int) (c6 : Int) (c7 : Int) (c8 : Option Addr) (c8n : Nat) (c8c : Nat) (c9 : Option Addr) (c9n : Nat) (c9c : Nat) (w16 : World), I2 i2 c5 c6 c7 c8 c8n c8c c9 c9n c9c w16 → ((decide (i2 < (l1n : Int))) = true → ∃ J2 : Int → Int → Int → (Option Addr) → Nat → Nat → (Option Addr) → Nat → Nat → World → Prop, (∀ (c10 : Int) (c11 : Int) (c12 : Int) (c13 : Option Addr) (c13n : Nat) (c13c : Nat) (c14 : Option Addr) (c14n : Nat) (c14c : Nat) (w17 : World), J2 c10 c11 c12 c13 c13n c13c c14 c14n c14c w17 → (I2 (IntKind.wrap .i64 (i2 + 1)) c10 c11 c12 c13 c13n c13c c14 c14n c14c w17 ∧ m2 (IntKind.wrap .i64 (i2 + 1)) c10 c11 c12 c13 c13n c13c c14 c14n c14c w17 < m2 i2 c5 c6 c7 c8 c8n c8c c9 c9n c9c w16)) ∧ (∃ a2 : Addr, l1 = some a2 ∧ (0 : Int) ≤ i2 ∧ i2 < (l1n : Int) ∧ (∃ (t4 : Int) (t5 : Int), CellsAt w16 (a2.add (Int.toNat i2 * 3)) 0 [.int .i64 t4, .int .i64 t5] ∧ (((!((t4 == 0) && (t5 == 0))) = true → ∀ (w18 : World), Chg [] w16 w18 → (∃ (t6 : Int) (t7 : Int), CellsAt w18 (a2.add (Int.toNat i2 * 3)) 0 [.int .i64 t6, .int .i64 t7] ∧ (∃ a3 : Addr, sets1 = some a3 ∧ (0 : Int) ≤ i2 ∧ i2 < (sets1n : Int) ∧ (∃ (t8 : Int), w18.cell? (a3.add (Int.toNat i2 * 1)) = some (.int .u32 t8) ∧ (Calls Try.prog 105 #[.agg #[.int .i64 c5, .int .i64 c6, .int .i64 c7, .slice c8 c8n c8c, .slice c9 c9n c9c], .agg #[.int .i64 t6, .int .i64 t7], .int .u32 t8] w18 fun e w19 => ∃ (r13 : Int) (r14 : Int) (r15 : Int) (r16 : Option Addr) (r16n : Nat) (r16c : Nat) (r17 : Option Addr) (r17n : Nat) (r17c : Nat), e = .returned (.agg #[.int .i64 r13, .int .i64 r14, .int .i64 r15, .slice r16 r16n r16c, .slice r17 r17n r17c]) ∧ ((CellsAt w19 (a2.add (Int.toNat i2 * 3)) 0 [.int .i64 t6, .int .i64 t7] ∧ w19.cell? (a3.add (Int.toNat i2 * 1)) = some (.int .u32 t8)) ∧ (Same w18 w19 [b1, b2] ∧ (∀ (w20 : World), Chg [b1] w19 w20 → (J2 r13 r14 r15 r16 r16n r16c r17 r17n r17c w20))))))))) ∧ ((!((t4 == 0) && (t5 == 0))) = false → J2 c5 c6 c7 c8 c8n c8c c9 c9n c9c w16))))) ∧ ((decide (i2 < (l1n : Int))) = false → ∀ (w21 : World), Chg [b2] w16 w21 → (R c5 c6 c7 c8 c8n c8c c9 c9n c9c 0 w21)))))))
set_option maxRecDepth 100000 in
theorem go_pomanderref12_Flow_Apply (f1 : Int) (f2 : Int) (f3 : Int) (f4 : Option Addr) (f4n : Nat) (f4c : Nat) (f5 : Option Addr) (f5n : Nat) (f5c : Nat) (l1 : Option Addr) (l1n : Nat) (l1c : Nat) (w : World) (R : Int → Int → Int → (Option Addr) → Nat → Nat → (Option Addr) → Nat → Nat → Int → World → Prop) (h : W_pomanderref12_Flow_Apply f1 f2 f3 f4 f4n f4c f5 f5n f5c l1 l1n l1c w R) : Calls Try.prog 72 #[.agg #[.int .i64 f1, .int .i64 f2, .int .i64 f3, .slice f4 f4n f4c, .slice f5 f5n f5c], .slice l1 l1n l1c] w (fun e w' => ∃ (r1 : Int) (r2 : Int) (r3 : Int) (r4 : Option Addr) (r4n : Nat) (r4c : Nat) (r5 : Option Addr) (r5n : Nat) (r5c : Nat) (r6 : Int), e = .returned (.tuple #[.agg #[.int .i64 r1, .int .i64 r2, .int .i64 r3, .slice r4 r4n r4c, .slice r5 r5n r5c], .int .i64 r6]) ∧ R r1 r2 r3 r4 r4n r4c r5 r5n r5c r6 w') := by
  unfold W_pomanderref12_Flow_Apply at h
  refine enter (N := 81) Try.func72 rfl rfl ?_
  refine CW.seq ?_
  refine CW.region fun L hL => ?_
  obtain ⟨b1, hb_b1⟩ : ∃ b1, b1 = World.size w := ⟨_, rfl⟩
  obtain ⟨w1, hw_w1⟩ : ∃ w1, w1 = World.alloc w (.cells #[.int .i64 f1, .int .i64 f2, .int .i64 f3, .slice f4 f4n f4c, .slice f5 f5n f5c] 36) := ⟨_, rfl⟩
  refine LW.val hL rfl (Wants.free rfl) rfl (boxE hb_b1 hw_w1 (Vl.box (v := .agg #[.int .i64 f1, .int .i64 f2, .int .i64 f3, .slice f4 f4n f4c, .slice f5 f5n f5c]) rfl)) ?_
  have hB := Boxes.alloc (cs := [.int .i64 f1, .int .i64 f2, .int .i64 f3, .slice f4 f4n f4c, .slice f5 f5n f5c]) (T := 36) (Boxes.nil w) hb_b1 hw_w1
  have hlo_b1 := sil_lo (Chg.refl [] w) hb_b1
  have hc_w1 := sil_alloc (Chg.refl [] w) hw_w1
  obtain ⟨b2, hb_b2⟩ : ∃ b2, b2 = World.size w1 := ⟨_, rfl⟩
  obtain ⟨w2, hw_w2⟩ : ∃ w2, w2 = World.alloc w1 (.cells #[.int .i64 0, .int .i64 0, .int .i64 0, .slice none 0 0, .slice none 0 0] 36) := ⟨_, rfl⟩
  refine LW.val hL rfl (Wants.free rfl) rfl (boxE hb_b2 hw_w2 (Vl.alloc (z := .agg #[.int .i64 0, .int .i64 0, .int .i64 0, .slice none 0 0, .slice none 0 0]) (by kernel_rfl))) ?_
  replace hB := Boxes.alloc (cs := [.int .i64 0, .int .i64 0, .int .i64 0, .slice none 0 0, .slice none 0 0]) (T := 36) hB hb_b2 hw_w2
  have hlo_b2 := sil_lo hc_w1 hb_b2
  have hc_w2 := sil_alloc hc_w1 hw_w2
  refine LW.rd hL rfl (Wants.free rfl) rfl (Rd.assign (v := .int .i64 0) rfl) ?_
  refine LW.nil hL rfl ?_
  refine NW.then ?_
  refine CW.seq ?_
  refine CW.seq ?_
  refine CW.region fun L hL => ?_
  refine LW.rd hL rfl (Wants.free rfl) rfl (Rd.ldN (cs := [.int .i64 f1, .int .i64 f2, .int .i64 f3, .slice f4 f4n f4c, .slice f5 f5n f5c]) rfl (by kernel_rfl) (by kernel_rfl) (cellsS (box_cells (hB.at (i := 1) rfl) rfl))) ?_
  refine LW.rd hL rfl (Wants.free rfl) rfl (Rd.move (v := .slice l1 l1n l1c) rfl) ?_
  replace h := h b2 b1 w2 ⟨hlo_b2, lt_of_heap (hB.at (i := 0) rfl)⟩ ⟨hlo_b1, lt_of_heap (hB.at (i := 1) rfl)⟩ hc_w2
  refine LW.call hL rfl (Wants.free rfl) rfl (Cl.fn (f := 70) rfl Try.func70 (by kernel_rfl) rfl) h (fun e w3 h_ => ?_)
  clear h
  obtain ⟨r7, rfl, h⟩ := h_
  obtain ⟨hsm1, h⟩ := h
  replace hB := Boxes.same hB (by exact hsm1)
  refine ⟨_, rfl, ?_⟩
  refine LW.rd hL rfl (Wants.free rfl) rfl (Rd.un (v := .bool (!r7)) rfl (fun _ => by kernel_rfl)) ?_
  refine LW.nil hL rfl ?_
  refine NW.then ?_
  refine CW.cond rfl (fun hb1 => ?_) (fun hb1 => ?_)
  · replace h := h.1 hb1
    refine CW.seq ?_
    refine CW.region fun L hL => ?_
    refine LW.rd hL rfl (Wants.free rfl) rfl (Rd.ldN (cs := [.int .i64 f1, .int .i64 f2, .int .i64 f3, .slice f4 f4n f4c, .slice f5 f5n f5c]) rfl (by kernel_rfl) (by kernel_rfl) (cellsS (box_cells (hB.at (i := 1) rfl) rfl))) ?_
    obtain ⟨w4, hw_w4⟩ : ∃ x, x = setCells w3 (⟨b2, 0, none⟩ : Addr) 0 [.int .i64 f1, .int .i64 f2, .int .i64 f3, .slice f4 f4n f4c, .slice f5 f5n f5c] := ⟨_, rfl⟩
    refine LW.eff hL rfl (Wants.free rfl) rfl (stNE hw_w4 (Ef.stN (cs := [.int .i64 f1, .int .i64 f2, .int .i64 f3, .slice f4 f4n f4c, .slice f5 f5n f5c]) rfl rfl (by kernel_rfl) (List.forall_mem_cons.2 ⟨rfl, (List.forall_mem_cons.2 ⟨rfl, (List.forall_mem_cons.2 ⟨rfl, (List.forall_mem_cons.2 ⟨rfl, (List.forall_mem_cons.2 ⟨rfl, (List.forall_mem_nil _)⟩)⟩)⟩)⟩)⟩) (has_of (hB.at (i := 0) rfl) (by simp)) (free_of' (hB.at (i := 0) rfl)))) ?_
    replace hB : Boxes w4 [(b2, [.int .i64 f1, .int .i64 f2, .int .i64 f3, .slice f4 f4n f4c, .slice f5 f5n f5c], 36), (b1, [.int .i64 f1, .int .i64 f2, .int .i64 f3, .slice f4 f4n f4c, .slice f5 f5n f5c], 36)] := Boxes.store (vs := [.int .i64 f1, .int .i64 f2, .int .i64 f3, .slice f4 f4n f4c, .slice f5 f5n f5c]) (i := 0) (o := 0) hB rfl rfl rfl rfl hw_w4
    have hc_w4 : Chg [b2] w3 w4 := sil_more (Chg.refl [] w3) (sil_cN hw_w4)
    refine LW.rd hL rfl (Wants.free rfl) rfl (Rd.assign (v := .int .i64 2) rfl) ?_
    refine LW.nil hL rfl ?_
    refine NW.then ?_
    replace h := h  w4  hc_w4
    refine CW.ret ?_
    refine RW.then ?_
    exact resN (vs := [.agg #[.int .i64 f1, .int .i64 f2, .int .i64 f3, .slice f4 f4n f4c, .slice f5 f5n f5c], .int .i64 2]) (ResOK.c rfl (lvN (cs := [.int .i64 f1, .int .i64 f2, .int .i64 f3, .slice f4 f4n f4c, .slice f5 f5n f5c]) (by kernel_rfl) (by kernel_rfl) (cellsAt_get (box_cells (hB.at (i := 0) rfl) rfl))) (ResOK.t rfl ResOK.nil)) rfl ⟨f1, f2, f3, f4, f4n, f4c, f5, f5n, f5c, 2, rfl, h⟩
  · replace h := h.2 hb1
    refine CW.skip ?_
    refine NW.then ?_
    refine CW.seq ?_
    refine CW.region fun L hL => ?_
    refine LW.rd hL rfl (Wants.free rfl) rfl (Rd.assign (v := .slice none 0 0) rfl) ?_
    refine LW.nil hL rfl ?_
    refine NW.then ?_
    refine CW.seq ?_
    refine CW.seq ?_
    refine CW.region fun L hL => ?_
    refine LW.rd hL rfl (Wants.free rfl) rfl (Rd.assign (v := .int .i64 0) rfl) ?_
    refine LW.nil hL rfl ?_
    refine NW.then ?_
    refine CW.block ?_
    obtain ⟨I1, m1, hI1, h⟩ := h
    refine CW.loop (S := Int × (Option Addr) × Nat × Nat × Int × Int × (Option Addr) × Nat × Nat) (fun s1 => [(1, .slice l1 l1n l1c), (2, .pointer (some (⟨b1, 0, none⟩ : Addr))), (4, .pointer (some (⟨b2, 0, none⟩ : Addr))), (5, .int .i64 s1.1), (6, .slice s1.2.1 s1.2.2.1 s1.2.2.2.1), (7, .int .i64 s1.2.2.2.2.1)]) (fun s1 w5 => I1 s1.1 s1.2.1 s1.2.2.1 s1.2.2.2.1 s1.2.2.2.2.1 s1.2.2.2.2.2.1 s1.2.2.2.2.2.2.1 s1.2.2.2.2.2.2.2.1 s1.2.2.2.2.2.2.2.2 w5 ∧ ∃ (u1 u2 u3 u4 u5 : Value), Boxes w5 [(b1, [.int .i64 f1, .int .i64 f2, .int .i64 s1.2.2.2.2.2.1, .slice s1.2.2.2.2.2.2.1 s1.2.2.2.2.2.2.2.1 s1.2.2.2.2.2.2.2.2, .slice f5 f5n f5c], 36), (b2, [u1, u2, u3, u4, u5], 36)]) (fun s1 w5 => m1 s1.1 s1.2.1 s1.2.2.1 s1.2.2.2.1 s1.2.2.2.2.1 s1.2.2.2.2.2.1 s1.2.2.2.2.2.2.1 s1.2.2.2.2.2.2.2.1 s1.2.2.2.2.2.2.2.2 w5) (0, none, 0, 0, 0, f3, f4, f4n, f4c) (by exact ⟨rfl, rfl, rfl, rfl, rfl, rfl, trivial⟩) ⟨hI1, .int .i64 0, .int .i64 0, .int .i64 0, .slice none 0 0, .slice none 0 0, (hB.sel [1, 0] (by decide) rfl)⟩ (fun s1 w5 hI1 => ?_)
    obtain ⟨hI1, u1, u2, u3, u4, u5, hB⟩ := hI1
    obtain ⟨x1, sets1, sets1n, sets1c, i1, c1, c2, c2n, c2c⟩ := s1; replace h := h x1 sets1 sets1n sets1c i1 c1 c2 c2n c2c w5 hI1
    refine CW.seq ?_
    refine CW.seq ?_
    refine CW.region fun L hL => ?_
    refine LW.rd hL rfl (Wants.free rfl) rfl (Rd.move (v := .int .i64 i1) rfl) ?_
    refine LW.rd hL rfl (Wants.free rfl) rfl (Rd.move (v := .slice l1 l1n l1c) rfl) ?_
    refine LW.rd hL rfl (Wants.free rfl) rfl (Rd.builtin (v := .int .i64 (l1n : Int)) rfl (fun _ _ => by kernel_rfl)) ?_
    refine LW.rd hL rfl (Wants.free rfl) rfl (Rd.bin (v := .bool (decide (i1 < (l1n : Int)))) rfl rfl (fun w => by kernel_rfl)) ?_
    refine LW.nil hL rfl ?_
    refine NW.then ?_
    refine CW.cond rfl (fun hb2 => ?_) (fun hb2 => ?_)
    · replace h := h.1 hb2
      refine CW.skip ?_
      refine NW.then ?_
      refine CW.seq ?_
      refine CW.block ?_
      refine CW.seq ?_
      refine CW.region fun L hL => ?_
      refine LW.rd hL rfl (Wants.free rfl) rfl (Rd.assign (v := .int .u32 0) rfl) ?_
      refine LW.nil hL rfl ?_
      refine NW.then ?_
      obtain ⟨J1, hJ1, h⟩ := h
      refine CW.cut (S := Int × Int × Int × (Option Addr) × Nat × Nat) (fun s2 => [(1, .slice l1 l1n l1c), (2, .pointer (some (⟨b1, 0, none⟩ : Addr))), (4, .pointer (some (⟨b2, 0, none⟩ : Addr))), (6, .slice sets1 sets1n sets1c), (7, .int .i64 i1), (5, .int .i64 s2.1), (8, .int .u32 s2.2.1)]) (fun s2 w6 => J1 s2.1 s2.2.1 s2.2.2.1 s2.2.2.2.1 s2.2.2.2.2.1 s2.2.2.2.2.2 w6 ∧ ∃ (u6 u7 u8 u9 u10 : Value), Boxes w6 [(b1, [.int .i64 f1, .int .i64 f2, .int .i64 s2.2.2.1, .slice s2.2.2.2.1 s2.2.2.2.2.1 s2.2.2.2.2.2, .slice f5 f5n f5c], 36), (b2, [u6, u7, u8, u9, u10], 36)]) (fun s2 w6 h_ => ?_) ?_
      · obtain ⟨h_, u6, u7, u8, u9, u10, hB⟩ := h_; obtain ⟨x2, set1, c3, c4, c4n, c4c⟩ := s2; replace h := hJ1 x2 set1 c3 c4 c4n c4c w6 h_; clear h_
        refine CW.region fun L hL => ?_
        refine LW.rd hL rfl (Wants.free rfl) rfl (Rd.move (v := .slice sets1 sets1n sets1c) rfl) ?_
        refine LW.rd hL rfl (Wants.free rfl) rfl (Rd.move (v := .int .u32 set1) rfl) ?_
        obtain ⟨b3, hb_b3⟩ : ∃ b3, b3 = World.size w6 := ⟨_, rfl⟩
        obtain ⟨w7, hw_w7⟩ : ∃ w7, w7 = World.alloc w6 (.cells #[.int .u32 set1] 22) := ⟨_, rfl⟩
        replace h := h b3 hb_b3 w7 hw_w7
        refine LW.val hL rfl (Wants.free rfl) rfl (sliceE (n := 1) hb_b3 hw_w7 (fun w => Vl.buildSlice (vs := [(0, .int .u32 set1)]) rfl (by kernel_rfl))) ?_
        replace hB := hB.grow hw_w7
        obtain ⟨l2, l2n, l2c, w8, ha1, h⟩ := h
        refine LW.val hL rfl (Wants.free rfl) rfl (Vl.builtin (v := .slice l2 l2n l2c) rfl (valB ha1)) ?_
        obtain ⟨hsm2, h⟩ := h
        replace hB := Boxes.same hB (by exact hsm2)
        refine LW.rd hL rfl (Wants.free rfl) rfl (Rd.assign (v := .slice l2 l2n l2c) rfl) ?_
        refine LW.nil hL rfl ?_
        refine NW.block ?_
        refine NW.then ?_
        refine CW.region fun L hL => ?_
        refine LW.rd hL rfl (Wants.free rfl) rfl (Rd.move (v := .int .i64 i1) rfl) ?_
        refine LW.rd hL rfl (Wants.free rfl) rfl (Rd.bin (v := .int .i64 (IntKind.wrap .i64 (i1 + 1))) rfl rfl (fun w => by kernel_rfl)) ?_
        refine LW.rd hL rfl (Wants.free rfl) rfl (Rd.assign (v := .int .i64 (IntKind.wrap .i64 (i1 + 1))) rfl) ?_
        refine LW.nil hL rfl ?_
        exact NW.loop (S := Int × (Option Addr) × Nat × Nat × Int × Int × (Option Addr) × Nat × Nat) (Ek := fun s1 => [(1, .slice l1 l1n l1c), (2, .pointer (some (⟨b1, 0, none⟩ : Addr))), (4, .pointer (some (⟨b2, 0, none⟩ : Addr))), (5, .int .i64 s1.1), (6, .slice s1.2.1 s1.2.2.1 s1.2.2.2.1), (7, .int .i64 s1.2.2.2.2.1)]) (x2, l2, l2n, l2c, IntKind.wrap .i64 (i1 + 1), c3, c4, c4n, c4c) (by exact ⟨rfl, rfl, rfl, rfl, rfl, rfl, trivial⟩) ⟨⟨h.1, u6, u7, u8, u9, u10, hB⟩, h.2⟩
      · skip
        refine CW.seq ?_
        refine CW.region fun L hL => ?_
        refine LW.rd hL rfl (Wants.free rfl) rfl (Rd.move (v := .slice l1 l1n l1c) rfl) ?_
        refine LW.rd hL rfl (Wants.free rfl) rfl (Rd.move (v := .int .i64 i1) rfl) ?_
        obtain ⟨a1, he1, hi1, hi2, h⟩ := h
        refine LW.rd hL rfl (Wants.free rfl) rfl (Rd.iaS (q := a1) (sz := 3) (by rw [← he1]; rfl) rfl Try.underlying25 (by kernel_rfl) hi1 hi2) ?_
        refine LW.rd hL rfl (Wants.free rfl) rfl (Rd.fa (v := .pointer (some (a1.add (Int.toNat i1 * 3)))) rfl (fun _ => by kernel_rfl)) ?_
        obtain ⟨t1, t2, hc1, h⟩ := h
        refine LW.rd hL rfl (Wants.free rfl) rfl (Rd.ldN (cs := [.int .i64 t1, .int .i64 t2]) rfl (by kernel_rfl) (by kernel_rfl) (cellsS hc1)) ?_
        refine LW.rd hL rfl (Wants.free rfl) rfl (Rd.build (v := .agg #[.int .i64 0, .int .i64 0]) rfl (fun _ => by kernel_rfl)) ?_
        refine LW.rd hL rfl (Wants.free rfl) rfl (Rd.bin (v := .bool (!((t1 == 0) && (t2 == 0)))) rfl rfl (fun w => neS_56 _ _ _ _ w)) ?_
        refine LW.nil hL rfl ?_
        refine NW.then ?_
        refine CW.cond rfl (fun hb3 => ?_) (fun hb3 => ?_)
        · replace h := h.1 hb3
          refine CW.seq ?_
          obtain ⟨w9, hw_w9⟩ : ∃ x, x = World.drew w5 := ⟨_, rfl⟩
          have hc_w9 := sil_drew (Chg.refl [] w5) hw_w9
          replace hB := hB.drew hw_w9
          refine CW.drawn (fun w => w = w9) 6 (by kernel_rfl) fun H hH => ?_
          rw [← hw_w9]
          refine HW.take (i := 0) hH rfl (by kernel_rfl) (by kernel_rfl) (Wants.free rfl) rfl (fun _ => rfl) (Rd.ldN (cs := [.int .i64 f1, .int .i64 f2, .int .i64 c1, .slice c2 c2n c2c, .slice f5 f5n f5c]) rfl (by kernel_rfl) (by kernel_rfl) (cellsS (box_cells (hB.at (i := 0) rfl) rfl))) ?_
          refine HW.pure (i := 1) hH rfl (by kernel_rfl) (Wants.free rfl) rfl (fun _ => rfl) (Rd.move (v := .slice l1 l1n l1c) rfl) ?_
          refine HW.pure (i := 2) hH rfl (by kernel_rfl) (Wants.free rfl) rfl (fun _ => rfl) (Rd.move (v := .int .i64 i1) rfl) ?_
          refine HW.pure (i := 3) hH rfl (by kernel_rfl) (Wants.free rfl) rfl (fun _ => rfl) (Rd.iaS (q := a1) (sz := 3) (by rw [← he1]; rfl) rfl Try.underlying25 (by kernel_rfl) hi1 hi2) ?_
          refine HW.pure (i := 4) hH rfl (by kernel_rfl) (Wants.free rfl) rfl (fun _ => rfl) (Rd.fa (v := .pointer (some ((a1.add (Int.toNat i1 * 3)).add 2))) rfl (fun _ => by kernel_rfl)) ?_
          replace h := h  w9  hc_w9
          obtain ⟨t3, t3n, t3c, hc2, h⟩ := h
          refine HW.take (i := 5) hH rfl (by kernel_rfl) (by kernel_rfl) (Wants.free rfl) rfl (fun _ => rfl) (Rd.ld (v := .slice t3 t3n t3c) rfl (by kernel_rfl) (eqs hc2)) ?_
          refine HW.call (i := 6) hH (by kernel_rfl) rfl (Wants.free rfl) rfl (Cl.fn (f := 107) rfl Try.func107 (by kernel_rfl) rfl) h (fun e w10 h_ => ?_)
          clear h
          obtain ⟨r8, rfl, h⟩ := h_
          obtain ⟨hsm3, h⟩ := h
          replace hB := Boxes.same hB (by exact hsm3)
          refine ⟨_, rfl, (fun hc => by cases hc), ?_⟩
          refine HW.pure (i := 7) hH rfl (by kernel_rfl) (Wants.free rfl) rfl (fun hc => by cases hc) (Rd.assign (v := .int .u32 r8) rfl) ?_
          refine HW.done hH (by kernel_rfl) ?_
          refine NW.then ?_
          refine CW.seq ?_
          refine CW.region fun L hL => ?_
          refine LW.rd hL rfl (Wants.free rfl) rfl (Rd.fa (v := .pointer (some (⟨b1, 2, none⟩ : Addr))) rfl (fun _ => by kernel_rfl)) ?_
          refine LW.rd hL rfl (Wants.free rfl) rfl (Rd.ldN (cs := [.int .i64 c1, .slice c2 c2n c2c]) rfl (by kernel_rfl) (by kernel_rfl) (cellsS (box_cells (hB.at (i := 0) rfl) rfl))) ?_
          refine LW.rd hL rfl (Wants.free rfl) rfl (Rd.move (v := .int .u32 r8) rfl) ?_
          refine LW.call hL rfl (Wants.free rfl) rfl (Cl.fn (f := 104) rfl Try.func104 (by kernel_rfl) rfl) h (fun e w11 h_ => ?_)
          clear h
          obtain ⟨r9, r10, r10n, r10c, r11, r12, rfl, h⟩ := h_
          obtain ⟨hsm4, h⟩ := h
          replace hB := Boxes.same hB (by exact hsm4)
          refine ⟨_, rfl, ?_⟩
          refine LW.rd hL rfl (Wants.free rfl) rfl (Rd.move (v := .tuple #[.agg #[.int .i64 r9, .slice r10 r10n r10c], .int .i64 r11, .int .i64 r12]) rfl) ?_
          refine LW.rd hL rfl (Wants.free rfl) rfl (Rd.extract (v := .agg #[.int .i64 r9, .slice r10 r10n r10c]) rfl rfl) ?_
          refine LW.rd hL rfl (Wants.free rfl) rfl (Rd.extract (v := .int .i64 r11) rfl rfl) ?_
          refine LW.rd hL rfl (Wants.free rfl) rfl (Rd.extract (v := .int .i64 r12) rfl rfl) ?_
          obtain ⟨b4, hb_b4⟩ : ∃ b4, b4 = World.size w11 := ⟨_, rfl⟩
          obtain ⟨w12, hw_w12⟩ : ∃ w12, w12 = World.alloc w11 (.cells #[.int .i64 0, .slice none 0 0] 33) := ⟨_, rfl⟩
          refine LW.val hL rfl (Wants.free rfl) rfl (boxE hb_b4 hw_w12 (Vl.alloc (z := .agg #[.int .i64 0, .slice none 0 0]) (by kernel_rfl))) ?_
          replace hB := Boxes.alloc (cs := [.int .i64 0, .slice none 0 0]) (T := 33) hB hb_b4 hw_w12
          have hlo_b4 := sil_lo (Chg.refl [] w11) hb_b4
          have hc_w12 := sil_alloc (Chg.refl [] w11) hw_w12
          obtain ⟨w13, hw_w13⟩ : ∃ x, x = setCells w12 (⟨b4, 0, none⟩ : Addr) 0 [.int .i64 r9, .slice r10 r10n r10c] := ⟨_, rfl⟩
          refine LW.eff hL rfl (Wants.free rfl) rfl (stNE hw_w13 (Ef.stN (cs := [.int .i64 r9, .slice r10 r10n r10c]) rfl rfl (by kernel_rfl) (List.forall_mem_cons.2 ⟨rfl, (List.forall_mem_cons.2 ⟨rfl, (List.forall_mem_nil _)⟩)⟩) (has_of (hB.at (i := 0) rfl) (by simp)) (free_of' (hB.at (i := 0) rfl)))) ?_
          replace hB : Boxes w13 [(b4, [.int .i64 r9, .slice r10 r10n r10c], 33), (b1, [.int .i64 f1, .int .i64 f2, .int .i64 c1, .slice c2 c2n c2c, .slice f5 f5n f5c], 36), (b2, [u1, u2, u3, u4, u5], 36)] := Boxes.store (vs := [.int .i64 r9, .slice r10 r10n r10c]) (i := 0) (o := 0) hB rfl rfl rfl rfl hw_w13
          have hc_w13 := sil_new hc_w12 (sil_cN hw_w13) hlo_b4
          refine LW.rd hL rfl (Wants.free rfl) rfl (Rd.assign (v := .int .i64 r11) rfl) ?_
          refine LW.rd hL rfl (Wants.free rfl) rfl (Rd.assign (v := .int .i64 r12) rfl) ?_
          refine LW.nil hL rfl ?_
          refine NW.then ?_
          refine CW.seq ?_
          refine CW.seq ?_
          refine CW.region fun L hL => ?_
          refine LW.rd hL rfl (Wants.free rfl) rfl (Rd.move (v := .int .i64 r12) rfl) ?_
          refine LW.rd hL rfl (Wants.free rfl) rfl (Rd.bin (v := .bool (!(r12 == 0))) rfl rfl (fun w => by kernel_rfl)) ?_
          refine LW.nil hL rfl ?_
          refine NW.then ?_
          replace h := h b4 w13 ⟨hlo_b4, lt_of_heap (hB.at (i := 0) rfl)⟩ hc_w13
          refine CW.cond rfl (fun hb4 => ?_) (fun hb4 => ?_)
          · replace h := h.1 hb4
            refine CW.seq ?_
            refine CW.region fun L hL => ?_
            refine LW.rd hL rfl (Wants.free rfl) rfl (Rd.ldN (cs := [.int .i64 f1, .int .i64 f2, .int .i64 c1, .slice c2 c2n c2c, .slice f5 f5n f5c]) rfl (by kernel_rfl) (by kernel_rfl) (cellsS (box_cells (hB.at (i := 1) rfl) rfl))) ?_
            refine LW.rd hL rfl (Wants.free rfl) rfl (Rd.move (v := .int .i64 r12) rfl) ?_
            obtain ⟨w14, hw_w14⟩ : ∃ x, x = setCells w13 (⟨b2, 0, none⟩ : Addr) 0 [.int .i64 f1, .int .i64 f2, .int .i64 c1, .slice c2 c2n c2c, .slice f5 f5n f5c] := ⟨_, rfl⟩
            refine LW.eff hL rfl (Wants.free rfl) rfl (stNE hw_w14 (Ef.stN (cs := [.int .i64 f1, .int .i64 f2, .int .i64 c1, .slice c2 c2n c2c, .slice f5 f5n f5c]) rfl rfl (by kernel_rfl) (List.forall_mem_cons.2 ⟨rfl, (List.forall_mem_cons.2 ⟨rfl, (List.forall_mem_cons.2 ⟨rfl, (List.forall_mem_cons.2 ⟨rfl, (List.forall_mem_cons.2 ⟨rfl, (List.forall_mem_nil _)⟩)⟩)⟩)⟩)⟩) (has_of (hB.at (i := 2) rfl) (by simp)) (free_of' (hB.at (i := 2) rfl)))) ?_
            replace hB : Boxes w14 [(b4, [.int .i64 r9, .slice r10 r10n r10c], 33), (b1, [.int .i64 f1, .int .i64 f2, .int .i64 c1, .slice c2 c2n c2c, .slice f5 f5n f5c], 36), (b2, [.int .i64 f1, .int .i64 f2, .int .i64 c1, .slice c2 c2n c2c, .slice f5 f5n f5c], 36)] := Boxes.store (vs := [.int .i64 f1, .int .i64 f2, .int .i64 c1, .slice c2 c2n c2c, .slice f5 f5n f5c]) (i := 2) (o := 0) hB rfl rfl rfl rfl hw_w14
            have hc_w14 : Chg [b2] w13 w14 := sil_more (Chg.refl [] w13) (sil_cN hw_w14)
            refine LW.rd hL rfl (Wants.free rfl) rfl (Rd.assign (v := .int .i64 r12) rfl) ?_
            refine LW.nil hL rfl ?_
            refine NW.then ?_
            replace h := h  w14  hc_w14
            refine CW.ret ?_
            refine RW.then ?_
            refine RW.then ?_
            refine RW.block ?_
            refine RW.then ?_
            refine RW.then ?_
            refine RW.block ?_
            refine RW.then ?_
            exact resN (vs := [.agg #[.int .i64 f1, .int .i64 f2, .int .i64 c1, .slice c2 c2n c2c, .slice f5 f5n f5c], .int .i64 r12]) (ResOK.c rfl (lvN (cs := [.int .i64 f1, .int .i64 f2, .int .i64 c1, .slice c2 c2n c2c, .slice f5 f5n f5c]) (by kernel_rfl) (by kernel_rfl) (cellsAt_get (box_cells (hB.at (i := 2) rfl) rfl))) (ResOK.t rfl ResOK.nil)) rfl ⟨f1, f2, c1, c2, c2n, c2c, f5, f5n, f5c, r12, rfl, h⟩
          · replace h := h.2 hb4
            refine CW.skip ?_
            refine NW.then ?_
            refine CW.region fun L hL => ?_
            refine LW.rd hL rfl (Wants.free rfl) rfl (Rd.ldN (cs := [.int .i64 r9, .slice r10 r10n r10c]) rfl (by kernel_rfl) (by kernel_rfl) (cellsS (box_cells (hB.at (i := 0) rfl) rfl))) ?_
            refine LW.rd hL rfl (Wants.free rfl) rfl (Rd.fa (v := .pointer (some (⟨b1, 2, none⟩ : Addr))) rfl (fun _ => by kernel_rfl)) ?_
            obtain ⟨w15, hw_w15⟩ : ∃ x, x = setCells w13 (⟨b1, 2, none⟩ : Addr) 0 [.int .i64 r9, .slice r10 r10n r10c] := ⟨_, rfl⟩
            refine LW.eff hL rfl (Wants.free rfl) rfl (stNE hw_w15 (Ef.stN (cs := [.int .i64 r9, .slice r10 r10n r10c]) rfl rfl (by kernel_rfl) (List.forall_mem_cons.2 ⟨rfl, (List.forall_mem_cons.2 ⟨rfl, (List.forall_mem_nil _)⟩)⟩) (has_of (hB.at (i := 1) rfl) (by simp)) (free_of' (hB.at (i := 1) rfl)))) ?_
            replace hB : Boxes w15 [(b4, [.int .i64 r9, .slice r10 r10n r10c], 33), (b1, [.int .i64 f1, .int .i64 f2, .int .i64 r9, .slice r10 r10n r10c, .slice f5 f5n f5c], 36), (b2, [u1, u2, u3, u4, u5], 36)] := Boxes.store (vs := [.int .i64 r9, .slice r10 r10n r10c]) (i := 1) (o := 2) hB rfl rfl rfl rfl hw_w15
            have hc_w15 : Chg [b1] w13 w15 := sil_more (Chg.refl [] w13) (sil_cN hw_w15)
            refine LW.nil hL rfl ?_
            replace h := h  w15  hc_w15
            exact NW.cut (S := Int × Int × Int × (Option Addr) × Nat × Nat) (Ek := fun s2 => [(1, .slice l1 l1n l1c), (2, .pointer (some (⟨b1, 0, none⟩ : Addr))), (4, .pointer (some (⟨b2, 0, none⟩ : Addr))), (6, .slice sets1 sets1n sets1c), (7, .int .i64 i1), (5, .int .i64 s2.1), (8, .int .u32 s2.2.1)]) (x1, r8, r9, r10, r10n, r10c) (by exact ⟨rfl, rfl, rfl, rfl, rfl, rfl, rfl, trivial⟩) ⟨h, u1, u2, u3, u4, u5, (hB.sel [1, 2] (by decide) rfl)⟩
        · replace h := h.2 hb3
          refine CW.skip ?_
          exact NW.cut (S := Int × Int × Int × (Option Addr) × Nat × Nat) (Ek := fun s2 => [(1, .slice l1 l1n l1c), (2, .pointer (some (⟨b1, 0, none⟩ : Addr))), (4, .pointer (some (⟨b2, 0, none⟩ : Addr))), (6, .slice sets1 sets1n sets1c), (7, .int .i64 i1), (5, .int .i64 s2.1), (8, .int .u32 s2.2.1)]) (x1, 0, c1, c2, c2n, c2c) (by exact ⟨rfl, rfl, rfl, rfl, rfl, rfl, rfl, trivial⟩) ⟨h, u1, u2, u3, u4, u5, hB⟩
    · replace h := h.2 hb2
      refine CW.exit ?_
      refine XW.then ?_
      refine XW.then ?_
      refine XW.hit ?_
      refine NW.then ?_
      refine CW.seq ?_
      refine CW.seq ?_
      refine CW.region fun L hL => ?_
      refine LW.rd hL rfl (Wants.free rfl) rfl (Rd.assign (v := .int .i64 0) rfl) ?_
      refine LW.nil hL rfl ?_
      refine NW.then ?_
      refine CW.block ?_
      obtain ⟨I2, m2, hI2, h⟩ := h
      refine CW.loop (S := Int × Int × Int × Int × (Option Addr) × Nat × Nat × (Option Addr) × Nat × Nat) (fun s3 => [(1, .slice l1 l1n l1c), (2, .pointer (some (⟨b1, 0, none⟩ : Addr))), (4, .pointer (some (⟨b2, 0, none⟩ : Addr))), (5, .int .i64 x1), (6, .slice sets1 sets1n sets1c), (12, .int .i64 s3.1)]) (fun s3 w16 => I2 s3.1 s3.2.1 s3.2.2.1 s3.2.2.2.1 s3.2.2.2.2.1 s3.2.2.2.2.2.1 s3.2.2.2.2.2.2.1 s3.2.2.2.2.2.2.2.1 s3.2.2.2.2.2.2.2.2.1 s3.2.2.2.2.2.2.2.2.2 w16 ∧ Boxes w16 [(b1, [.int .i64 s3.2.1, .int .i64 s3.2.2.1, .int .i64 s3.2.2.2.1, .slice s3.2.2.2.2.1 s3.2.2.2.2.2.1 s3.2.2.2.2.2.2.1, .slice s3.2.2.2.2.2.2.2.1 s3.2.2.2.2.2.2.2.2.1 s3.2.2.2.2.2.2.2.2.2], 36), (b2, [u1, u2, u3, u4, u5], 36)]) (fun s3 w16 => m2 s3.1 s3.2.1 s3.2.2.1 s3.2.2.2.1 s3.2.2.2.2.1 s3.2.2.2.2.2.1 s3.2.2.2.2.2.2.1 s3.2.2.2.2.2.2.2.1 s3.2.2.2.2.2.2.2.2.1 s3.2.2.2.2.2.2.2.2.2 w16) (0, f1, f2, c1, c2, c2n, c2c, f5, f5n, f5c) (by exact ⟨rfl, rfl, rfl, rfl, rfl, rfl, trivial⟩) ⟨hI2, hB⟩ (fun s3 w16 hI2 => ?_)
      obtain ⟨hI2, hB⟩ := hI2
      obtain ⟨i2, c5, c6, c7, c8, c8n, c8c, c9, c9n, c9c⟩ := s3; replace h := h i2 c5 c6 c7 c8 c8n c8c c9 c9n c9c w16 hI2
      refine CW.seq ?_
      refine CW.seq ?_
      refine CW.region fun L hL => ?_
      refine LW.rd hL rfl (Wants.free rfl) rfl (Rd.move (v := .int .i64 i2) rfl) ?_
      refine LW.rd hL rfl (Wants.free rfl) rfl (Rd.move (v := .slice l1 l1n l1c) rfl) ?_
      refine LW.rd hL rfl (Wants.free rfl) rfl (Rd.builtin (v := .int .i64 (l1n : Int)) rfl (fun _ _ => by kernel_rfl)) ?_
      refine LW.rd hL rfl (Wants.free rfl) rfl (Rd.bin (v := .bool (decide (i2 < (l1n : Int)))) rfl rfl (fun w => by kernel_rfl)) ?_
      refine LW.nil hL rfl ?_
      refine NW.then ?_
      refine CW.cond rfl (fun hb5 => ?_) (fun hb5 => ?_)
      · replace h := h.1 hb5
        refine CW.skip ?_
        refine NW.then ?_
        obtain ⟨J2, hJ2, h⟩ := h
        refine CW.cut (S := Int × Int × Int × (Option Addr) × Nat × Nat × (Option Addr) × Nat × Nat) (fun s4 => [(1, .slice l1 l1n l1c), (2, .pointer (some (⟨b1, 0, none⟩ : Addr))), (4, .pointer (some (⟨b2, 0, none⟩ : Addr))), (5, .int .i64 x1), (6, .slice sets1 sets1n sets1c), (12, .int .i64 i2)]) (fun s4 w17 => J2 s4.1 s4.2.1 s4.2.2.1 s4.2.2.2.1 s4.2.2.2.2.1 s4.2.2.2.2.2.1 s4.2.2.2.2.2.2.1 s4.2.2.2.2.2.2.2.1 s4.2.2.2.2.2.2.2.2 w17 ∧ Boxes w17 [(b1, [.int .i64 s4.1, .int .i64 s4.2.1, .int .i64 s4.2.2.1, .slice s4.2.2.2.1 s4.2.2.2.2.1 s4.2.2.2.2.2.1, .slice s4.2.2.2.2.2.2.1 s4.2.2.2.2.2.2.2.1 s4.2.2.2.2.2.2.2.2], 36), (b2, [u1, u2, u3, u4, u5], 36)]) (fun s4 w17 h_ => ?_) ?_
        · obtain ⟨h_, hB⟩ := h_; obtain ⟨c10, c11, c12, c13, c13n, c13c, c14, c14n, c14c⟩ := s4; replace h := hJ2 c10 c11 c12 c13 c13n c13c c14 c14n c14c w17 h_; clear h_
          refine CW.region fun L hL => ?_
          refine LW.rd hL rfl (Wants.free rfl) rfl (Rd.move (v := .int .i64 i2) rfl) ?_
          refine LW.rd hL rfl (Wants.free rfl) rfl (Rd.bin (v := .int .i64 (IntKind.wrap .i64 (i2 + 1))) rfl rfl (fun w => by kernel_rfl)) ?_
          refine LW.rd hL rfl (Wants.free rfl) rfl (Rd.assign (v := .int .i64 (IntKind.wrap .i64 (i2 + 1))) rfl) ?_
          refine LW.nil hL rfl ?_
          exact NW.loop (S := Int × Int × Int × Int × (Option Addr) × Nat × Nat × (Option Addr) × Nat × Nat) (Ek := fun s3 => [(1, .slice l1 l1n l1c), (2, .pointer (some (⟨b1, 0, none⟩ : Addr))), (4, .pointer (some (⟨b2, 0, none⟩ : Addr))), (5, .int .i64 x1), (6, .slice sets1 sets1n sets1c), (12, .int .i64 s3.1)]) (IntKind.wrap .i64 (i2 + 1), c10, c11, c12, c13, c13n, c13c, c14, c14n, c14c) (by exact ⟨rfl, rfl, rfl, rfl, rfl, rfl, trivial⟩) ⟨⟨h.1, hB⟩, h.2⟩
        · skip
          refine CW.block ?_
          refine CW.seq ?_
          refine CW.region fun L hL => ?_
          refine LW.rd hL rfl (Wants.free rfl) rfl (Rd.move (v := .slice l1 l1n l1c) rfl) ?_
          refine LW.rd hL rfl (Wants.free rfl) rfl (Rd.move (v := .int .i64 i2) rfl) ?_
          obtain ⟨a2, he2, hi5, hi6, h⟩ := h
          refine LW.rd hL rfl (Wants.free rfl) rfl (Rd.iaS (q := a2) (sz := 3) (by rw [← he2]; rfl) rfl Try.underlying25 (by kernel_rfl) hi5 hi6) ?_
          refine LW.rd hL rfl (Wants.free rfl) rfl (Rd.fa (v := .pointer (some (a2.add (Int.toNat i2 * 3)))) rfl (fun _ => by kernel_rfl)) ?_
          obtain ⟨t4, t5, hc3, h⟩ := h
          refine LW.rd hL rfl (Wants.free rfl) rfl (Rd.ldN (cs := [.int .i64 t4, .int .i64 t5]) rfl (by kernel_rfl) (by kernel_rfl) (cellsS hc3)) ?_
          refine LW.rd hL rfl (Wants.free rfl) rfl (Rd.build (v := .agg #[.int .i64 0, .int .i64 0]) rfl (fun _ => by kernel_rfl)) ?_
          refine LW.rd hL rfl (Wants.free rfl) rfl (Rd.bin (v := .bool (!((t4 == 0) && (t5 == 0)))) rfl rfl (fun w => neS_56 _ _ _ _ w)) ?_
          refine LW.nil hL rfl ?_
          refine NW.then ?_
          refine CW.cond rfl (fun hb6 => ?_) (fun hb6 => ?_)
          · replace h := h.1 hb6
            obtain ⟨w18, hw_w18⟩ : ∃ x, x = World.drew w16 := ⟨_, rfl⟩
            have hc_w18 := sil_drew (Chg.refl [] w16) hw_w18
            replace hB := hB.drew hw_w18
            replace h := h  w18  hc_w18
            obtain ⟨t6, t7, hc4, h⟩ := h
            obtain ⟨a3, he3, hi9, hi10, h⟩ := h
            obtain ⟨t8, hc5, h⟩ := h
            refine CW.drawn (fun w => CellsAt w (a2.add (Int.toNat i2 * 3)) 0 [.int .i64 t6, .int .i64 t7] ∧ w.cell? (a3.add (Int.toNat i2 * 1)) = some (.int .u32 t8) ∧ Boxes w [(b1, [.int .i64 c5, .int .i64 c6, .int .i64 c7, .slice c8 c8n c8c, .slice c9 c9n c9c], 36)]) 11 (by kernel_rfl) fun H hH => ?_
            rw [← hw_w18]
            have hS1 : CellsAt w18 (a2.add (Int.toNat i2 * 3)) 0 [.int .i64 t6, .int .i64 t7] ∧ w18.cell? (a3.add (Int.toNat i2 * 1)) = some (.int .u32 t8) ∧ Boxes w18 [(b1, [.int .i64 c5, .int .i64 c6, .int .i64 c7, .slice c8 c8n c8c, .slice c9 c9n c9c], 36)] := ⟨hc4, hc5, (hB.sel [0] (by decide) rfl)⟩
            refine HW.take (i := 0) hH rfl (by kernel_rfl) (by kernel_rfl) (Wants.free rfl) rfl (fun _ => hS1) (Rd.ldN (cs := [.int .i64 c5, .int .i64 c6, .int .i64 c7, .slice c8 c8n c8c, .slice c9 c9n c9c]) rfl (by kernel_rfl) (by kernel_rfl) (fun w h => cellsAt_get (box_cells (Boxes.at (i := 0) h.2.2 rfl) rfl))) ?_
            refine HW.pure (i := 1) hH rfl (by kernel_rfl) (Wants.free rfl) rfl (fun _ => hS1) (Rd.move (v := .slice l1 l1n l1c) rfl) ?_
            refine HW.pure (i := 2) hH rfl (by kernel_rfl) (Wants.free rfl) rfl (fun _ => hS1) (Rd.move (v := .int .i64 i2) rfl) ?_
            refine HW.pure (i := 3) hH rfl (by kernel_rfl) (Wants.free rfl) rfl (fun _ => hS1) (Rd.iaS (q := a2) (sz := 3) (by rw [← he2]; rfl) rfl Try.underlying25 (by kernel_rfl) hi5 hi6) ?_
            refine HW.pure (i := 4) hH rfl (by kernel_rfl) (Wants.free rfl) rfl (fun _ => hS1) (Rd.fa (v := .pointer (some (a2.add (Int.toNat i2 * 3)))) rfl (fun _ => by kernel_rfl)) ?_
            refine HW.take (i := 5) hH rfl (by kernel_rfl) (by kernel_rfl) (Wants.free rfl) rfl (fun _ => hS1) (Rd.ldN (cs := [.int .i64 t6, .int .i64 t7]) rfl (by kernel_rfl) (by kernel_rfl) (fun w h => cellsAt_get h.1)) ?_
            refine HW.pure (i := 6) hH rfl (by kernel_rfl) (Wants.free rfl) rfl (fun _ => hS1) (Rd.move (v := .slice sets1 sets1n sets1c) rfl) ?_
            refine HW.pure (i := 7) hH rfl (by kernel_rfl) (Wants.free rfl) rfl (fun _ => hS1) (Rd.move (v := .int .i64 i2) rfl) ?_
            refine HW.pure (i := 8) hH rfl (by kernel_rfl) (Wants.free rfl) rfl (fun _ => hS1) (Rd.iaS (q := a3) (sz := 1) (by rw [← he3]; rfl) rfl Try.underlying31 (by kernel_rfl) hi9 hi10) ?_
            refine HW.take (i := 9) hH rfl (by kernel_rfl) (by kernel_rfl) (Wants.free rfl) rfl (fun _ => hS1) (Rd.ld (v := .int .u32 t8) rfl (by kernel_rfl) (fun w h => h.2.1)) ?_
            refine HW.call (i := 10) hH (by kernel_rfl) rfl (Wants.free rfl) rfl (Cl.fn (f := 105) rfl Try.func105 (by kernel_rfl) rfl) h (fun e w19 h_ => ?_)
            clear h
            obtain ⟨r13, r14, r15, r16, r16n, r16c, r17, r17n, r17c, rfl, hS2, h⟩ := h_
            obtain ⟨hsm5, h⟩ := h
            replace hB := Boxes.same hB (by exact hsm5)
            have hS3 := (⟨hS2.1, hS2.2, (hB.sel [0] (by decide) rfl)⟩ : CellsAt w19 (a2.add (Int.toNat i2 * 3)) 0 [.int .i64 t6, .int .i64 t7] ∧ w19.cell? (a3.add (Int.toNat i2 * 1)) = some (.int .u32 t8) ∧ Boxes w19 [(b1, [.int .i64 c5, .int .i64 c6, .int .i64 c7, .slice c8 c8n c8c, .slice c9 c9n c9c], 36)])
            refine ⟨_, rfl, (fun _ => hS3), ?_⟩
            obtain ⟨w20, hw_w20⟩ : ∃ x, x = setCells w19 (⟨b1, 0, none⟩ : Addr) 0 [.int .i64 r13, .int .i64 r14, .int .i64 r15, .slice r16 r16n r16c, .slice r17 r17n r17c] := ⟨_, rfl⟩
            refine HW.eff (i := 11) hH (by kernel_rfl) rfl (Wants.free rfl) rfl (stNE hw_w20 (Ef.stN (cs := [.int .i64 r13, .int .i64 r14, .int .i64 r15, .slice r16 r16n r16c, .slice r17 r17n r17c]) rfl rfl (by kernel_rfl) (List.forall_mem_cons.2 ⟨rfl, (List.forall_mem_cons.2 ⟨rfl, (List.forall_mem_cons.2 ⟨rfl, (List.forall_mem_cons.2 ⟨rfl, (List.forall_mem_cons.2 ⟨rfl, (List.forall_mem_nil _)⟩)⟩)⟩)⟩)⟩) (has_of (hB.at (i := 0) rfl) (by simp)) (free_of' (hB.at (i := 0) rfl)))) (fun hc => by cases hc) ?_
            replace hB : Boxes w20 [(b1, [.int .i64 r13, .int .i64 r14, .int .i64 r15, .slice r16 r16n r16c, .slice r17 r17n r17c], 36), (b2, [u1, u2, u3, u4, u5], 36)] := Boxes.store (vs := [.int .i64 r13, .int .i64 r14, .int .i64 r15, .slice r16 r16n r16c, .slice r17 r17n r17c]) (i := 0) (o := 0) hB rfl rfl rfl rfl hw_w20
            have hc_w20 : Chg [b1] w19 w20 := sil_more (Chg.refl [] w19) (sil_cN hw_w20)
            refine HW.done hH (by kernel_rfl) ?_
            refine NW.block ?_
            replace h := h  w20  hc_w20
            exact NW.cut (S := Int × Int × Int × (Option Addr) × Nat × Nat × (Option Addr) × Nat × Nat) (Ek := fun s4 => [(1, .slice l1 l1n l1c), (2, .pointer (some (⟨b1, 0, none⟩ : Addr))), (4, .pointer (some (⟨b2, 0, none⟩ : Addr))), (5, .int .i64 x1), (6, .slice sets1 sets1n sets1c), (12, .int .i64 i2)]) (r13, r14, r15, r16, r16n, r16c, r17, r17n, r17c) (by exact ⟨rfl, rfl, rfl, rfl, rfl, rfl, trivial⟩) ⟨h, hB⟩
          · replace h := h.2 hb6
            refine CW.skip ?_
            refine NW.block ?_
            exact NW.cut (S := Int × Int × Int × (Option Addr) × Nat × Nat × (Option Addr) × Nat × Nat) (Ek := fun s4 => [(1, .slice l1 l1n l1c), (2, .pointer (some (⟨b1, 0, none⟩ : Addr))), (4, .pointer (some (⟨b2, 0, none⟩ : Addr))), (5, .int .i64 x1), (6, .slice sets1 sets1n sets1c), (12, .int .i64 i2)]) (c5, c6, c7, c8, c8n, c8c, c9, c9n, c9c) (by exact ⟨rfl, rfl, rfl, rfl, rfl, rfl, trivial⟩) ⟨h, hB⟩
      · replace h := h.2 hb5
        refine CW.exit ?_
        refine XW.then ?_
        refine XW.then ?_
        refine XW.hit ?_
        refine NW.then ?_
        refine CW.seq ?_
        refine CW.region fun L hL => ?_
        refine LW.rd hL rfl (Wants.free rfl) rfl (Rd.ldN (cs := [.int .i64 c5, .int .i64 c6, .int .i64 c7, .slice c8 c8n c8c, .slice c9 c9n c9c]) rfl (by kernel_rfl) (by kernel_rfl) (cellsS (box_cells (hB.at (i := 0) rfl) rfl))) ?_
        obtain ⟨w21, hw_w21⟩ : ∃ x, x = setCells w16 (⟨b2, 0, none⟩ : Addr) 0 [.int .i64 c5, .int .i64 c6, .int .i64 c7, .slice c8 c8n c8c, .slice c9 c9n c9c] := ⟨_, rfl⟩
        refine LW.eff hL rfl (Wants.free rfl) rfl (stNE hw_w21 (Ef.stN (cs := [.int .i64 c5, .int .i64 c6, .int .i64 c7, .slice c8 c8n c8c, .slice c9 c9n c9c]) rfl rfl (by kernel_rfl) (List.forall_mem_cons.2 ⟨rfl, (List.forall_mem_cons.2 ⟨rfl, (List.forall_mem_cons.2 ⟨rfl, (List.forall_mem_cons.2 ⟨rfl, (List.forall_mem_cons.2 ⟨rfl, (List.forall_mem_nil _)⟩)⟩)⟩)⟩)⟩) (has_of (hB.at (i := 1) rfl) (by simp)) (free_of' (hB.at (i := 1) rfl)))) ?_
        replace hB : Boxes w21 [(b1, [.int .i64 c5, .int .i64 c6, .int .i64 c7, .slice c8 c8n c8c, .slice c9 c9n c9c], 36), (b2, [.int .i64 c5, .int .i64 c6, .int .i64 c7, .slice c8 c8n c8c, .slice c9 c9n c9c], 36)] := Boxes.store (vs := [.int .i64 c5, .int .i64 c6, .int .i64 c7, .slice c8 c8n c8c, .slice c9 c9n c9c]) (i := 1) (o := 0) hB rfl rfl rfl rfl hw_w21
        have hc_w21 : Chg [b2] w16 w21 := sil_more (Chg.refl [] w16) (sil_cN hw_w21)
        refine LW.rd hL rfl (Wants.free rfl) rfl (Rd.assign (v := .int .i64 0) rfl) ?_
        refine LW.nil hL rfl ?_
        refine NW.then ?_
        replace h := h  w21  hc_w21
        refine CW.ret ?_
        exact resN (vs := [.agg #[.int .i64 c5, .int .i64 c6, .int .i64 c7, .slice c8 c8n c8c, .slice c9 c9n c9c], .int .i64 0]) (ResOK.c rfl (lvN (cs := [.int .i64 c5, .int .i64 c6, .int .i64 c7, .slice c8 c8n c8c, .slice c9 c9n c9c]) (by kernel_rfl) (by kernel_rfl) (cellsAt_get (box_cells (hB.at (i := 1) rfl) rfl))) (ResOK.t rfl ResOK.nil)) rfl ⟨c5, c6, c7, c8, c8n, c8c, c9, c9n, c9c, 0, rfl, h⟩

/- pomander/pomanderref02.Join -/
def W_pomanderref02_Join (a1 : Int) (b1 : Int) (w : World) (R : Int → World → Prop) : Prop :=
  ∃ (I1 : Int → Int → Int → World → Prop) (m1 : Int → Int → Int → World → Nat), I1 0 1 0 w ∧ ∀ (out1 : Int) (p1 : Int) (i1 : Int) (w1 : World), I1 out1 p1 i1 w1 → ((decide (i1 < 16)) = true → ∃ J1 : Int → World → Prop, (∀ (out2 : Int) (w2 : World), J1 out2 w2 → (I1 out2 (IntKind.wrap .u32 (p1 * 2)) (IntKind.wrap .i64 (i1 + 1)) w2 ∧ m1 out2 (IntKind.wrap .u32 (p1 * 2)) (IntKind.wrap .i64 (i1 + 1)) w2 < m1 out1 p1 i1 w1)) ∧ (Calls Try.prog 126 #[.int .u32 a1, .int .i64 i1] w1 fun e w3 => ∃ (r2 : Bool), e = .returned (.bool r2) ∧ (∃ J2 : Bool → World → Prop, (∀ (b2 : Bool) (w4 : World), J2 b2 w4 → (b2 = true → J1 (IntKind.wrap .u32 (out1 + p1)) w4) ∧ (b2 = false → J1 out1 w4)) ∧ ((r2 = false → Calls Try.prog 126 #[.int .u32 b1, .int .i64 i1] w3 fun e w5 => ∃ (r3 : Bool), e = .returned (.bool r3) ∧ (J2 r3 w5)) ∧ (r2 = true → J2 true w3))))) ∧ ((decide (i1 < 16)) = false → R out1 w1)
set_option maxRecDepth 100000 in
theorem go_pomanderref02_Join (a1 : Int) (b1 : Int) (w : World) (R : Int → World → Prop) (h : W_pomanderref02_Join a1 b1 w R) : Calls Try.prog 106 #[.int .u32 a1, .int .u32 b1] w (fun e w' => ∃ (r1 : Int), e = .returned (.int .u32 r1) ∧ R r1 w') := by
  unfold W_pomanderref02_Join at h
  refine enter (N := 26) Try.func106 rfl rfl ?_
  refine CW.seq ?_
  refine CW.region fun L hL => ?_
  refine LW.rd hL rfl (Wants.free rfl) rfl (Rd.assign (v := .int .u32 0) rfl) ?_
  refine LW.nil hL rfl ?_
  refine NW.then ?_
  refine CW.seq ?_
  refine CW.region fun L hL => ?_
  refine LW.rd hL rfl (Wants.free rfl) rfl (Rd.assign (v := .int .u32 0) rfl) ?_
  refine LW.rd hL rfl (Wants.free rfl) rfl (Rd.assign (v := .int .u32 1) rfl) ?_
  refine LW.nil hL rfl ?_
  refine NW.then ?_
  refine CW.seq ?_
  refine CW.seq ?_
  refine CW.region fun L hL => ?_
  refine LW.rd hL rfl (Wants.free rfl) rfl (Rd.assign (v := .int .i64 0) rfl) ?_
  refine LW.nil hL rfl ?_
  refine NW.then ?_
  refine CW.block ?_
  obtain ⟨I1, m1, hI1, h⟩ := h
  refine CW.loop (S := Int × Int × Int) (fun s1 => [(0, .int .u32 a1), (1, .int .u32 b1), (4, .int .u32 0), (5, .int .u32 s1.1), (6, .int .u32 s1.2.1), (7, .int .i64 s1.2.2)]) (fun s1 w1 => I1 s1.1 s1.2.1 s1.2.2 w1) (fun s1 w1 => m1 s1.1 s1.2.1 s1.2.2 w1) (0, 1, 0) (by exact ⟨rfl, rfl, rfl, rfl, rfl, rfl, trivial⟩) hI1 (fun s1 w1 hI1 => ?_)
  obtain ⟨out1, p1, i1⟩ := s1; replace h := h out1 p1 i1 w1 hI1
  refine CW.seq ?_
  refine CW.seq ?_
  refine CW.region fun L hL => ?_
  refine LW.rd hL rfl (Wants.free rfl) rfl (Rd.move (v := .int .i64 i1) rfl) ?_
  refine LW.rd hL rfl (Wants.free rfl) rfl (Rd.bin (v := .bool (decide (i1 < 16))) rfl rfl (fun w => by kernel_rfl)) ?_
  refine LW.nil hL rfl ?_
  refine NW.then ?_
  refine CW.cond rfl (fun hb1 => ?_) (fun hb1 => ?_)
  · replace h := h.1 hb1
    refine CW.skip ?_
    refine NW.then ?_
    refine CW.seq ?_
    refine CW.block ?_
    obtain ⟨J1, hJ1, h⟩ := h
    refine CW.cut (S := Int) (fun out2 => [(0, .int .u32 a1), (1, .int .u32 b1), (4, .int .u32 0), (6, .int .u32 p1), (7, .int .i64 i1), (5, .int .u32 out2)]) (fun out2 w2 => J1 out2 w2) (fun out2 w2 h_ => ?_) ?_
    · replace h := hJ1 out2 w2 h_; clear h_
      refine CW.region fun L hL => ?_
      refine LW.rd hL rfl (Wants.free rfl) rfl (Rd.move (v := .int .u32 p1) rfl) ?_
      refine LW.rd hL rfl (Wants.free rfl) rfl (Rd.bin (v := .int .u32 (IntKind.wrap .u32 (p1 * 2))) rfl rfl (fun w => by kernel_rfl)) ?_
      refine LW.rd hL rfl (Wants.free rfl) rfl (Rd.assign (v := .int .u32 (IntKind.wrap .u32 (p1 * 2))) rfl) ?_
      refine LW.nil hL rfl ?_
      refine NW.block ?_
      refine NW.then ?_
      refine CW.region fun L hL => ?_
      refine LW.rd hL rfl (Wants.free rfl) rfl (Rd.move (v := .int .i64 i1) rfl) ?_
      refine LW.rd hL rfl (Wants.free rfl) rfl (Rd.bin (v := .int .i64 (IntKind.wrap .i64 (i1 + 1))) rfl rfl (fun w => by kernel_rfl)) ?_
      refine LW.rd hL rfl (Wants.free rfl) rfl (Rd.assign (v := .int .i64 (IntKind.wrap .i64 (i1 + 1))) rfl) ?_
      refine LW.nil hL rfl ?_
      exact NW.loop (S := Int × Int × Int) (Ek := fun s1 => [(0, .int .u32 a1), (1, .int .u32 b1), (4, .int .u32 0), (5, .int .u32 s1.1), (6, .int .u32 s1.2.1), (7, .int .i64 s1.2.2)]) (out2, IntKind.wrap .u32 (p1 * 2), IntKind.wrap .i64 (i1 + 1)) (by exact ⟨rfl, rfl, rfl, rfl, rfl, rfl, trivial⟩) h
    · skip
      refine CW.seq ?_
      refine CW.region fun L hL => ?_
      refine LW.rd hL rfl (Wants.free rfl) rfl (Rd.move (v := .int .u32 a1) rfl) ?_
      refine LW.rd hL rfl (Wants.free rfl) rfl (Rd.move (v := .int .i64 i1) rfl) ?_
      refine LW.call hL rfl (Wants.free rfl) rfl (Cl.fn (f := 126) rfl Try.func126 (by kernel_rfl) rfl) h (fun e w3 h_ => ?_)
      clear h
      obtain ⟨r2, rfl, h⟩ := h_
      refine ⟨_, rfl, ?_⟩
      refine LW.rd hL rfl (Wants.free rfl) rfl (Rd.move (v := .bool r2) rfl) ?_
      obtain ⟨J2, hJ2, h1_J2, h0_J2⟩ := h
      suffices K1 : ∀ (b2 : Bool) (w4 : World), J2 b2 w4 → L 8 [(0, .int .u32 a1), (1, .int .u32 b1), (4, .int .u32 0), (5, .int .u32 out1), (6, .int .u32 p1), (7, .int .i64 i1), (19, .bool b2)] w4 by
        rcases Bool.eq_false_or_eq_true r2 with hb2 | hb2
        · have h := h0_J2 hb2
          refine LW.skip hL rfl (Skips.on rfl rfl rfl rfl rfl hb2) rfl ?_
          refine LW.skip hL rfl (Skips.on rfl rfl rfl rfl rfl hb2) rfl ?_
          refine LW.skip hL rfl (Skips.on rfl rfl rfl rfl rfl hb2) rfl ?_
          refine LW.rd hL rfl (Wants.free rfl) rfl (Rd.pickT rfl hb2 rfl) ?_
          exact LW.sub hL (by exact ⟨rfl, rfl, rfl, rfl, rfl, rfl, rfl, trivial⟩) (K1 true w3 h)
        · have h := h1_J2 hb2
          refine LW.rd hL rfl (Wants.on rfl rfl rfl rfl rfl hb2) rfl (Rd.move (v := .int .u32 b1) rfl) ?_
          refine LW.rd hL rfl (Wants.on rfl rfl rfl rfl rfl hb2) rfl (Rd.move (v := .int .i64 i1) rfl) ?_
          refine LW.call hL rfl (Wants.on rfl rfl rfl rfl rfl hb2) rfl (Cl.fn (f := 126) rfl Try.func126 (by kernel_rfl) rfl) h (fun e w5 h_ => ?_)
          clear h
          obtain ⟨r3, rfl, h⟩ := h_
          refine ⟨_, rfl, ?_⟩
          refine LW.rd hL rfl (Wants.free rfl) rfl (Rd.pickF rfl hb2 rfl) ?_
          exact LW.sub hL (by exact ⟨rfl, rfl, rfl, rfl, rfl, rfl, rfl, trivial⟩) (K1 r3 w5 h)
      intro b2 w4 h_
      have h := hJ2 b2 w4 h_; clear h_
      refine LW.nil hL rfl ?_
      refine NW.then ?_
      refine CW.cond rfl (fun hb3 => ?_) (fun hb3 => ?_)
      · replace h := h.1 hb3
        refine CW.region fun L hL => ?_
        refine LW.rd hL rfl (Wants.free rfl) rfl (Rd.move (v := .int .u32 out1) rfl) ?_
        refine LW.rd hL rfl (Wants.free rfl) rfl (Rd.move (v := .int .u32 p1) rfl) ?_
        refine LW.rd hL rfl (Wants.free rfl) rfl (Rd.bin (v := .int .u32 (IntKind.wrap .u32 (out1 + p1))) rfl rfl (fun w => by kernel_rfl)) ?_
        refine LW.rd hL rfl (Wants.free rfl) rfl (Rd.assign (v := .int .u32 (IntKind.wrap .u32 (out1 + p1))) rfl) ?_
        refine LW.nil hL rfl ?_
        exact NW.cut (S := Int) (Ek := fun out2 => [(0, .int .u32 a1), (1, .int .u32 b1), (4, .int .u32 0), (6, .int .u32 p1), (7, .int .i64 i1), (5, .int .u32 out2)]) (IntKind.wrap .u32 (out1 + p1)) (by exact ⟨rfl, rfl, rfl, rfl, rfl, rfl, trivial⟩) h
      · replace h := h.2 hb3
        refine CW.skip ?_
        exact NW.cut (S := Int) (Ek := fun out2 => [(0, .int .u32 a1), (1, .int .u32 b1), (4, .int .u32 0), (6, .int .u32 p1), (7, .int .i64 i1), (5, .int .u32 out2)]) out1 (by exact ⟨rfl, rfl, rfl, rfl, rfl, rfl, trivial⟩) h
  · replace h := h.2 hb1
    refine CW.exit ?_
    refine XW.then ?_
    refine XW.then ?_
    refine XW.hit ?_
    refine NW.then ?_
    refine CW.seq ?_
    refine CW.region fun L hL => ?_
    refine LW.rd hL rfl (Wants.free rfl) rfl (Rd.move (v := .int .u32 out1) rfl) ?_
    refine LW.rd hL rfl (Wants.free rfl) rfl (Rd.assign (v := .int .u32 out1) rfl) ?_
    refine LW.nil hL rfl ?_
    refine NW.then ?_
    refine CW.ret ?_
    exact res1 rfl rfl ⟨out1, rfl, h⟩

/- pomander/pomanderref02.Bit -/
def W_pomanderref02_Bit (set1 : Int) (n1 : Int) (w : World) (R : Bool → World → Prop) : Prop :=
  ∃ (I1 : Int → Int → World → Prop) (m1 : Int → Int → World → Nat), I1 set1 0 w ∧ ∀ (set2 : Int) (i1 : Int) (w1 : World), I1 set2 i1 w1 → ((decide (i1 < n1)) = true → (I1 (IntKind.wrap .u32 (Int.tdiv set2 2)) (IntKind.wrap .i64 (i1 + 1)) w1 ∧ m1 (IntKind.wrap .u32 (Int.tdiv set2 2)) (IntKind.wrap .i64 (i1 + 1)) w1 < m1 set2 i1 w1)) ∧ ((decide (i1 < n1)) = false → R ((Int.tmod set2 2) == 1) w1)
set_option maxRecDepth 100000 in
theorem go_pomanderref02_Bit (set1 : Int) (n1 : Int) (w : World) (R : Bool → World → Prop) (h : W_pomanderref02_Bit set1 n1 w R) : Calls Try.prog 126 #[.int .u32 set1, .int .i64 n1] w (fun e w' => ∃ (r1 : Bool), e = .returned (.bool r1) ∧ R r1 w') := by
  unfold W_pomanderref02_Bit at h
  refine enter (N := 16) Try.func126 rfl rfl ?_
  refine CW.seq ?_
  refine CW.region fun L hL => ?_
  refine LW.rd hL rfl (Wants.free rfl) rfl (Rd.assign (v := .bool false) rfl) ?_
  refine LW.nil hL rfl ?_
  refine NW.then ?_
  refine CW.seq ?_
  refine CW.seq ?_
  refine CW.region fun L hL => ?_
  refine LW.rd hL rfl (Wants.free rfl) rfl (Rd.assign (v := .int .i64 0) rfl) ?_
  refine LW.nil hL rfl ?_
  refine NW.then ?_
  refine CW.block ?_
  obtain ⟨I1, m1, hI1, h⟩ := h
  refine CW.loop (S := Int × Int) (fun s1 => [(1, .int .i64 n1), (4, .bool false), (0, .int .u32 s1.1), (5, .int .i64 s1.2)]) (fun s1 w1 => I1 s1.1 s1.2 w1) (fun s1 w1 => m1 s1.1 s1.2 w1) (set1, 0) (by exact ⟨rfl, rfl, rfl, rfl, trivial⟩) hI1 (fun s1 w1 hI1 => ?_)
  obtain ⟨set2, i1⟩ := s1; replace h := h set2 i1 w1 hI1
  refine CW.seq ?_
  refine CW.seq ?_
  refine CW.region fun L hL => ?_
  refine LW.rd hL rfl (Wants.free rfl) rfl (Rd.move (v := .int .i64 i1) rfl) ?_
  refine LW.rd hL rfl (Wants.free rfl) rfl (Rd.move (v := .int .i64 n1) rfl) ?_
  refine LW.rd hL rfl (Wants.free rfl) rfl (Rd.bin (v := .bool (decide (i1 < n1))) rfl rfl (fun w => by kernel_rfl)) ?_
  refine LW.nil hL rfl ?_
  refine NW.then ?_
  refine CW.cond rfl (fun hb1 => ?_) (fun hb1 => ?_)
  · replace h := h.1 hb1
    refine CW.skip ?_
    refine NW.then ?_
    refine CW.seq ?_
    refine CW.block ?_
    refine CW.region fun L hL => ?_
    refine LW.rd hL rfl (Wants.free rfl) rfl (Rd.move (v := .int .u32 set2) rfl) ?_
    refine LW.rd hL rfl (Wants.free rfl) rfl (Rd.bin (v := .int .u32 (IntKind.wrap .u32 (Int.tdiv set2 2))) rfl rfl (fun w => by kernel_rfl)) ?_
    refine LW.rd hL rfl (Wants.free rfl) rfl (Rd.assign (v := .int .u32 (IntKind.wrap .u32 (Int.tdiv set2 2))) rfl) ?_
    refine LW.nil hL rfl ?_
    refine NW.block ?_
    refine NW.then ?_
    refine CW.region fun L hL => ?_
    refine LW.rd hL rfl (Wants.free rfl) rfl (Rd.move (v := .int .i64 i1) rfl) ?_
    refine LW.rd hL rfl (Wants.free rfl) rfl (Rd.bin (v := .int .i64 (IntKind.wrap .i64 (i1 + 1))) rfl rfl (fun w => by kernel_rfl)) ?_
    refine LW.rd hL rfl (Wants.free rfl) rfl (Rd.assign (v := .int .i64 (IntKind.wrap .i64 (i1 + 1))) rfl) ?_
    refine LW.nil hL rfl ?_
    exact NW.loop (S := Int × Int) (Ek := fun s1 => [(1, .int .i64 n1), (4, .bool false), (0, .int .u32 s1.1), (5, .int .i64 s1.2)]) (IntKind.wrap .u32 (Int.tdiv set2 2), IntKind.wrap .i64 (i1 + 1)) (by exact ⟨rfl, rfl, rfl, rfl, trivial⟩) h
  · replace h := h.2 hb1
    refine CW.exit ?_
    refine XW.then ?_
    refine XW.then ?_
    refine XW.hit ?_
    refine NW.then ?_
    refine CW.seq ?_
    refine CW.region fun L hL => ?_
    refine LW.rd hL rfl (Wants.free rfl) rfl (Rd.move (v := .int .u32 set2) rfl) ?_
    refine LW.rd hL rfl (Wants.free rfl) rfl (Rd.bin (v := .int .u32 (Int.tmod set2 2)) rfl rfl (fun w => by kernel_rfl)) ?_
    refine LW.rd hL rfl (Wants.free rfl) rfl (Rd.bin (v := .bool ((Int.tmod set2 2) == 1)) rfl rfl (fun w => by kernel_rfl)) ?_
    refine LW.rd hL rfl (Wants.free rfl) rfl (Rd.assign (v := .bool ((Int.tmod set2 2) == 1)) rfl) ?_
    refine LW.nil hL rfl ?_
    refine NW.then ?_
    refine CW.ret ?_
    exact res1 rfl rfl ⟨(Int.tmod set2 2) == 1, rfl, h⟩

end Go.Proofs.Ytkfncibmfcdokaa
