/- Texts of the claim, merged: XG1 XApply XPol2 XActs XJoin XRefs XRefA XG2 XDoes XGood XPlay12. -/
import Derived.Test.YtfcfkhbkkfpehaaGreatXMfc3
import Derived.Test.YtfcfkhbkkfpehaaGreatProg
set_option linter.unusedSimpArgs false
set_option linter.unusedVariables false
set_option maxRecDepth 100000
section
namespace Go.Proofs.YtfcfkhbkkfpehaaGreat
open Go Go.X
/- pomander/pomanderlaw12.vast -/
def W_pomanderlaw12_vast (l1 : Option Addr) (l1n : Nat) (l1c : Nat) (w : World) (R : Bool → World → Prop) : Prop :=
 ((decide ((l1n : Int) > 30)) = true → R true w) ∧ ((decide ((l1n : Int) > 30)) = false → ∃ (I1 : Bool → Int → World → Prop) (m1 : Bool → Int → World → Nat), I1 false 0 w ∧ ∀ (x1 : Bool) (i1 : Int) (w1 : World), I1 x1 i1 w1 → ((decide (i1 < (l1n : Int))) = true → ∃ a1 : Addr, l1 = some a1 ∧ (0 : Int) ≤ i1 ∧ i1 < (l1n : Int) ∧ (∃ (t1 : Int), w1.cell? ((a1.add (Int.toNat i1 * 6)).add 1) = some (.int .i64 t1) ∧ (∃ J1 : Bool → World → Prop, (∀ (b1 : Bool) (w2 : World), J1 b1 w2 → ∃ J2 : Bool → World → Prop, (∀ (b2 : Bool) (w3 : World), J2 b2 w3 → (b2 = true → R true w3) ∧ (b2 = false → (I1 x1 (IntKind.wrap .i64 (i1 + 1)) w3 ∧ m1 x1 (IntKind.wrap .i64 (i1 + 1)) w3 < m1 x1 i1 w1))) ∧ ((b1 = false → ∃ (t2 : Option Addr) (t2n : Nat) (t2c : Nat), w2.cell? ((a1.add (Int.toNat i1 * 6)).add 5) = some (.slice t2 t2n t2c) ∧ (Calls Tryz.prog 56 #[.slice t2 t2n t2c] w2 fun e w4 => ∃ (r2 : Bool), e = .returned (.bool r2) ∧ (J2 r2 w4))) ∧ (b1 = true → J2 true w2))) ∧ (((decide (t1 > 200)) = true → J1 (decide (t1 ≤ 65536)) w1) ∧ ((decide (t1 > 200)) = false → J1 false w1))))) ∧ ((decide (i1 < (l1n : Int))) = false → R false w1))
set_option maxRecDepth 100000 in
theorem go_pomanderlaw12_vast (l1 : Option Addr) (l1n : Nat) (l1c : Nat) (w : World) (R : Bool → World → Prop) (h : W_pomanderlaw12_vast l1 l1n l1c w R) : Calls Tryz.prog 24 #[.slice l1 l1n l1c] w (fun e w' => ∃ (r1 : Bool), e = .returned (.bool r1) ∧ R r1 w') := by
 unfold W_pomanderlaw12_vast at h
 refine enter (N := 35) Tryz.func24 rfl rfl ?_
 refine CW.seq ?_
 refine CW.region fun L hL => ?_
 refine LW.rd hL rfl (Wants.free rfl) rfl (Rd.assign (v := .bool false) rfl) ?_
 refine LW.nil hL rfl ?_
 refine NW.then ?_
 refine CW.seq ?_
 refine CW.seq ?_
 refine CW.region fun L hL => ?_
 refine LW.rd hL rfl (Wants.free rfl) rfl (Rd.move (v := .slice l1 l1n l1c) rfl) ?_
 refine LW.rd hL rfl (Wants.free rfl) rfl (Rd.builtin (v := .int .i64 (l1n : Int)) rfl (fun _ _ => by kernel_rfl)) ?_
 refine LW.rd hL rfl (Wants.free rfl) rfl (Rd.bin (v := .bool (decide ((l1n : Int) > 30))) rfl rfl (fun w => by kernel_rfl)) ?_
 refine LW.nil hL rfl ?_
 refine NW.then ?_
 refine CW.cond rfl (fun hb1 => ?_) (fun hb1 => ?_)
 ·replace h := h.1 hb1
  refine CW.seq ?_
  refine CW.region fun L hL => ?_
  refine LW.rd hL rfl (Wants.free rfl) rfl (Rd.assign (v := .bool true) rfl) ?_
  refine LW.nil hL rfl ?_
  refine NW.then ?_
  refine CW.ret ?_
  refine RW.then ?_
  exact res1 rfl rfl ⟨true, rfl, h⟩
 ·replace h := h.2 hb1
  refine CW.skip ?_
  refine NW.then ?_
  refine CW.seq ?_
  refine CW.seq ?_
  refine CW.region fun L hL => ?_
  refine LW.rd hL rfl (Wants.free rfl) rfl (Rd.assign (v := .int .i64 0) rfl) ?_
  refine LW.nil hL rfl ?_
  refine NW.then ?_
  refine CW.block ?_
  obtain ⟨I1, m1, hI1, h⟩ := h
  refine CW.loop (S := Bool × Int) (fun s1 => [(0, .slice l1 l1n l1c), (2, .bool s1.1), (3, .int .i64 s1.2)]) (fun s1 w1 => I1 s1.1 s1.2 w1) (fun s1 w1 => m1 s1.1 s1.2 w1) (false, 0) (by exact ⟨rfl, rfl, rfl, trivial⟩) hI1 (fun s1 w1 hI1 => ?_)
  obtain ⟨x1, i1⟩ := s1; replace h := h x1 i1 w1 hI1
  refine CW.seq ?_
  refine CW.seq ?_
  refine CW.region fun L hL => ?_
  refine LW.rd hL rfl (Wants.free rfl) rfl (Rd.move (v := .int .i64 i1) rfl) ?_
  refine LW.rd hL rfl (Wants.free rfl) rfl (Rd.move (v := .slice l1 l1n l1c) rfl) ?_
  refine LW.rd hL rfl (Wants.free rfl) rfl (Rd.builtin (v := .int .i64 (l1n : Int)) rfl (fun _ _ => by kernel_rfl)) ?_
  refine LW.rd hL rfl (Wants.free rfl) rfl (Rd.bin (v := .bool (decide (i1 < (l1n : Int)))) rfl rfl (fun w => by kernel_rfl)) ?_
  refine LW.nil hL rfl ?_
  refine NW.then ?_
  refine CW.cond rfl (fun hb2 => ?_) (fun hb2 => ?_)
  ·replace h := h.1 hb2
   refine CW.skip ?_
   refine NW.then ?_
   refine CW.seq ?_
   refine CW.block ?_
   refine CW.seq ?_
   refine CW.region fun L hL => ?_
   refine LW.rd hL rfl (Wants.free rfl) rfl (Rd.move (v := .slice l1 l1n l1c) rfl) ?_
   refine LW.rd hL rfl (Wants.free rfl) rfl (Rd.move (v := .int .i64 i1) rfl) ?_
   obtain ⟨a1, he1, hi1, hi2, h⟩ := h
   refine LW.rd hL rfl (Wants.free rfl) rfl (Rd.iaS (q := a1) (sz := 6) (by rw [← he1]; rfl) rfl Tryz.underlying69 (by kernel_rfl) hi1 hi2) ?_
   refine LW.rd hL rfl (Wants.free rfl) rfl (Rd.fa (v := .pointer (some ((a1.add (Int.toNat i1 * 6)).add 1))) rfl (fun _ => by kernel_rfl)) ?_
   obtain ⟨t1, hc1, h⟩ := h
   refine LW.rd hL rfl (Wants.free rfl) rfl (Rd.ld (v := .int .i64 t1) rfl (by kernel_rfl) (eqs hc1)) ?_
   refine LW.rd hL rfl (Wants.free rfl) rfl (Rd.bin (v := .bool (decide (t1 > 200))) rfl rfl (fun w => by kernel_rfl)) ?_
   refine LW.rd hL rfl (Wants.free rfl) rfl (Rd.move (v := .bool (decide (t1 > 200))) rfl) ?_
   obtain ⟨J1, hJ1, h1_J1, h0_J1⟩ := h
   suffices K1 : ∀ (b1 : Bool) (w2 : World), J1 b1 w2 → L 14 [(0, .slice l1 l1n l1c), (2, .bool x1), (3, .int .i64 i1), (26, .bool b1)] w2 by
    rcases Bool.eq_false_or_eq_true (decide (t1 > 200)) with hb3 | hb3
    ·have h := h1_J1 hb3
     refine LW.rd hL rfl (Wants.on rfl rfl rfl rfl rfl hb3) rfl (Rd.move (v := .slice l1 l1n l1c) rfl) ?_
     refine LW.rd hL rfl (Wants.on rfl rfl rfl rfl rfl hb3) rfl (Rd.move (v := .int .i64 i1) rfl) ?_
     refine LW.rd hL rfl (Wants.on rfl rfl rfl rfl rfl hb3) rfl (Rd.iaS (q := a1) (sz := 6) (by rw [← he1]; rfl) rfl Tryz.underlying69 (by kernel_rfl) hi1 hi2) ?_
     refine LW.rd hL rfl (Wants.on rfl rfl rfl rfl rfl hb3) rfl (Rd.fa (v := .pointer (some ((a1.add (Int.toNat i1 * 6)).add 1))) rfl (fun _ => by kernel_rfl)) ?_
     refine LW.rd hL rfl (Wants.on rfl rfl rfl rfl rfl hb3) rfl (Rd.ld (v := .int .i64 t1) rfl (by kernel_rfl) (eqs hc1)) ?_
     refine LW.rd hL rfl (Wants.on rfl rfl rfl rfl rfl hb3) rfl (Rd.bin (v := .bool (decide (t1 ≤ 65536))) rfl rfl (fun w => by kernel_rfl)) ?_
     refine LW.rd hL rfl (Wants.free rfl) rfl (Rd.pickT rfl hb3 rfl) ?_
     exact LW.sub hL (by exact ⟨rfl, rfl, rfl, rfl, trivial⟩) (K1 (decide (t1 ≤ 65536)) w1 h)
    ·have h := h0_J1 hb3
     refine LW.skip hL rfl (Skips.on rfl rfl rfl rfl rfl hb3) rfl ?_
     refine LW.skip hL rfl (Skips.on rfl rfl rfl rfl rfl hb3) rfl ?_
     refine LW.skip hL rfl (Skips.on rfl rfl rfl rfl rfl hb3) rfl ?_
     refine LW.skip hL rfl (Skips.on rfl rfl rfl rfl rfl hb3) rfl ?_
     refine LW.skip hL rfl (Skips.on rfl rfl rfl rfl rfl hb3) rfl ?_
     refine LW.skip hL rfl (Skips.on rfl rfl rfl rfl rfl hb3) rfl ?_
     refine LW.rd hL rfl (Wants.free rfl) rfl (Rd.pickF rfl hb3 rfl) ?_
     exact LW.sub hL (by exact ⟨rfl, rfl, rfl, rfl, trivial⟩) (K1 false w1 h)
   intro b1 w2 h_
   have h := hJ1 b1 w2 h_; clear h_
   refine LW.rd hL rfl (Wants.free rfl) rfl (Rd.move (v := .bool b1) rfl) ?_
   obtain ⟨J2, hJ2, h1_J2, h0_J2⟩ := h
   suffices K2 : ∀ (b2 : Bool) (w3 : World), J2 b2 w3 → L 22 [(0, .slice l1 l1n l1c), (2, .bool x1), (3, .int .i64 i1), (34, .bool b2)] w3 by
    rcases Bool.eq_false_or_eq_true b1 with hb4 | hb4
    ·have h := h0_J2 hb4
     refine LW.skip hL rfl (Skips.on rfl rfl rfl rfl rfl hb4) rfl ?_
     refine LW.skip hL rfl (Skips.on rfl rfl rfl rfl rfl hb4) rfl ?_
     refine LW.skip hL rfl (Skips.on rfl rfl rfl rfl rfl hb4) rfl ?_
     refine LW.skip hL rfl (Skips.on rfl rfl rfl rfl rfl hb4) rfl ?_
     refine LW.skip hL rfl (Skips.on rfl rfl rfl rfl rfl hb4) rfl ?_
     refine LW.skip hL rfl (Skips.on rfl rfl rfl rfl rfl hb4) rfl ?_
     refine LW.rd hL rfl (Wants.free rfl) rfl (Rd.pickT rfl hb4 rfl) ?_
     exact LW.sub hL (by exact ⟨rfl, rfl, rfl, rfl, trivial⟩) (K2 true w2 h)
    ·have h := h1_J2 hb4
     refine LW.rd hL rfl (Wants.on rfl rfl rfl rfl rfl hb4) rfl (Rd.move (v := .slice l1 l1n l1c) rfl) ?_
     refine LW.rd hL rfl (Wants.on rfl rfl rfl rfl rfl hb4) rfl (Rd.move (v := .int .i64 i1) rfl) ?_
     refine LW.rd hL rfl (Wants.on rfl rfl rfl rfl rfl hb4) rfl (Rd.iaS (q := a1) (sz := 6) (by rw [← he1]; rfl) rfl Tryz.underlying69 (by kernel_rfl) hi1 hi2) ?_
     refine LW.rd hL rfl (Wants.on rfl rfl rfl rfl rfl hb4) rfl (Rd.fa (v := .pointer (some ((a1.add (Int.toNat i1 * 6)).add 5))) rfl (fun _ => by kernel_rfl)) ?_
     obtain ⟨t2, t2n, t2c, hc2, h⟩ := h
     refine LW.rd hL rfl (Wants.on rfl rfl rfl rfl rfl hb4) rfl (Rd.ld (v := .slice t2 t2n t2c) rfl (by kernel_rfl) (eqs hc2)) ?_
     refine LW.call hL rfl (Wants.on rfl rfl rfl rfl rfl hb4) rfl (Cl.fn (f := 56) rfl Tryz.func56 (by kernel_rfl) rfl) h (fun e w4 h_ => ?_)
     clear h
     obtain ⟨r2, rfl, h⟩ := h_
     refine ⟨_, rfl, ?_⟩
     refine LW.rd hL rfl (Wants.free rfl) rfl (Rd.pickF rfl hb4 rfl) ?_
     exact LW.sub hL (by exact ⟨rfl, rfl, rfl, rfl, trivial⟩) (K2 r2 w4 h)
   intro b2 w3 h_
   have h := hJ2 b2 w3 h_; clear h_
   refine LW.nil hL rfl ?_
   refine NW.then ?_
   refine CW.cond rfl (fun hb5 => ?_) (fun hb5 => ?_)
   ·replace h := h.1 hb5
    refine CW.seq ?_
    refine CW.region fun L hL => ?_
    refine LW.rd hL rfl (Wants.free rfl) rfl (Rd.assign (v := .bool true) rfl) ?_
    refine LW.nil hL rfl ?_
    refine NW.then ?_
    refine CW.ret ?_
    refine RW.block ?_
    refine RW.then ?_
    refine RW.then ?_
    refine RW.block ?_
    refine RW.then ?_
    exact res1 rfl rfl ⟨true, rfl, h⟩
   ·replace h := h.2 hb5
    refine CW.skip ?_
    refine NW.block ?_
    refine NW.then ?_
    refine CW.region fun L hL => ?_
    refine LW.rd hL rfl (Wants.free rfl) rfl (Rd.move (v := .int .i64 i1) rfl) ?_
    refine LW.rd hL rfl (Wants.free rfl) rfl (Rd.bin (v := .int .i64 (IntKind.wrap .i64 (i1 + 1))) rfl rfl (fun w => by kernel_rfl)) ?_
    refine LW.rd hL rfl (Wants.free rfl) rfl (Rd.assign (v := .int .i64 (IntKind.wrap .i64 (i1 + 1))) rfl) ?_
    refine LW.nil hL rfl ?_
    exact NW.loop (S := Bool × Int) (Ek := fun s1 => [(0, .slice l1 l1n l1c), (2, .bool s1.1), (3, .int .i64 s1.2)]) (x1, IntKind.wrap .i64 (i1 + 1)) (by exact ⟨rfl, rfl, rfl, trivial⟩) h
  ·replace h := h.2 hb2
   refine CW.exit ?_
   refine XW.then ?_
   refine XW.then ?_
   refine XW.hit ?_
   refine NW.then ?_
   refine CW.seq ?_
   refine CW.region fun L hL => ?_
   refine LW.rd hL rfl (Wants.free rfl) rfl (Rd.assign (v := .bool false) rfl) ?_
   refine LW.nil hL rfl ?_
   refine NW.then ?_
   refine CW.ret ?_
   exact res1 rfl rfl ⟨false, rfl, h⟩
/- pomander/pomanderlaw12.broad -/
def W_pomanderlaw12_broad (l1 : Option Addr) (l1n : Nat) (l1c : Nat) (w : World) (R : Bool → World → Prop) : Prop :=
 ((decide ((l1n : Int) > 20)) = true → R true w) ∧ ((decide ((l1n : Int) > 20)) = false → ∃ (I1 : Bool → Int → World → Prop) (m1 : Bool → Int → World → Nat), I1 false 0 w ∧ ∀ (x1 : Bool) (i1 : Int) (w1 : World), I1 x1 i1 w1 → ((decide (i1 < (l1n : Int))) = true → ∃ a1 : Addr, l1 = some a1 ∧ (0 : Int) ≤ i1 ∧ i1 < (l1n : Int) ∧ (∃ (t1 : Option Addr) (t1n : Nat) (t1c : Nat), w1.cell? ((a1.add (Int.toNat i1 * 3)).add 2) = some (.slice t1 t1n t1c) ∧ (((decide ((t1n : Int) > 20)) = true → R true w1) ∧ ((decide ((t1n : Int) > 20)) = false → (I1 x1 (IntKind.wrap .i64 (i1 + 1)) w1 ∧ m1 x1 (IntKind.wrap .i64 (i1 + 1)) w1 < m1 x1 i1 w1))))) ∧ ((decide (i1 < (l1n : Int))) = false → R false w1))
set_option maxRecDepth 100000 in
theorem go_pomanderlaw12_broad (l1 : Option Addr) (l1n : Nat) (l1c : Nat) (w : World) (R : Bool → World → Prop) (h : W_pomanderlaw12_broad l1 l1n l1c w R) : Calls Tryz.prog 56 #[.slice l1 l1n l1c] w (fun e w' => ∃ (r1 : Bool), e = .returned (.bool r1) ∧ R r1 w') := by
 unfold W_pomanderlaw12_broad at h
 refine enter (N := 20) Tryz.func56 rfl rfl ?_
 refine CW.seq ?_
 refine CW.region fun L hL => ?_
 refine LW.rd hL rfl (Wants.free rfl) rfl (Rd.assign (v := .bool false) rfl) ?_
 refine LW.nil hL rfl ?_
 refine NW.then ?_
 refine CW.seq ?_
 refine CW.seq ?_
 refine CW.region fun L hL => ?_
 refine LW.rd hL rfl (Wants.free rfl) rfl (Rd.move (v := .slice l1 l1n l1c) rfl) ?_
 refine LW.rd hL rfl (Wants.free rfl) rfl (Rd.builtin (v := .int .i64 (l1n : Int)) rfl (fun _ _ => by kernel_rfl)) ?_
 refine LW.rd hL rfl (Wants.free rfl) rfl (Rd.bin (v := .bool (decide ((l1n : Int) > 20))) rfl rfl (fun w => by kernel_rfl)) ?_
 refine LW.nil hL rfl ?_
 refine NW.then ?_
 refine CW.cond rfl (fun hb1 => ?_) (fun hb1 => ?_)
 ·replace h := h.1 hb1
  refine CW.seq ?_
  refine CW.region fun L hL => ?_
  refine LW.rd hL rfl (Wants.free rfl) rfl (Rd.assign (v := .bool true) rfl) ?_
  refine LW.nil hL rfl ?_
  refine NW.then ?_
  refine CW.ret ?_
  refine RW.then ?_
  exact res1 rfl rfl ⟨true, rfl, h⟩
 ·replace h := h.2 hb1
  refine CW.skip ?_
  refine NW.then ?_
  refine CW.seq ?_
  refine CW.seq ?_
  refine CW.region fun L hL => ?_
  refine LW.rd hL rfl (Wants.free rfl) rfl (Rd.assign (v := .int .i64 0) rfl) ?_
  refine LW.nil hL rfl ?_
  refine NW.then ?_
  refine CW.block ?_
  obtain ⟨I1, m1, hI1, h⟩ := h
  refine CW.loop (S := Bool × Int) (fun s1 => [(0, .slice l1 l1n l1c), (2, .bool s1.1), (3, .int .i64 s1.2)]) (fun s1 w1 => I1 s1.1 s1.2 w1) (fun s1 w1 => m1 s1.1 s1.2 w1) (false, 0) (by exact ⟨rfl, rfl, rfl, trivial⟩) hI1 (fun s1 w1 hI1 => ?_)
  obtain ⟨x1, i1⟩ := s1; replace h := h x1 i1 w1 hI1
  refine CW.seq ?_
  refine CW.seq ?_
  refine CW.region fun L hL => ?_
  refine LW.rd hL rfl (Wants.free rfl) rfl (Rd.move (v := .int .i64 i1) rfl) ?_
  refine LW.rd hL rfl (Wants.free rfl) rfl (Rd.move (v := .slice l1 l1n l1c) rfl) ?_
  refine LW.rd hL rfl (Wants.free rfl) rfl (Rd.builtin (v := .int .i64 (l1n : Int)) rfl (fun _ _ => by kernel_rfl)) ?_
  refine LW.rd hL rfl (Wants.free rfl) rfl (Rd.bin (v := .bool (decide (i1 < (l1n : Int)))) rfl rfl (fun w => by kernel_rfl)) ?_
  refine LW.nil hL rfl ?_
  refine NW.then ?_
  refine CW.cond rfl (fun hb2 => ?_) (fun hb2 => ?_)
  ·replace h := h.1 hb2
   refine CW.skip ?_
   refine NW.then ?_
   refine CW.seq ?_
   refine CW.block ?_
   refine CW.seq ?_
   refine CW.region fun L hL => ?_
   refine LW.rd hL rfl (Wants.free rfl) rfl (Rd.move (v := .slice l1 l1n l1c) rfl) ?_
   refine LW.rd hL rfl (Wants.free rfl) rfl (Rd.move (v := .int .i64 i1) rfl) ?_
   obtain ⟨a1, he1, hi1, hi2, h⟩ := h
   refine LW.rd hL rfl (Wants.free rfl) rfl (Rd.iaS (q := a1) (sz := 3) (by rw [← he1]; rfl) rfl Tryz.underlying27 (by kernel_rfl) hi1 hi2) ?_
   refine LW.rd hL rfl (Wants.free rfl) rfl (Rd.fa (v := .pointer (some ((a1.add (Int.toNat i1 * 3)).add 2))) rfl (fun _ => by kernel_rfl)) ?_
   obtain ⟨t1, t1n, t1c, hc1, h⟩ := h
   refine LW.rd hL rfl (Wants.free rfl) rfl (Rd.ld (v := .slice t1 t1n t1c) rfl (by kernel_rfl) (eqs hc1)) ?_
   refine LW.rd hL rfl (Wants.free rfl) rfl (Rd.builtin (v := .int .i64 (t1n : Int)) rfl (fun _ _ => by kernel_rfl)) ?_
   refine LW.rd hL rfl (Wants.free rfl) rfl (Rd.bin (v := .bool (decide ((t1n : Int) > 20))) rfl rfl (fun w => by kernel_rfl)) ?_
   refine LW.nil hL rfl ?_
   refine NW.then ?_
   refine CW.cond rfl (fun hb3 => ?_) (fun hb3 => ?_)
   ·replace h := h.1 hb3
    refine CW.seq ?_
    refine CW.region fun L hL => ?_
    refine LW.rd hL rfl (Wants.free rfl) rfl (Rd.assign (v := .bool true) rfl) ?_
    refine LW.nil hL rfl ?_
    refine NW.then ?_
    refine CW.ret ?_
    refine RW.block ?_
    refine RW.then ?_
    refine RW.then ?_
    refine RW.block ?_
    refine RW.then ?_
    exact res1 rfl rfl ⟨true, rfl, h⟩
   ·replace h := h.2 hb3
    refine CW.skip ?_
    refine NW.block ?_
    refine NW.then ?_
    refine CW.region fun L hL => ?_
    refine LW.rd hL rfl (Wants.free rfl) rfl (Rd.move (v := .int .i64 i1) rfl) ?_
    refine LW.rd hL rfl (Wants.free rfl) rfl (Rd.bin (v := .int .i64 (IntKind.wrap .i64 (i1 + 1))) rfl rfl (fun w => by kernel_rfl)) ?_
    refine LW.rd hL rfl (Wants.free rfl) rfl (Rd.assign (v := .int .i64 (IntKind.wrap .i64 (i1 + 1))) rfl) ?_
    refine LW.nil hL rfl ?_
    exact NW.loop (S := Bool × Int) (Ek := fun s1 => [(0, .slice l1 l1n l1c), (2, .bool s1.1), (3, .int .i64 s1.2)]) (x1, IntKind.wrap .i64 (i1 + 1)) (by exact ⟨rfl, rfl, rfl, trivial⟩) h
  ·replace h := h.2 hb2
   refine CW.exit ?_
   refine XW.then ?_
   refine XW.then ?_
   refine XW.hit ?_
   refine NW.then ?_
   refine CW.seq ?_
   refine CW.region fun L hL => ?_
   refine LW.rd hL rfl (Wants.free rfl) rfl (Rd.assign (v := .bool false) rfl) ?_
   refine LW.nil hL rfl ?_
   refine NW.then ?_
   refine CW.ret ?_
   exact res1 rfl rfl ⟨false, rfl, h⟩
/- pomander/pomanderlaw12.known -/
def W_pomanderlaw12_known  (w : World) (R : Bool → World → Prop) : Prop :=
 Calls Tryz.prog 26 #[.agg #[.int .i64 1, .int .i64 1], .int .i64 4] w fun e w1 => ∃ (r2 : Option Addr) (r3 : Int), e = .returned (.tuple #[.pointer r2, .int .i64 r3]) ∧ (∀ (b2 b1 : Nat) (w5 : World), (w1.heap.size ≤ b2 ∧ b2 < w5.heap.size) → (w1.heap.size ≤ b1 ∧ b1 < w5.heap.size) → Chg [] w1 w5 → (Calls Tryz.prog 31 #[.pointer r2, .agg #[.int .i64 13, .int .i64 0], .int .i64 2, .int .u32 1] w5 fun e w6 => ∃ (r4 : Int), e = .returned (.int .i64 r4) ∧ (Same w5 w6 [b2, b1] ∧ (∀ b3 : Nat, b3 = World.size w6 → ∀ w7 : World, w7 = World.alloc w6 (.cells #[.int .i64 13, .int .i64 0] 62) → (∀ b4 : Nat, b4 = World.size w7 → ∀ w8 : World, w8 = World.alloc w7 (.cells #[.int .i64 1, .int .i64 1, .slice (some (⟨b3, 0, none⟩ : Addr)) 1 1] 65) → (Calls Tryz.prog 32 #[.pointer r2, .slice (some (⟨b4, 0, none⟩ : Addr)) 1 1] w8 fun e w9 => ∃ (r5 : Int), e = .returned (.int .i64 r5) ∧ (Same w8 w9 [b2] ∧ (Calls Tryz.prog 35 #[.pointer r2, .agg #[.int .i64 1, .int .i64 1]] w9 fun e w10 => ∃ (r6 : Int) (r7 : Int), e = .returned (.tuple #[.int .u32 r6, .int .i64 r7]) ∧ (R ((((r3 == 0 && r4 == 0) && r5 == 0) && r6 == 1) && r7 == 0) w10)))))))))
set_option maxRecDepth 100000 in
theorem go_pomanderlaw12_known  (w : World) (R : Bool → World → Prop) (h : W_pomanderlaw12_known  w R) : Calls Tryz.prog 25 #[] w (fun e w' => ∃ (r1 : Bool), e = .returned (.bool r1) ∧ R r1 w') := by
 unfold W_pomanderlaw12_known at h
 refine enter (N := 50) Tryz.func25 rfl rfl ?_
 refine CW.seq ?_
 refine CW.region fun L hL => ?_
 refine LW.rd hL rfl (Wants.free rfl) rfl (Rd.assign (v := .bool false) rfl) ?_
 refine LW.nil hL rfl ?_
 refine NW.then ?_
 refine CW.seq ?_
 refine CW.region fun L hL => ?_
 refine LW.rd hL rfl (Wants.free rfl) rfl (Rd.build (v := .agg #[.int .i64 1, .int .i64 1]) rfl (fun _ => by kernel_rfl)) ?_
 refine LW.call hL rfl (Wants.free rfl) rfl (Cl.fn (f := 26) rfl Tryz.func26 (by kernel_rfl) rfl) h (fun e w1 h_ => ?_)
 clear h
 obtain ⟨r2, r3, rfl, h⟩ := h_
 refine ⟨_, rfl, ?_⟩
 refine LW.rd hL rfl (Wants.free rfl) rfl (Rd.move (v := .tuple #[.pointer r2, .int .i64 r3]) rfl) ?_
 refine LW.rd hL rfl (Wants.free rfl) rfl (Rd.extract (v := .pointer r2) rfl rfl) ?_
 refine LW.rd hL rfl (Wants.free rfl) rfl (Rd.extract (v := .int .i64 r3) rfl rfl) ?_
 refine LW.rd hL rfl (Wants.free rfl) rfl (Rd.assign (v := .pointer r2) rfl) ?_
 refine LW.rd hL rfl (Wants.free rfl) rfl (Rd.assign (v := .int .i64 r3) rfl) ?_
 refine LW.nil hL rfl ?_
 refine NW.then ?_
 refine CW.seq ?_
 refine CW.region fun L hL => ?_
 refine LW.rd hL rfl (Wants.free rfl) rfl (Rd.build (v := .agg #[.int .i64 13, .int .i64 0]) rfl (fun _ => by kernel_rfl)) ?_
 refine LW.rd hL rfl (Wants.free rfl) rfl (Rd.build (v := .agg #[.int .i64 1, .int .i64 1]) rfl (fun _ => by kernel_rfl)) ?_
 obtain ⟨b1, hb_b1⟩ : ∃ b1, b1 = World.size w1 := ⟨_, rfl⟩
 obtain ⟨w2, hw_w2⟩ : ∃ w2, w2 = World.alloc w1 (.cells #[.int .i64 0, .int .i64 0] 62) := ⟨_, rfl⟩
 refine LW.val hL rfl (Wants.free rfl) rfl (boxE hb_b1 hw_w2 (Vl.alloc (z := .agg #[.int .i64 0, .int .i64 0]) (by kernel_rfl))) ?_
 have hB := Boxes.alloc (cs := [.int .i64 0, .int .i64 0]) (T := 62) (Boxes.nil w1) hb_b1 hw_w2
 have hlo_b1 := sil_lo (Chg.refl [] w1) hb_b1
 have hc_w2 := sil_alloc (Chg.refl [] w1) hw_w2
 obtain ⟨b2, hb_b2⟩ : ∃ b2, b2 = World.size w2 := ⟨_, rfl⟩
 obtain ⟨w3, hw_w3⟩ : ∃ w3, w3 = World.alloc w2 (.cells #[.int .i64 0, .int .i64 0] 62) := ⟨_, rfl⟩
 refine LW.val hL rfl (Wants.free rfl) rfl (boxE hb_b2 hw_w3 (Vl.alloc (z := .agg #[.int .i64 0, .int .i64 0]) (by kernel_rfl))) ?_
 replace hB := Boxes.alloc (cs := [.int .i64 0, .int .i64 0]) (T := 62) hB hb_b2 hw_w3
 have hlo_b2 := sil_lo hc_w2 hb_b2
 have hc_w3 := sil_alloc hc_w2 hw_w3
 obtain ⟨w4, hw_w4⟩ : ∃ x, x = setCells w3 (⟨b1, 0, none⟩ : Addr) 0 [.int .i64 13, .int .i64 0] := ⟨_, rfl⟩
 refine LW.eff hL rfl (Wants.free rfl) rfl (stNE hw_w4 (Ef.stN (cs := [.int .i64 13, .int .i64 0]) rfl rfl (by kernel_rfl) (List.forall_mem_cons.2 ⟨rfl, (List.forall_mem_cons.2 ⟨rfl, (List.forall_mem_nil _)⟩)⟩) (has_of (hB.at (i := 1) rfl) (by simp)) (free_of' (hB.at (i := 1) rfl)))) ?_
 replace hB : Boxes w4 [(b2, [.int .i64 0, .int .i64 0], 62), (b1, [.int .i64 13, .int .i64 0], 62)] := Boxes.store (vs := [.int .i64 13, .int .i64 0]) (i := 1) (o := 0) hB rfl rfl rfl rfl hw_w4
 have hc_w4 := sil_new hc_w3 (sil_cN hw_w4) hlo_b1
 obtain ⟨w5, hw_w5⟩ : ∃ x, x = setCells w4 (⟨b2, 0, none⟩ : Addr) 0 [.int .i64 1, .int .i64 1] := ⟨_, rfl⟩
 refine LW.eff hL rfl (Wants.free rfl) rfl (stNE hw_w5 (Ef.stN (cs := [.int .i64 1, .int .i64 1]) rfl rfl (by kernel_rfl) (List.forall_mem_cons.2 ⟨rfl, (List.forall_mem_cons.2 ⟨rfl, (List.forall_mem_nil _)⟩)⟩) (has_of (hB.at (i := 0) rfl) (by simp)) (free_of' (hB.at (i := 0) rfl)))) ?_
 replace hB : Boxes w5 [(b2, [.int .i64 1, .int .i64 1], 62), (b1, [.int .i64 13, .int .i64 0], 62)] := Boxes.store (vs := [.int .i64 1, .int .i64 1]) (i := 0) (o := 0) hB rfl rfl rfl rfl hw_w5
 have hc_w5 := sil_new hc_w4 (sil_cN hw_w5) hlo_b2
 refine LW.nil hL rfl ?_
 refine NW.then ?_
 refine CW.seq ?_
 refine CW.region fun L hL => ?_
 refine LW.rd hL rfl (Wants.free rfl) rfl (Rd.move (v := .pointer r2) rfl) ?_
 refine LW.rd hL rfl (Wants.free rfl) rfl (Rd.ldN (cs := [.int .i64 13, .int .i64 0]) rfl (by kernel_rfl) (by kernel_rfl) (cellsS (box_cells (hB.at (i := 1) rfl) rfl))) ?_
 replace h := h b2 b1 w5 ⟨hlo_b2, lt_of_heap (hB.at (i := 0) rfl)⟩ ⟨hlo_b1, lt_of_heap (hB.at (i := 1) rfl)⟩ hc_w5
 refine LW.call hL rfl (Wants.free rfl) rfl (Cl.fn (f := 31) rfl Tryz.func31 (by kernel_rfl) rfl) h (fun e w6 h_ => ?_)
 clear h
 obtain ⟨r4, rfl, h⟩ := h_
 obtain ⟨hsm1, h⟩ := h
 replace hB := Boxes.sameS hB hsm1 (by simp)
 refine ⟨_, rfl, ?_⟩
 refine LW.rd hL rfl (Wants.free rfl) rfl (Rd.assign (v := .int .i64 r4) rfl) ?_
 refine LW.nil hL rfl ?_
 refine NW.then ?_
 refine CW.seq ?_
 refine CW.region fun L hL => ?_
 refine LW.rd hL rfl (Wants.free rfl) rfl (Rd.move (v := .pointer r2) rfl) ?_
 refine LW.rd hL rfl (Wants.free rfl) rfl (Rd.ldN (cs := [.int .i64 1, .int .i64 1]) rfl (by kernel_rfl) (by kernel_rfl) (cellsS (box_cells (hB.at (i := 0) rfl) rfl))) ?_
 refine LW.rd hL rfl (Wants.free rfl) rfl (Rd.ldN (cs := [.int .i64 13, .int .i64 0]) rfl (by kernel_rfl) (by kernel_rfl) (cellsS (box_cells (hB.at (i := 1) rfl) rfl))) ?_
 obtain ⟨b3, hb_b3⟩ : ∃ b3, b3 = World.size w6 := ⟨_, rfl⟩
 obtain ⟨w7, hw_w7⟩ : ∃ w7, w7 = World.alloc w6 (.cells #[.int .i64 13, .int .i64 0] 62) := ⟨_, rfl⟩
 replace h := h b3 hb_b3 w7 hw_w7
 refine LW.val hL rfl (Wants.free rfl) rfl (sliceE (n := 1) hb_b3 hw_w7 (fun w => Vl.buildSlice (vs := [(0, .agg #[.int .i64 13, .int .i64 0])]) rfl (by kernel_rfl))) ?_
 replace hB := hB.grow hw_w7
 refine LW.rd hL rfl (Wants.free rfl) rfl (Rd.build (v := .agg #[.int .i64 1, .int .i64 1, .slice (some (⟨b3, 0, none⟩ : Addr)) 1 1]) rfl (fun _ => by kernel_rfl)) ?_
 obtain ⟨b4, hb_b4⟩ : ∃ b4, b4 = World.size w7 := ⟨_, rfl⟩
 obtain ⟨w8, hw_w8⟩ : ∃ w8, w8 = World.alloc w7 (.cells #[.int .i64 1, .int .i64 1, .slice (some (⟨b3, 0, none⟩ : Addr)) 1 1] 65) := ⟨_, rfl⟩
 replace h := h b4 hb_b4 w8 hw_w8
 refine LW.val hL rfl (Wants.free rfl) rfl (sliceE (n := 1) hb_b4 hw_w8 (fun w => Vl.buildSlice (vs := [(0, .agg #[.int .i64 1, .int .i64 1, .slice (some (⟨b3, 0, none⟩ : Addr)) 1 1])]) rfl (by kernel_rfl))) ?_
 replace hB := hB.grow hw_w8
 refine LW.call hL rfl (Wants.free rfl) rfl (Cl.fn (f := 32) rfl Tryz.func32 (by kernel_rfl) rfl) h (fun e w9 h_ => ?_)
 clear h
 obtain ⟨r5, rfl, h⟩ := h_
 obtain ⟨hsm2, h⟩ := h
 replace hB := Boxes.sameS (hB.sel [0] (by decide) rfl) hsm2 (by simp)
 refine ⟨_, rfl, ?_⟩
 refine LW.rd hL rfl (Wants.free rfl) rfl (Rd.assign (v := .int .i64 r5) rfl) ?_
 refine LW.nil hL rfl ?_
 refine NW.then ?_
 refine CW.seq ?_
 refine CW.region fun L hL => ?_
 refine LW.rd hL rfl (Wants.free rfl) rfl (Rd.move (v := .pointer r2) rfl) ?_
 refine LW.rd hL rfl (Wants.free rfl) rfl (Rd.ldN (cs := [.int .i64 1, .int .i64 1]) rfl (by kernel_rfl) (by kernel_rfl) (cellsS (box_cells (hB.at (i := 0) rfl) rfl))) ?_
 refine LW.call hL rfl (Wants.free rfl) rfl (Cl.fn (f := 35) rfl Tryz.func35 (by kernel_rfl) rfl) h (fun e w10 h_ => ?_)
 clear h
 obtain ⟨r6, r7, rfl, h⟩ := h_
 refine ⟨_, rfl, ?_⟩
 refine LW.rd hL rfl (Wants.free rfl) rfl (Rd.move (v := .tuple #[.int .u32 r6, .int .i64 r7]) rfl) ?_
 refine LW.rd hL rfl (Wants.free rfl) rfl (Rd.extract (v := .int .u32 r6) rfl rfl) ?_
 refine LW.rd hL rfl (Wants.free rfl) rfl (Rd.extract (v := .int .i64 r7) rfl rfl) ?_
 refine LW.rd hL rfl (Wants.free rfl) rfl (Rd.assign (v := .int .u32 r6) rfl) ?_
 refine LW.rd hL rfl (Wants.free rfl) rfl (Rd.assign (v := .int .i64 r7) rfl) ?_
 refine LW.nil hL rfl ?_
 refine NW.then ?_
 refine CW.seq ?_
 refine CW.region fun L hL => ?_
 refine LW.rd hL rfl (Wants.free rfl) rfl (Rd.move (v := .int .i64 r3) rfl) ?_
 refine LW.rd hL rfl (Wants.free rfl) rfl (Rd.bin (v := .bool (r3 == 0)) rfl rfl (fun w => by kernel_rfl)) ?_
 refine LW.rd hL rfl (Wants.free rfl) rfl (Rd.move (v := .bool (r3 == 0)) rfl) ?_
 suffices K1 : L 6 [(0, .bool false), (6, .int .i64 r5), (7, .int .u32 r6), (8, .int .i64 r7), (37, .bool (r3 == 0 && r4 == 0))] w10 by
  rcases Bool.eq_false_or_eq_true (r3 == 0) with hb2 | hb2
  ·skip
   refine LW.rd hL rfl (Wants.on rfl rfl rfl rfl rfl hb2) rfl (Rd.move (v := .int .i64 r4) rfl) ?_
   refine LW.rd hL rfl (Wants.on rfl rfl rfl rfl rfl hb2) rfl (Rd.bin (v := .bool (r4 == 0)) rfl rfl (fun w => by kernel_rfl)) ?_
   refine LW.rd hL rfl (Wants.free rfl) rfl (Rd.pickT rfl hb2 rfl) ?_
   exact LW.sub hL (by exact ⟨rfl, rfl, rfl, rfl, (by rw [hb2]; rfl), trivial⟩) K1
  ·skip
   refine LW.skip hL rfl (Skips.on rfl rfl rfl rfl rfl hb2) rfl ?_
   refine LW.skip hL rfl (Skips.on rfl rfl rfl rfl rfl hb2) rfl ?_
   refine LW.rd hL rfl (Wants.free rfl) rfl (Rd.pickF rfl hb2 rfl) ?_
   exact LW.sub hL (by exact ⟨rfl, rfl, rfl, rfl, (by rw [hb2]; rfl), trivial⟩) K1
 refine LW.rd hL rfl (Wants.free rfl) rfl (Rd.move (v := .bool (r3 == 0 && r4 == 0)) rfl) ?_
 suffices K2 : L 10 [(0, .bool false), (7, .int .u32 r6), (8, .int .i64 r7), (41, .bool ((r3 == 0 && r4 == 0) && r5 == 0))] w10 by
  rcases Bool.eq_false_or_eq_true (r3 == 0 && r4 == 0) with hb4 | hb4
  ·skip
   refine LW.rd hL rfl (Wants.on rfl rfl rfl rfl rfl hb4) rfl (Rd.move (v := .int .i64 r5) rfl) ?_
   refine LW.rd hL rfl (Wants.on rfl rfl rfl rfl rfl hb4) rfl (Rd.bin (v := .bool (r5 == 0)) rfl rfl (fun w => by kernel_rfl)) ?_
   refine LW.rd hL rfl (Wants.free rfl) rfl (Rd.pickT rfl hb4 rfl) ?_
   exact LW.sub hL (by exact ⟨rfl, rfl, rfl, (by rw [hb4]; rfl), trivial⟩) K2
  ·skip
   refine LW.skip hL rfl (Skips.on rfl rfl rfl rfl rfl hb4) rfl ?_
   refine LW.skip hL rfl (Skips.on rfl rfl rfl rfl rfl hb4) rfl ?_
   refine LW.rd hL rfl (Wants.free rfl) rfl (Rd.pickF rfl hb4 rfl) ?_
   exact LW.sub hL (by exact ⟨rfl, rfl, rfl, (by rw [hb4]; rfl), trivial⟩) K2
 refine LW.rd hL rfl (Wants.free rfl) rfl (Rd.move (v := .bool ((r3 == 0 && r4 == 0) && r5 == 0)) rfl) ?_
 suffices K3 : L 14 [(0, .bool false), (8, .int .i64 r7), (45, .bool (((r3 == 0 && r4 == 0) && r5 == 0) && r6 == 1))] w10 by
  rcases Bool.eq_false_or_eq_true ((r3 == 0 && r4 == 0) && r5 == 0) with hb6 | hb6
  ·skip
   refine LW.rd hL rfl (Wants.on rfl rfl rfl rfl rfl hb6) rfl (Rd.move (v := .int .u32 r6) rfl) ?_
   refine LW.rd hL rfl (Wants.on rfl rfl rfl rfl rfl hb6) rfl (Rd.bin (v := .bool (r6 == 1)) rfl rfl (fun w => by kernel_rfl)) ?_
   refine LW.rd hL rfl (Wants.free rfl) rfl (Rd.pickT rfl hb6 rfl) ?_
   exact LW.sub hL (by exact ⟨rfl, rfl, (by rw [hb6]; rfl), trivial⟩) K3
  ·skip
   refine LW.skip hL rfl (Skips.on rfl rfl rfl rfl rfl hb6) rfl ?_
   refine LW.skip hL rfl (Skips.on rfl rfl rfl rfl rfl hb6) rfl ?_
   refine LW.rd hL rfl (Wants.free rfl) rfl (Rd.pickF rfl hb6 rfl) ?_
   exact LW.sub hL (by exact ⟨rfl, rfl, (by rw [hb6]; rfl), trivial⟩) K3
 refine LW.rd hL rfl (Wants.free rfl) rfl (Rd.move (v := .bool (((r3 == 0 && r4 == 0) && r5 == 0) && r6 == 1)) rfl) ?_
 suffices K4 : L 18 [(0, .bool false), (49, .bool ((((r3 == 0 && r4 == 0) && r5 == 0) && r6 == 1) && r7 == 0))] w10 by
  rcases Bool.eq_false_or_eq_true (((r3 == 0 && r4 == 0) && r5 == 0) && r6 == 1) with hb8 | hb8
  ·skip
   refine LW.rd hL rfl (Wants.on rfl rfl rfl rfl rfl hb8) rfl (Rd.move (v := .int .i64 r7) rfl) ?_
   refine LW.rd hL rfl (Wants.on rfl rfl rfl rfl rfl hb8) rfl (Rd.bin (v := .bool (r7 == 0)) rfl rfl (fun w => by kernel_rfl)) ?_
   refine LW.rd hL rfl (Wants.free rfl) rfl (Rd.pickT rfl hb8 rfl) ?_
   exact LW.sub hL (by exact ⟨rfl, (by rw [hb8]; rfl), trivial⟩) K4
  ·skip
   refine LW.skip hL rfl (Skips.on rfl rfl rfl rfl rfl hb8) rfl ?_
   refine LW.skip hL rfl (Skips.on rfl rfl rfl rfl rfl hb8) rfl ?_
   refine LW.rd hL rfl (Wants.free rfl) rfl (Rd.pickF rfl hb8 rfl) ?_
   exact LW.sub hL (by exact ⟨rfl, (by rw [hb8]; rfl), trivial⟩) K4
 refine LW.rd hL rfl (Wants.free rfl) rfl (Rd.assign (v := .bool ((((r3 == 0 && r4 == 0) && r5 == 0) && r6 == 1) && r7 == 0)) rfl) ?_
 refine LW.nil hL rfl ?_
 refine NW.then ?_
 refine CW.ret ?_
 exact res1 rfl rfl ⟨((((r3 == 0 && r4 == 0) && r5 == 0) && r6 == 1) && r7 == 0), rfl, h⟩
/- (*pomander/flow.Flow).Apply -/
def W_flow_Flow_Apply (f1 : Option Addr) (l1 : Option Addr) (l1n : Nat) (l1c : Nat) (w : World) (R : Int → World → Prop) : Prop :=
 Calls Tryz.prog 43 #[.pointer f1] w fun e w1 => ∃ (r2 : Bool), e = .returned (.bool r2) ∧ ((r2 = true → R 1 w1) ∧ (r2 = false → Calls Tryz.prog 66 #[.pointer f1, .slice l1 l1n l1c] w1 fun e w2 => ∃ (r3 : Bool), e = .returned (.bool r3) ∧ (((!r3) = true → R 2 w2) ∧ ((!r3) = false → ∀ b1 : Nat, b1 = World.size w2 → ∀ w3 : World, w3 = World.alloc w2 (.map #[] 0) → (∃ (I1 : Int → Int → World → Prop) (m1 : Int → Int → World → Nat), I1 0 0 w3 ∧ ∀ (x1 : Int) (x2 : Int) (w4 : World), I1 x1 x2 w4 → ((decide (x2 < (l1n : Int))) = true → ∃ J1 : Int → World → Prop, (∀ (x3 : Int) (w5 : World), J1 x3 w5 → (I1 x3 (IntKind.wrap .i64 (x2 + 1)) w5 ∧ m1 x3 (IntKind.wrap .i64 (x2 + 1)) w5 < m1 x1 x2 w4)) ∧ (∃ a1 : Addr, l1 = some a1 ∧ (0 : Int) ≤ x2 ∧ x2 < (l1n : Int) ∧ (∃ (t1 : Int) (t2 : Int) (t3 : Option Addr) (t3n : Nat) (t3c : Nat), CellsAt w4 (a1.add (Int.toNat x2 * 3)) 0 [.int .i64 t1, .int .i64 t2, .slice t3 t3n t3c] ∧ (∀ (b2 : Nat) (w7 : World), (w4.heap.size ≤ b2 ∧ b2 < w7.heap.size) → Chg [] w4 w7 → ((((t1 == 0) && (t2 == 0)) = true → J1 x1 w7) ∧ (((t1 == 0) && (t2 == 0)) = false → Calls Tryz.prog 67 #[.pointer f1, .slice t3 t3n t3c] w7 fun e w8 => ∃ (r4 : Int), e = .returned (.int .u32 r4) ∧ (Same w7 w8 [b2] ∧ (Calls Tryz.prog 64 #[.pointer f1, .int .u32 r4] w8 fun e w9 => ∃ (r5 : Int), e = .returned (.int .i64 r5) ∧ (Same w8 w9 [b2] ∧ (((!(r5 == 0)) = true → R r5 w9) ∧ ((!(r5 == 0)) = false → ∃ w10 : World, (Instr.mapUpdate 99 (.map (some b1)) (.agg #[.int .i64 t1, .int .i64 t2]) (.int .u32 r4)).run Tryz.prog w9 = .ok () w10 ∧ (J1 x1 w10)))))))))))) ∧ ((decide (x2 < (l1n : Int))) = false → ∃ (it1 : Option Addr) (w11 : World), (Instr.range 99 (.map (some b1))).run Tryz.prog w4 = .ok (.pointer it1) w11 ∧ (∃ (I2 : World → Prop) (m2 : World → Nat), I2 w11 ∧ ∀ (w12 : World), I2 w12 → ∃ (nx1 : Array Value) (ok1 : Bool) (w13 : World), (Instr.next (.pointer it1) false 0).run Tryz.prog w12 = .ok (.tuple nx1) w13 ∧ nx1[0]? = some (.bool ok1) ∧ ((ok1 = true → ∃ (k1 : Int) (k2 : Int) (v1 : Int), (Instr.entry (.pointer it1)).run Tryz.prog w13 = .ok (.tuple #[.agg #[.int .i64 k1, .int .i64 k2], .int .u32 v1]) w13 ∧ (∀ (b3 : Nat) (w15 : World), (w13.heap.size ≤ b3 ∧ b3 < w15.heap.size) → Chg [] w13 w15 → (Calls Tryz.prog 65 #[.pointer f1, .agg #[.int .i64 k1, .int .i64 k2], .int .u32 v1] w15 fun e w16 => e = .returned (.tuple #[]) ∧ ((I2 w16 ∧ m2 w16 < m2 w12))))) ∧ (ok1 = false → R 0 w13)))))))))
set_option maxRecDepth 100000 in
theorem go_flow_Flow_Apply (f1 : Option Addr) (l1 : Option Addr) (l1n : Nat) (l1c : Nat) (w : World) (R : Int → World → Prop) (h : W_flow_Flow_Apply f1 l1 l1n l1c w R) : Calls Tryz.prog 32 #[.pointer f1, .slice l1 l1n l1c] w (fun e w' => ∃ (r1 : Int), e = .returned (.int .i64 r1) ∧ R r1 w') := by
 unfold W_flow_Flow_Apply at h
 refine enter (N := 57) Tryz.func32 rfl rfl ?_
 refine CW.seq ?_
 refine CW.region fun L hL => ?_
 refine LW.rd hL rfl (Wants.free rfl) rfl (Rd.assign (v := .int .i64 0) rfl) ?_
 refine LW.nil hL rfl ?_
 refine NW.then ?_
 refine CW.seq ?_
 refine CW.block ?_
 refine CW.seq ?_
 refine CW.region fun L hL => ?_
 refine LW.rd hL rfl (Wants.free rfl) rfl (Rd.move (v := .pointer f1) rfl) ?_
 refine LW.call hL rfl (Wants.free rfl) rfl (Cl.fn (f := 43) rfl Tryz.func43 (by kernel_rfl) rfl) h (fun e w1 h_ => ?_)
 clear h
 obtain ⟨r2, rfl, h⟩ := h_
 refine ⟨_, rfl, ?_⟩
 refine LW.rd hL rfl (Wants.free rfl) rfl (Rd.assign (v := .bool r2) rfl) ?_
 refine LW.nil hL rfl ?_
 refine NW.then ?_
 refine CW.cond rfl (fun hb1 => ?_) (fun hb1 => ?_)
 ·replace h := h.1 hb1
  refine CW.seq ?_
  refine CW.region fun L hL => ?_
  refine LW.rd hL rfl (Wants.free rfl) rfl (Rd.assign (v := .int .i64 1) rfl) ?_
  refine LW.nil hL rfl ?_
  refine NW.then ?_
  refine CW.ret ?_
  refine RW.block ?_
  refine RW.then ?_
  exact res1 rfl rfl ⟨1, rfl, h⟩
 ·replace h := h.2 hb1
  refine CW.seq ?_
  refine CW.region fun L hL => ?_
  refine LW.rd hL rfl (Wants.free rfl) rfl (Rd.move (v := .pointer f1) rfl) ?_
  refine LW.rd hL rfl (Wants.free rfl) rfl (Rd.move (v := .slice l1 l1n l1c) rfl) ?_
  refine LW.call hL rfl (Wants.free rfl) rfl (Cl.fn (f := 66) rfl Tryz.func66 (by kernel_rfl) rfl) h (fun e w2 h_ => ?_)
  clear h
  obtain ⟨r3, rfl, h⟩ := h_
  refine ⟨_, rfl, ?_⟩
  refine LW.rd hL rfl (Wants.free rfl) rfl (Rd.un (v := .bool (!r3)) rfl (fun _ => by kernel_rfl)) ?_
  refine LW.rd hL rfl (Wants.free rfl) rfl (Rd.assign (v := .bool (!r3)) rfl) ?_
  refine LW.nil hL rfl ?_
  refine NW.then ?_
  refine CW.cond rfl (fun hb2 => ?_) (fun hb2 => ?_)
  ·replace h := h.1 hb2
   refine CW.seq ?_
   refine CW.region fun L hL => ?_
   refine LW.rd hL rfl (Wants.free rfl) rfl (Rd.assign (v := .int .i64 2) rfl) ?_
   refine LW.nil hL rfl ?_
   refine NW.then ?_
   refine CW.ret ?_
   refine RW.block ?_
   refine RW.then ?_
   exact res1 rfl rfl ⟨2, rfl, h⟩
  ·replace h := h.2 hb2
   refine CW.skip ?_
   refine NW.block ?_
   refine NW.then ?_
   refine CW.seq ?_
   refine CW.region fun L hL => ?_
   obtain ⟨b1, hb_b1⟩ : ∃ b1, b1 = World.size w2 := ⟨_, rfl⟩
   obtain ⟨w3, hw_w3⟩ : ∃ w3, w3 = World.alloc w2 (.map #[] 0) := ⟨_, rfl⟩
   replace h := h b1 hb_b1 w3 hw_w3
   refine LW.val hL rfl (Wants.free rfl) rfl (mapE hb_b1 hw_w3 Vl.makeMap) ?_
   refine LW.rd hL rfl (Wants.free rfl) rfl (Rd.assign (v := .map (some b1)) rfl) ?_
   refine LW.nil hL rfl ?_
   refine NW.then ?_
   refine CW.seq ?_
   refine CW.seq ?_
   refine CW.region fun L hL => ?_
   refine LW.rd hL rfl (Wants.free rfl) rfl (Rd.move (v := .slice l1 l1n l1c) rfl) ?_
   refine LW.rd hL rfl (Wants.free rfl) rfl (Rd.builtin (v := .int .i64 (l1n : Int)) rfl (fun _ _ => by kernel_rfl)) ?_
   refine LW.rd hL rfl (Wants.free rfl) rfl (Rd.move (v := .int .i64 0) rfl) ?_
   refine LW.nil hL rfl ?_
   refine NW.then ?_
   refine CW.block ?_
   obtain ⟨I1, m1, hI1, h⟩ := h
   refine CW.loop (S := Int × Int) (fun s1 => [(0, .pointer f1), (5, .map (some b1)), (21, .slice l1 l1n l1c), (22, .int .i64 (l1n : Int)), (4, .int .i64 s1.1), (23, .int .i64 s1.2)]) (fun s1 w4 => I1 s1.1 s1.2 w4) (fun s1 w4 => m1 s1.1 s1.2 w4) (0, 0) (by exact ⟨rfl, rfl, rfl, rfl, rfl, rfl, trivial⟩) hI1 (fun s1 w4 hI1 => ?_)
   obtain ⟨x1, x2⟩ := s1; replace h := h x1 x2 w4 hI1
   refine CW.seq ?_
   refine CW.region fun L hL => ?_
   refine LW.rd hL rfl (Wants.free rfl) rfl (Rd.bin (v := .bool (decide (x2 < (l1n : Int)))) rfl rfl (fun w => by kernel_rfl)) ?_
   refine LW.nil hL rfl ?_
   refine NW.then ?_
   refine CW.seq ?_
   refine CW.cond rfl (fun hb3 => ?_) (fun hb3 => ?_)
   ·replace h := h.1 hb3
    refine CW.skip ?_
    refine NW.then ?_
    obtain ⟨J1, hJ1, h⟩ := h
    refine CW.cut (S := Int) (fun x3 => [(0, .pointer f1), (5, .map (some b1)), (21, .slice l1 l1n l1c), (22, .int .i64 (l1n : Int)), (23, .int .i64 x2), (4, .int .i64 x3)]) (fun x3 w5 => J1 x3 w5) (fun x3 w5 h_ => ?_) ?_
    ·replace h := hJ1 x3 w5 h_; clear h_
     refine CW.region fun L hL => ?_
     refine LW.rd hL rfl (Wants.free rfl) rfl (Rd.bin (v := .int .i64 (IntKind.wrap .i64 (x2 + 1))) rfl rfl (fun w => by kernel_rfl)) ?_
     refine LW.rd hL rfl (Wants.free rfl) rfl (Rd.move (v := .int .i64 (IntKind.wrap .i64 (x2 + 1))) rfl) ?_
     refine LW.nil hL rfl ?_
     exact NW.loop (S := Int × Int) (Ek := fun s1 => [(0, .pointer f1), (5, .map (some b1)), (21, .slice l1 l1n l1c), (22, .int .i64 (l1n : Int)), (4, .int .i64 s1.1), (23, .int .i64 s1.2)]) (x3, IntKind.wrap .i64 (x2 + 1)) (by exact ⟨rfl, rfl, rfl, rfl, rfl, rfl, trivial⟩) h
    ·skip
     refine CW.block ?_
     refine CW.seq ?_
     refine CW.region fun L hL => ?_
     obtain ⟨a1, he1, hi1, hi2, h⟩ := h
     refine LW.rd hL rfl (Wants.free rfl) rfl (Rd.iaS (q := a1) (sz := 3) (by rw [← he1]; rfl) rfl Tryz.underlying27 (by kernel_rfl) hi1 hi2) ?_
     obtain ⟨t1, t2, t3, t3n, t3c, hc1, h⟩ := h
     refine LW.rd hL rfl (Wants.free rfl) rfl (Rd.ldN (cs := [.int .i64 t1, .int .i64 t2, .slice t3 t3n t3c]) rfl (by kernel_rfl) (by kernel_rfl) (cellsS hc1)) ?_
     obtain ⟨b2, hb_b2⟩ : ∃ b2, b2 = World.size w4 := ⟨_, rfl⟩
     obtain ⟨w6, hw_w6⟩ : ∃ w6, w6 = World.alloc w4 (.cells #[.int .i64 0, .int .i64 0, .slice none 0 0] 65) := ⟨_, rfl⟩
     refine LW.val hL rfl (Wants.free rfl) rfl (boxE hb_b2 hw_w6 (Vl.alloc (z := .agg #[.int .i64 0, .int .i64 0, .slice none 0 0]) (by kernel_rfl))) ?_
     have hB := Boxes.alloc (cs := [.int .i64 0, .int .i64 0, .slice none 0 0]) (T := 65) (Boxes.nil w4) hb_b2 hw_w6
     have hlo_b2 := sil_lo (Chg.refl [] w4) hb_b2
     have hc_w6 := sil_alloc (Chg.refl [] w4) hw_w6
     obtain ⟨w7, hw_w7⟩ : ∃ x, x = setCells w6 (⟨b2, 0, none⟩ : Addr) 0 [.int .i64 t1, .int .i64 t2, .slice t3 t3n t3c] := ⟨_, rfl⟩
     refine LW.eff hL rfl (Wants.free rfl) rfl (stNE hw_w7 (Ef.stN (cs := [.int .i64 t1, .int .i64 t2, .slice t3 t3n t3c]) rfl rfl (by kernel_rfl) (List.forall_mem_cons.2 ⟨rfl, (List.forall_mem_cons.2 ⟨rfl, (List.forall_mem_cons.2 ⟨rfl, (List.forall_mem_nil _)⟩)⟩)⟩) (has_of (hB.at (i := 0) rfl) (by simp)) (free_of' (hB.at (i := 0) rfl)))) ?_
     replace hB : Boxes w7 [(b2, [.int .i64 t1, .int .i64 t2, .slice t3 t3n t3c], 65)] := Boxes.store (vs := [.int .i64 t1, .int .i64 t2, .slice t3 t3n t3c]) (i := 0) (o := 0) hB rfl rfl rfl rfl hw_w7
     have hc_w7 := sil_new hc_w6 (sil_cN hw_w7) hlo_b2
     refine LW.nil hL rfl ?_
     refine NW.then ?_
     refine CW.seq ?_
     refine CW.seq ?_
     refine CW.region fun L hL => ?_
     refine LW.rd hL rfl (Wants.free rfl) rfl (Rd.fa (v := .pointer (some (⟨b2, 0, none⟩ : Addr))) rfl (fun _ => by kernel_rfl)) ?_
     refine LW.rd hL rfl (Wants.free rfl) rfl (Rd.ldN (cs := [.int .i64 t1, .int .i64 t2]) rfl (by kernel_rfl) (by kernel_rfl) (cellsS (box_cells (hB.at (i := 0) rfl) rfl))) ?_
     refine LW.rd hL rfl (Wants.free rfl) rfl (Rd.build (v := .agg #[.int .i64 0, .int .i64 0]) rfl (fun _ => by kernel_rfl)) ?_
     refine LW.rd hL rfl (Wants.free rfl) rfl (Rd.bin (v := .bool ((t1 == 0) && (t2 == 0))) rfl rfl (fun w => eqS_62 _ _ _ _ w)) ?_
     refine LW.nil hL rfl ?_
     refine NW.then ?_
     replace h := h b2 w7 ⟨hlo_b2, lt_of_heap (hB.at (i := 0) rfl)⟩ hc_w7
     refine CW.cond rfl (fun hb4 => ?_) (fun hb4 => ?_)
     ·replace h := h.1 hb4
      refine CW.exit ?_
      refine XW.then ?_
      refine XW.hit ?_
      exact NW.cut (S := Int) (Ek := fun x3 => [(0, .pointer f1), (5, .map (some b1)), (21, .slice l1 l1n l1c), (22, .int .i64 (l1n : Int)), (23, .int .i64 x2), (4, .int .i64 x3)]) x1 (by exact ⟨rfl, rfl, rfl, rfl, rfl, rfl, trivial⟩) h
     ·replace h := h.2 hb4
      refine CW.skip ?_
      refine NW.then ?_
      refine CW.seq ?_
      refine CW.region fun L hL => ?_
      refine LW.rd hL rfl (Wants.free rfl) rfl (Rd.move (v := .pointer f1) rfl) ?_
      refine LW.rd hL rfl (Wants.free rfl) rfl (Rd.fa (v := .pointer (some (⟨b2, 2, none⟩ : Addr))) rfl (fun _ => by kernel_rfl)) ?_
      refine LW.rd hL rfl (Wants.free rfl) rfl (Rd.ld (v := .slice t3 t3n t3c) rfl (by kernel_rfl) (eqs (box_cell (hB.at (i := 0) rfl) rfl))) ?_
      refine LW.call hL rfl (Wants.free rfl) rfl (Cl.fn (f := 67) rfl Tryz.func67 (by kernel_rfl) rfl) h (fun e w8 h_ => ?_)
      clear h
      obtain ⟨r4, rfl, h⟩ := h_
      obtain ⟨hsm1, h⟩ := h
      replace hB := Boxes.sameS hB hsm1 (by simp)
      refine ⟨_, rfl, ?_⟩
      refine LW.rd hL rfl (Wants.free rfl) rfl (Rd.assign (v := .int .u32 r4) rfl) ?_
      refine LW.nil hL rfl ?_
      refine NW.then ?_
      refine CW.seq ?_
      refine CW.seq ?_
      refine CW.region fun L hL => ?_
      refine LW.rd hL rfl (Wants.free rfl) rfl (Rd.move (v := .pointer f1) rfl) ?_
      refine LW.rd hL rfl (Wants.free rfl) rfl (Rd.move (v := .int .u32 r4) rfl) ?_
      refine LW.call hL rfl (Wants.free rfl) rfl (Cl.fn (f := 64) rfl Tryz.func64 (by kernel_rfl) rfl) h (fun e w9 h_ => ?_)
      clear h
      obtain ⟨r5, rfl, h⟩ := h_
      obtain ⟨hsm2, h⟩ := h
      replace hB := Boxes.sameS hB hsm2 (by simp)
      refine ⟨_, rfl, ?_⟩
      refine LW.rd hL rfl (Wants.free rfl) rfl (Rd.assign (v := .int .i64 r5) rfl) ?_
      refine LW.nil hL rfl ?_
      refine NW.then ?_
      refine CW.seq ?_
      refine CW.region fun L hL => ?_
      refine LW.rd hL rfl (Wants.free rfl) rfl (Rd.move (v := .int .i64 r5) rfl) ?_
      refine LW.rd hL rfl (Wants.free rfl) rfl (Rd.bin (v := .bool (!(r5 == 0))) rfl rfl (fun w => by kernel_rfl)) ?_
      refine LW.nil hL rfl ?_
      refine NW.then ?_
      refine CW.cond rfl (fun hb5 => ?_) (fun hb5 => ?_)
      ·replace h := h.1 hb5
       refine CW.seq ?_
       refine CW.region fun L hL => ?_
       refine LW.rd hL rfl (Wants.free rfl) rfl (Rd.move (v := .int .i64 r5) rfl) ?_
       refine LW.rd hL rfl (Wants.free rfl) rfl (Rd.assign (v := .int .i64 r5) rfl) ?_
       refine LW.nil hL rfl ?_
       refine NW.then ?_
       refine CW.ret ?_
       refine RW.then ?_
       refine RW.block ?_
       refine RW.then ?_
       refine RW.then ?_
       refine RW.block ?_
       refine RW.then ?_
       exact res1 rfl rfl ⟨r5, rfl, h⟩
      ·replace h := h.2 hb5
       refine CW.skip ?_
       refine NW.then ?_
       refine CW.region fun L hL => ?_
       refine LW.rd hL rfl (Wants.free rfl) rfl (Rd.move (v := .map (some b1)) rfl) ?_
       refine LW.rd hL rfl (Wants.free rfl) rfl (Rd.fa (v := .pointer (some (⟨b2, 0, none⟩ : Addr))) rfl (fun _ => by kernel_rfl)) ?_
       refine LW.rd hL rfl (Wants.free rfl) rfl (Rd.ldN (cs := [.int .i64 t1, .int .i64 t2]) rfl (by kernel_rfl) (by kernel_rfl) (cellsS (box_cells (hB.at (i := 0) rfl) rfl))) ?_
       refine LW.rd hL rfl (Wants.free rfl) rfl (Rd.move (v := .int .u32 r4) rfl) ?_
       obtain ⟨w10, hm1, h⟩ := h
       refine LW.eff hL rfl (Wants.free rfl) rfl (Ef.mapUpdate rfl rfl rfl hm1) ?_
       refine LW.nil hL rfl ?_
       refine NW.block ?_
       exact NW.cut (S := Int) (Ek := fun x3 => [(0, .pointer f1), (5, .map (some b1)), (21, .slice l1 l1n l1c), (22, .int .i64 (l1n : Int)), (23, .int .i64 x2), (4, .int .i64 x3)]) x1 (by exact ⟨rfl, rfl, rfl, rfl, rfl, rfl, trivial⟩) h
   ·replace h := h.2 hb3
    refine CW.exit ?_
    refine XW.then ?_
    refine XW.then ?_
    refine XW.hit ?_
    refine NW.then ?_
    refine CW.seq ?_
    refine CW.seq ?_
    refine CW.region fun L hL => ?_
    refine LW.rd hL rfl (Wants.free rfl) rfl (Rd.move (v := .map (some b1)) rfl) ?_
    obtain ⟨it1, w11, hm2, h⟩ := h
    refine LW.val hL rfl (Wants.free rfl) rfl (Vl.range (v := .pointer it1) rfl hm2) ?_
    refine LW.nil hL rfl ?_
    refine NW.then ?_
    refine CW.block ?_
    obtain ⟨I2, m2, hI2, h⟩ := h
    refine CW.loop (S := Unit) (fun s2 => [(0, .pointer f1), (4, .int .i64 x1), (47, .pointer it1)]) (fun s2 w12 => I2 w12) (fun s2 w12 => m2 w12) () (by exact ⟨rfl, rfl, rfl, trivial⟩) hI2 (fun s2 w12 hI2 => ?_)
    replace h := h w12 hI2
    refine CW.seq ?_
    refine CW.region fun L hL => ?_
    obtain ⟨nx1, ok1, w13, hm3, hk1, h⟩ := h
    refine LW.val hL rfl (Wants.free rfl) rfl (Vl.next (v := .tuple nx1) rfl hm3) ?_
    refine LW.rd hL rfl (Wants.free rfl) rfl (Rd.extract (v := .bool ok1) rfl hk1) ?_
    refine LW.nil hL rfl ?_
    refine NW.then ?_
    refine CW.seq ?_
    refine CW.cond rfl (fun hb6 => ?_) (fun hb6 => ?_)
    ·replace h := h.1 hb6
     refine CW.skip ?_
     refine NW.then ?_
     refine CW.block ?_
     refine CW.seq ?_
     refine CW.region fun L hL => ?_
     obtain ⟨k1, k2, v1, hl1, h⟩ := h
     refine LW.rd hL rfl (Wants.free rfl) rfl (Rd.entry (v := .tuple #[.agg #[.int .i64 k1, .int .i64 k2], .int .u32 v1]) rfl (fun _ e => e ▸ hl1)) ?_
     refine LW.rd hL rfl (Wants.free rfl) rfl (Rd.extract (v := .agg #[.int .i64 k1, .int .i64 k2]) rfl rfl) ?_
     refine LW.rd hL rfl (Wants.free rfl) rfl (Rd.extract (v := .int .u32 v1) rfl rfl) ?_
     obtain ⟨b3, hb_b3⟩ : ∃ b3, b3 = World.size w13 := ⟨_, rfl⟩
     obtain ⟨w14, hw_w14⟩ : ∃ w14, w14 = World.alloc w13 (.cells #[.int .i64 0, .int .i64 0] 62) := ⟨_, rfl⟩
     refine LW.val hL rfl (Wants.free rfl) rfl (boxE hb_b3 hw_w14 (Vl.alloc (z := .agg #[.int .i64 0, .int .i64 0]) (by kernel_rfl))) ?_
     have hB := Boxes.alloc (cs := [.int .i64 0, .int .i64 0]) (T := 62) (Boxes.nil w13) hb_b3 hw_w14
     have hlo_b3 := sil_lo (Chg.refl [] w13) hb_b3
     have hc_w14 := sil_alloc (Chg.refl [] w13) hw_w14
     obtain ⟨w15, hw_w15⟩ : ∃ x, x = setCells w14 (⟨b3, 0, none⟩ : Addr) 0 [.int .i64 k1, .int .i64 k2] := ⟨_, rfl⟩
     refine LW.eff hL rfl (Wants.free rfl) rfl (stNE hw_w15 (Ef.stN (cs := [.int .i64 k1, .int .i64 k2]) rfl rfl (by kernel_rfl) (List.forall_mem_cons.2 ⟨rfl, (List.forall_mem_cons.2 ⟨rfl, (List.forall_mem_nil _)⟩)⟩) (has_of (hB.at (i := 0) rfl) (by simp)) (free_of' (hB.at (i := 0) rfl)))) ?_
     replace hB : Boxes w15 [(b3, [.int .i64 k1, .int .i64 k2], 62)] := Boxes.store (vs := [.int .i64 k1, .int .i64 k2]) (i := 0) (o := 0) hB rfl rfl rfl rfl hw_w15
     have hc_w15 := sil_new hc_w14 (sil_cN hw_w15) hlo_b3
     refine LW.rd hL rfl (Wants.free rfl) rfl (Rd.assign (v := .int .u32 v1) rfl) ?_
     refine LW.nil hL rfl ?_
     refine NW.then ?_
     refine CW.region fun L hL => ?_
     refine LW.rd hL rfl (Wants.free rfl) rfl (Rd.move (v := .pointer f1) rfl) ?_
     refine LW.rd hL rfl (Wants.free rfl) rfl (Rd.ldN (cs := [.int .i64 k1, .int .i64 k2]) rfl (by kernel_rfl) (by kernel_rfl) (cellsS (box_cells (hB.at (i := 0) rfl) rfl))) ?_
     refine LW.rd hL rfl (Wants.free rfl) rfl (Rd.move (v := .int .u32 v1) rfl) ?_
     replace h := h b3 w15 ⟨hlo_b3, lt_of_heap (hB.at (i := 0) rfl)⟩ hc_w15
     refine LW.call hL rfl (Wants.free rfl) rfl (Cl.fn (f := 65) rfl Tryz.func65 (by kernel_rfl) rfl) h (fun e w16 h_ => ?_)
     clear h
     obtain ⟨rfl, h⟩ := h_
     refine ⟨_, rfl, ?_⟩
     refine LW.nil hL rfl ?_
     refine NW.block ?_
     exact NW.loop (S := Unit) (Ek := fun s2 => [(0, .pointer f1), (4, .int .i64 x1), (47, .pointer it1)]) () (by exact ⟨rfl, rfl, rfl, trivial⟩) h
    ·replace h := h.2 hb6
     refine CW.exit ?_
     refine XW.then ?_
     refine XW.then ?_
     refine XW.hit ?_
     refine NW.then ?_
     refine CW.seq ?_
     refine CW.region fun L hL => ?_
     refine LW.rd hL rfl (Wants.free rfl) rfl (Rd.assign (v := .int .i64 0) rfl) ?_
     refine LW.nil hL rfl ?_
     refine NW.then ?_
     refine CW.ret ?_
     exact res1 rfl rfl ⟨0, rfl, h⟩
/- (pomander/pomanderref12.Flow).Get -/
def W_pomanderref12_Flow_Get (f1 : Int) (f2 : Int) (f3 : Int) (f4 : Option Addr) (f4n : Nat) (f4c : Nat) (f5 : Option Addr) (f5n : Nat) (f5c : Nat) (p1 : Int) (p2 : Int) (w : World) (R : Int → World → Prop) : Prop :=
 ∀ (b2 b1 : Nat) (w2 : World), (w.heap.size ≤ b2 ∧ b2 < w2.heap.size) → (w.heap.size ≤ b1 ∧ b1 < w2.heap.size) → Chg [] w w2 → (∃ (I1 : Int → Int → World → Prop) (m1 : Int → Int → World → Nat), I1 0 0 w2 ∧ ∀ (x1 : Int) (i1 : Int) (w3 : World), I1 x1 i1 w3 → ((decide (i1 < (f5n : Int))) = true → ∃ a1 : Addr, f5 = some a1 ∧ (0 : Int) ≤ i1 ∧ i1 < (f5n : Int) ∧ (∀ (w4 : World), Chg [] w3 w4 → (∃ (t1 : Int) (t2 : Int), CellsAt w4 (a1.add (Int.toNat i1 * 3)) 0 [.int .i64 t1, .int .i64 t2] ∧ ((((t1 == p1) && (t2 == p2)) = true → ∃ (t3 : Int), w4.cell? ((a1.add (Int.toNat i1 * 3)).add 2) = some (.int .u32 t3) ∧ (R t3 w4)) ∧ (((t1 == p1) && (t2 == p2)) = false → (I1 x1 (IntKind.wrap .i64 (i1 + 1)) w4 ∧ m1 x1 (IntKind.wrap .i64 (i1 + 1)) w4 < m1 x1 i1 w3)))))) ∧ ((decide (i1 < (f5n : Int))) = false → R 0 w3))
set_option maxRecDepth 100000 in
theorem go_pomanderref12_Flow_Get (f1 : Int) (f2 : Int) (f3 : Int) (f4 : Option Addr) (f4n : Nat) (f4c : Nat) (f5 : Option Addr) (f5n : Nat) (f5c : Nat) (p1 : Int) (p2 : Int) (w : World) (R : Int → World → Prop) (h : W_pomanderref12_Flow_Get f1 f2 f3 f4 f4n f4c f5 f5n f5c p1 p2 w R) : Calls Tryz.prog 86 #[.agg #[.int .i64 f1, .int .i64 f2, .int .i64 f3, .slice f4 f4n f4c, .slice f5 f5n f5c], .agg #[.int .i64 p1, .int .i64 p2]] w (fun e w' => ∃ (r1 : Int), e = .returned (.int .u32 r1) ∧ R r1 w') := by
 unfold W_pomanderref12_Flow_Get at h
 refine enter (N := 27) Tryz.func86 rfl rfl ?_
 refine CW.seq ?_
 refine CW.region fun L hL => ?_
 obtain ⟨b1, hb_b1⟩ : ∃ b1, b1 = World.size w := ⟨_, rfl⟩
 obtain ⟨w1, hw_w1⟩ : ∃ w1, w1 = World.alloc w (.cells #[.int .i64 f1, .int .i64 f2, .int .i64 f3, .slice f4 f4n f4c, .slice f5 f5n f5c] 43) := ⟨_, rfl⟩
 refine LW.val hL rfl (Wants.free rfl) rfl (boxE hb_b1 hw_w1 (Vl.box (v := .agg #[.int .i64 f1, .int .i64 f2, .int .i64 f3, .slice f4 f4n f4c, .slice f5 f5n f5c]) rfl)) ?_
 have hB := Boxes.alloc (cs := [.int .i64 f1, .int .i64 f2, .int .i64 f3, .slice f4 f4n f4c, .slice f5 f5n f5c]) (T := 43) (Boxes.nil w) hb_b1 hw_w1
 have hlo_b1 := sil_lo (Chg.refl [] w) hb_b1
 have hc_w1 := sil_alloc (Chg.refl [] w) hw_w1
 obtain ⟨b2, hb_b2⟩ : ∃ b2, b2 = World.size w1 := ⟨_, rfl⟩
 obtain ⟨w2, hw_w2⟩ : ∃ w2, w2 = World.alloc w1 (.cells #[.int .i64 p1, .int .i64 p2] 62) := ⟨_, rfl⟩
 refine LW.val hL rfl (Wants.free rfl) rfl (boxE hb_b2 hw_w2 (Vl.box (v := .agg #[.int .i64 p1, .int .i64 p2]) rfl)) ?_
 replace hB := Boxes.alloc (cs := [.int .i64 p1, .int .i64 p2]) (T := 62) hB hb_b2 hw_w2
 have hlo_b2 := sil_lo hc_w1 hb_b2
 have hc_w2 := sil_alloc hc_w1 hw_w2
 refine LW.rd hL rfl (Wants.free rfl) rfl (Rd.assign (v := .int .u32 0) rfl) ?_
 refine LW.nil hL rfl ?_
 refine NW.then ?_
 refine CW.seq ?_
 refine CW.seq ?_
 refine CW.region fun L hL => ?_
 refine LW.rd hL rfl (Wants.free rfl) rfl (Rd.assign (v := .int .i64 0) rfl) ?_
 refine LW.nil hL rfl ?_
 refine NW.then ?_
 refine CW.block ?_
 replace h := h b2 b1 w2 ⟨hlo_b2, lt_of_heap (hB.at (i := 0) rfl)⟩ ⟨hlo_b1, lt_of_heap (hB.at (i := 1) rfl)⟩ hc_w2
 obtain ⟨I1, m1, hI1, h⟩ := h
 refine CW.loop (S := Int × Int) (fun s1 => [(2, .pointer (some (⟨b1, 0, none⟩ : Addr))), (3, .pointer (some (⟨b2, 0, none⟩ : Addr))), (4, .int .u32 s1.1), (5, .int .i64 s1.2)]) (fun s1 w3 => I1 s1.1 s1.2 w3 ∧ Boxes w3 [(b1, [.int .i64 f1, .int .i64 f2, .int .i64 f3, .slice f4 f4n f4c, .slice f5 f5n f5c], 43), (b2, [.int .i64 p1, .int .i64 p2], 62)]) (fun s1 w3 => m1 s1.1 s1.2 w3) (0, 0) (by exact ⟨rfl, rfl, rfl, rfl, trivial⟩) ⟨hI1, (hB.sel [1, 0] (by decide) rfl)⟩ (fun s1 w3 hI1 => ?_)
 obtain ⟨hI1, hB⟩ := hI1
 obtain ⟨x1, i1⟩ := s1; replace h := h x1 i1 w3 hI1
 refine CW.seq ?_
 refine CW.seq ?_
 refine CW.region fun L hL => ?_
 refine LW.rd hL rfl (Wants.free rfl) rfl (Rd.move (v := .int .i64 i1) rfl) ?_
 refine LW.rd hL rfl (Wants.free rfl) rfl (Rd.fa (v := .pointer (some (⟨b1, 4, none⟩ : Addr))) rfl (fun _ => by kernel_rfl)) ?_
 refine LW.rd hL rfl (Wants.free rfl) rfl (Rd.ld (v := .slice f5 f5n f5c) rfl (by kernel_rfl) (eqs (box_cell (hB.at (i := 0) rfl) rfl))) ?_
 refine LW.rd hL rfl (Wants.free rfl) rfl (Rd.builtin (v := .int .i64 (f5n : Int)) rfl (fun _ _ => by kernel_rfl)) ?_
 refine LW.rd hL rfl (Wants.free rfl) rfl (Rd.bin (v := .bool (decide (i1 < (f5n : Int)))) rfl rfl (fun w => by kernel_rfl)) ?_
 refine LW.nil hL rfl ?_
 refine NW.then ?_
 refine CW.cond rfl (fun hb1 => ?_) (fun hb1 => ?_)
 ·replace h := h.1 hb1
  refine CW.skip ?_
  refine NW.then ?_
  refine CW.seq ?_
  refine CW.block ?_
  refine CW.seq ?_
  obtain ⟨w4, hw_w4⟩ : ∃ x, x = World.drew w3 := ⟨_, rfl⟩
  have hc_w4 := sil_drew (Chg.refl [] w3) hw_w4
  replace hB := hB.drew hw_w4
  refine CW.drawn (fun w => w = w4) 8 (by kernel_rfl) fun H hH => ?_
  rw [← hw_w4]
  refine HW.pure (i := 0) hH rfl (by kernel_rfl) (Wants.free rfl) rfl (fun _ => rfl) (Rd.fa (v := .pointer (some (⟨b1, 4, none⟩ : Addr))) rfl (fun _ => by kernel_rfl)) ?_
  refine HW.take (i := 1) hH rfl (by kernel_rfl) (by kernel_rfl) (Wants.free rfl) rfl (fun _ => rfl) (Rd.ld (v := .slice f5 f5n f5c) rfl (by kernel_rfl) (eqs (box_cell (hB.at (i := 0) rfl) rfl))) ?_
  refine HW.pure (i := 2) hH rfl (by kernel_rfl) (Wants.free rfl) rfl (fun _ => rfl) (Rd.move (v := .int .i64 i1) rfl) ?_
  obtain ⟨a1, he1, hi1, hi2, h⟩ := h
  refine HW.pure (i := 3) hH rfl (by kernel_rfl) (Wants.free rfl) rfl (fun _ => rfl) (Rd.iaS (q := a1) (sz := 3) (by rw [← he1]; rfl) rfl Tryz.underlying41 (by kernel_rfl) hi1 hi2) ?_
  refine HW.pure (i := 4) hH rfl (by kernel_rfl) (Wants.free rfl) rfl (fun _ => rfl) (Rd.fa (v := .pointer (some (a1.add (Int.toNat i1 * 3)))) rfl (fun _ => by kernel_rfl)) ?_
  replace h := h  w4  hc_w4
  obtain ⟨t1, t2, hc1, h⟩ := h
  refine HW.take (i := 5) hH rfl (by kernel_rfl) (by kernel_rfl) (Wants.free rfl) rfl (fun _ => rfl) (Rd.ldN (cs := [.int .i64 t1, .int .i64 t2]) rfl (by kernel_rfl) (by kernel_rfl) (cellsS hc1)) ?_
  refine HW.take (i := 6) hH rfl (by kernel_rfl) (by kernel_rfl) (Wants.free rfl) rfl (fun _ => rfl) (Rd.ldN (cs := [.int .i64 p1, .int .i64 p2]) rfl (by kernel_rfl) (by kernel_rfl) (cellsS (box_cells (hB.at (i := 1) rfl) rfl))) ?_
  refine HW.pure (i := 7) hH rfl (by kernel_rfl) (Wants.free rfl) rfl (fun _ => rfl) (Rd.bin (v := .bool ((t1 == p1) && (t2 == p2))) rfl rfl (fun w => eqS_62 _ _ _ _ w)) ?_
  refine HW.done hH (by kernel_rfl) ?_
  refine NW.then ?_
  refine CW.cond rfl (fun hb2 => ?_) (fun hb2 => ?_)
  ·replace h := h.1 hb2
   refine CW.seq ?_
   refine CW.region fun L hL => ?_
   refine LW.rd hL rfl (Wants.free rfl) rfl (Rd.fa (v := .pointer (some (⟨b1, 4, none⟩ : Addr))) rfl (fun _ => by kernel_rfl)) ?_
   refine LW.rd hL rfl (Wants.free rfl) rfl (Rd.ld (v := .slice f5 f5n f5c) rfl (by kernel_rfl) (eqs (box_cell (hB.at (i := 0) rfl) rfl))) ?_
   refine LW.rd hL rfl (Wants.free rfl) rfl (Rd.move (v := .int .i64 i1) rfl) ?_
   refine LW.rd hL rfl (Wants.free rfl) rfl (Rd.iaS (q := a1) (sz := 3) (by rw [← he1]; rfl) rfl Tryz.underlying41 (by kernel_rfl) hi1 hi2) ?_
   refine LW.rd hL rfl (Wants.free rfl) rfl (Rd.fa (v := .pointer (some ((a1.add (Int.toNat i1 * 3)).add 2))) rfl (fun _ => by kernel_rfl)) ?_
   obtain ⟨t3, hc2, h⟩ := h
   refine LW.rd hL rfl (Wants.free rfl) rfl (Rd.ld (v := .int .u32 t3) rfl (by kernel_rfl) (eqs hc2)) ?_
   refine LW.rd hL rfl (Wants.free rfl) rfl (Rd.assign (v := .int .u32 t3) rfl) ?_
   refine LW.nil hL rfl ?_
   refine NW.then ?_
   refine CW.ret ?_
   refine RW.block ?_
   refine RW.then ?_
   refine RW.then ?_
   refine RW.block ?_
   refine RW.then ?_
   exact res1 rfl rfl ⟨t3, rfl, h⟩
  ·replace h := h.2 hb2
   refine CW.skip ?_
   refine NW.block ?_
   refine NW.then ?_
   refine CW.region fun L hL => ?_
   refine LW.rd hL rfl (Wants.free rfl) rfl (Rd.move (v := .int .i64 i1) rfl) ?_
   refine LW.rd hL rfl (Wants.free rfl) rfl (Rd.bin (v := .int .i64 (IntKind.wrap .i64 (i1 + 1))) rfl rfl (fun w => by kernel_rfl)) ?_
   refine LW.rd hL rfl (Wants.free rfl) rfl (Rd.assign (v := .int .i64 (IntKind.wrap .i64 (i1 + 1))) rfl) ?_
   refine LW.nil hL rfl ?_
   exact NW.loop (S := Int × Int) (Ek := fun s1 => [(2, .pointer (some (⟨b1, 0, none⟩ : Addr))), (3, .pointer (some (⟨b2, 0, none⟩ : Addr))), (4, .int .u32 s1.1), (5, .int .i64 s1.2)]) (x1, IntKind.wrap .i64 (i1 + 1)) (by exact ⟨rfl, rfl, rfl, rfl, trivial⟩) ⟨⟨h.1, hB⟩, h.2⟩
 ·replace h := h.2 hb1
  refine CW.exit ?_
  refine XW.then ?_
  refine XW.then ?_
  refine XW.hit ?_
  refine NW.then ?_
  refine CW.seq ?_
  refine CW.region fun L hL => ?_
  refine LW.rd hL rfl (Wants.free rfl) rfl (Rd.assign (v := .int .u32 0) rfl) ?_
  refine LW.nil hL rfl ?_
  refine NW.then ?_
  refine CW.ret ?_
  exact res1 rfl rfl ⟨0, rfl, h⟩
/- (pomander/pomanderref12.Flow).MayAll -/
def W_pomanderref12_Flow_MayAll (f1 : Int) (f2 : Int) (f3 : Int) (f4 : Option Addr) (f4n : Nat) (f4c : Nat) (f5 : Option Addr) (f5n : Nat) (f5c : Nat) (l1 : Option Addr) (l1n : Nat) (l1c : Nat) (w : World) (R : Bool → World → Prop) : Prop :=
 ∀ (b1 : Nat) (w1 : World), (w.heap.size ≤ b1 ∧ b1 < w1.heap.size) → Chg [] w w1 → (∃ (I1 : Bool → Int → World → Prop) (m1 : Bool → Int → World → Nat), I1 false 0 w1 ∧ ∀ (x1 : Bool) (i1 : Int) (w2 : World), I1 x1 i1 w2 → ((decide (i1 < (l1n : Int))) = true → ∃ a1 : Addr, l1 = some a1 ∧ (0 : Int) ≤ i1 ∧ i1 < (l1n : Int) ∧ (∀ (w3 : World), Chg [] w2 w3 → (∃ (t1 : Int) (t2 : Int), CellsAt w3 (a1.add (Int.toNat i1 * 3)) 0 [.int .i64 t1, .int .i64 t2] ∧ (∃ J1 : Bool → World → Prop, (∀ (b2 : Bool) (w4 : World), J1 b2 w4 → (b2 = true → R false w4) ∧ (b2 = false → ∃ (I2 : Bool → Int → World → Prop) (m2 : Bool → Int → World → Nat), I2 x1 0 w4 ∧ ∀ (x2 : Bool) (k1 : Int) (w6 : World), I2 x2 k1 w6 → ∃ (t5 : Option Addr) (t5n : Nat) (t5c : Nat), w6.cell? ((a1.add (Int.toNat i1 * 3)).add 2) = some (.slice t5 t5n t5c) ∧ (((decide (k1 < (t5n : Int))) = true → ∀ (w7 : World), Chg [] w6 w7 → (∃ (t6 : Option Addr) (t6n : Nat) (t6c : Nat), w7.cell? ((a1.add (Int.toNat i1 * 3)).add 2) = some (.slice t6 t6n t6c) ∧ (∃ a2 : Addr, t6 = some a2 ∧ (0 : Int) ≤ k1 ∧ k1 < (t6n : Int) ∧ (∃ (t7 : Int) (t8 : Int), CellsAt w7 (a2.add (Int.toNat k1 * 2)) 0 [.int .i64 t7, .int .i64 t8] ∧ (Calls Tryz.prog 49 #[.agg #[.int .i64 f1, .int .i64 f2, .int .i64 f3, .slice f4 f4n f4c, .slice f5 f5n f5c], .agg #[.int .i64 t7, .int .i64 t8]] w7 fun e w8 => ∃ (r3 : Bool), e = .returned (.bool r3) ∧ (Same w7 w8 [b1] ∧ (((!r3) = true → R false w8) ∧ ((!r3) = false → (I2 x2 (IntKind.wrap .i64 (k1 + 1)) w8 ∧ m2 x2 (IntKind.wrap .i64 (k1 + 1)) w8 < m2 x2 k1 w6))))))))) ∧ ((decide (k1 < (t5n : Int))) = false → (I1 x2 (IntKind.wrap .i64 (i1 + 1)) w6 ∧ m1 x2 (IntKind.wrap .i64 (i1 + 1)) w6 < m1 x1 i1 w2))))) ∧ (((!((t1 == 0) && (t2 == 0))) = true → ∃ (t3 : Int) (t4 : Int), CellsAt w3 (a1.add (Int.toNat i1 * 3)) 0 [.int .i64 t3, .int .i64 t4] ∧ (Calls Tryz.prog 49 #[.agg #[.int .i64 f1, .int .i64 f2, .int .i64 f3, .slice f4 f4n f4c, .slice f5 f5n f5c], .agg #[.int .i64 t3, .int .i64 t4]] w3 fun e w5 => ∃ (r2 : Bool), e = .returned (.bool r2) ∧ (Same w3 w5 [b1] ∧ (J1 (!r2) w5)))) ∧ ((!((t1 == 0) && (t2 == 0))) = false → J1 false w3)))))) ∧ ((decide (i1 < (l1n : Int))) = false → R true w2))
set_option maxRecDepth 100000 in
theorem go_pomanderref12_Flow_MayAll (f1 : Int) (f2 : Int) (f3 : Int) (f4 : Option Addr) (f4n : Nat) (f4c : Nat) (f5 : Option Addr) (f5n : Nat) (f5c : Nat) (l1 : Option Addr) (l1n : Nat) (l1c : Nat) (w : World) (R : Bool → World → Prop) (h : W_pomanderref12_Flow_MayAll f1 f2 f3 f4 f4n f4c f5 f5n f5c l1 l1n l1c w R) : Calls Tryz.prog 18 #[.agg #[.int .i64 f1, .int .i64 f2, .int .i64 f3, .slice f4 f4n f4c, .slice f5 f5n f5c], .slice l1 l1n l1c] w (fun e w' => ∃ (r1 : Bool), e = .returned (.bool r1) ∧ R r1 w') := by
 unfold W_pomanderref12_Flow_MayAll at h
 refine enter (N := 51) Tryz.func18 rfl rfl ?_
 refine CW.seq ?_
 refine CW.region fun L hL => ?_
 obtain ⟨b1, hb_b1⟩ : ∃ b1, b1 = World.size w := ⟨_, rfl⟩
 obtain ⟨w1, hw_w1⟩ : ∃ w1, w1 = World.alloc w (.cells #[.int .i64 f1, .int .i64 f2, .int .i64 f3, .slice f4 f4n f4c, .slice f5 f5n f5c] 43) := ⟨_, rfl⟩
 refine LW.val hL rfl (Wants.free rfl) rfl (boxE hb_b1 hw_w1 (Vl.box (v := .agg #[.int .i64 f1, .int .i64 f2, .int .i64 f3, .slice f4 f4n f4c, .slice f5 f5n f5c]) rfl)) ?_
 have hB := Boxes.alloc (cs := [.int .i64 f1, .int .i64 f2, .int .i64 f3, .slice f4 f4n f4c, .slice f5 f5n f5c]) (T := 43) (Boxes.nil w) hb_b1 hw_w1
 have hlo_b1 := sil_lo (Chg.refl [] w) hb_b1
 have hc_w1 := sil_alloc (Chg.refl [] w) hw_w1
 refine LW.rd hL rfl (Wants.free rfl) rfl (Rd.assign (v := .bool false) rfl) ?_
 refine LW.nil hL rfl ?_
 refine NW.then ?_
 refine CW.seq ?_
 refine CW.seq ?_
 refine CW.region fun L hL => ?_
 refine LW.rd hL rfl (Wants.free rfl) rfl (Rd.assign (v := .int .i64 0) rfl) ?_
 refine LW.nil hL rfl ?_
 refine NW.then ?_
 refine CW.block ?_
 replace h := h b1 w1 ⟨hlo_b1, lt_of_heap (hB.at (i := 0) rfl)⟩ hc_w1
 obtain ⟨I1, m1, hI1, h⟩ := h
 refine CW.loop (S := Bool × Int) (fun s1 => [(1, .slice l1 l1n l1c), (2, .pointer (some (⟨b1, 0, none⟩ : Addr))), (4, .bool s1.1), (5, .int .i64 s1.2)]) (fun s1 w2 => I1 s1.1 s1.2 w2 ∧ Boxes w2 [(b1, [.int .i64 f1, .int .i64 f2, .int .i64 f3, .slice f4 f4n f4c, .slice f5 f5n f5c], 43)]) (fun s1 w2 => m1 s1.1 s1.2 w2) (false, 0) (by exact ⟨rfl, rfl, rfl, rfl, trivial⟩) ⟨hI1, hB⟩ (fun s1 w2 hI1 => ?_)
 obtain ⟨hI1, hB⟩ := hI1
 obtain ⟨x1, i1⟩ := s1; replace h := h x1 i1 w2 hI1
 refine CW.seq ?_
 refine CW.seq ?_
 refine CW.region fun L hL => ?_
 refine LW.rd hL rfl (Wants.free rfl) rfl (Rd.move (v := .int .i64 i1) rfl) ?_
 refine LW.rd hL rfl (Wants.free rfl) rfl (Rd.move (v := .slice l1 l1n l1c) rfl) ?_
 refine LW.rd hL rfl (Wants.free rfl) rfl (Rd.builtin (v := .int .i64 (l1n : Int)) rfl (fun _ _ => by kernel_rfl)) ?_
 refine LW.rd hL rfl (Wants.free rfl) rfl (Rd.bin (v := .bool (decide (i1 < (l1n : Int)))) rfl rfl (fun w => by kernel_rfl)) ?_
 refine LW.nil hL rfl ?_
 refine NW.then ?_
 refine CW.cond rfl (fun hb1 => ?_) (fun hb1 => ?_)
 ·replace h := h.1 hb1
  refine CW.skip ?_
  refine NW.then ?_
  refine CW.seq ?_
  refine CW.block ?_
  refine CW.seq ?_
  refine CW.seq ?_
  obtain ⟨w3, hw_w3⟩ : ∃ x, x = World.drew w2 := ⟨_, rfl⟩
  have hc_w3 := sil_drew (Chg.refl [] w2) hw_w3
  replace hB := hB.drew hw_w3
  refine CW.drawn (fun w => w = w3) 14 (by kernel_rfl) fun H hH => ?_
  rw [← hw_w3]
  refine HW.pure (i := 0) hH rfl (by kernel_rfl) (Wants.free rfl) rfl (fun _ => rfl) (Rd.move (v := .slice l1 l1n l1c) rfl) ?_
  refine HW.pure (i := 1) hH rfl (by kernel_rfl) (Wants.free rfl) rfl (fun _ => rfl) (Rd.move (v := .int .i64 i1) rfl) ?_
  obtain ⟨a1, he1, hi1, hi2, h⟩ := h
  refine HW.pure (i := 2) hH rfl (by kernel_rfl) (Wants.free rfl) rfl (fun _ => rfl) (Rd.iaS (q := a1) (sz := 3) (by rw [← he1]; rfl) rfl Tryz.underlying27 (by kernel_rfl) hi1 hi2) ?_
  refine HW.pure (i := 3) hH rfl (by kernel_rfl) (Wants.free rfl) rfl (fun _ => rfl) (Rd.fa (v := .pointer (some (a1.add (Int.toNat i1 * 3)))) rfl (fun _ => by kernel_rfl)) ?_
  replace h := h  w3  hc_w3
  obtain ⟨t1, t2, hc1, h⟩ := h
  refine HW.take (i := 4) hH rfl (by kernel_rfl) (by kernel_rfl) (Wants.free rfl) rfl (fun _ => rfl) (Rd.ldN (cs := [.int .i64 t1, .int .i64 t2]) rfl (by kernel_rfl) (by kernel_rfl) (cellsS hc1)) ?_
  refine HW.pure (i := 5) hH rfl (by kernel_rfl) (Wants.free rfl) rfl (fun _ => rfl) (Rd.build (v := .agg #[.int .i64 0, .int .i64 0]) rfl (fun _ => by kernel_rfl)) ?_
  refine HW.pure (i := 6) hH rfl (by kernel_rfl) (Wants.free rfl) rfl (fun _ => rfl) (Rd.bin (v := .bool (!((t1 == 0) && (t2 == 0)))) rfl rfl (fun w => neS_62 _ _ _ _ w)) ?_
  refine HW.pure (i := 7) hH rfl (by kernel_rfl) (Wants.free rfl) rfl (fun _ => rfl) (Rd.move (v := .bool (!((t1 == 0) && (t2 == 0)))) rfl) ?_
  obtain ⟨J1, hJ1, h1_J1, h0_J1⟩ := h
  suffices K1 : ∀ (b2 : Bool) (w4 : World), Boxes w4 [(b1, [.int .i64 f1, .int .i64 f2, .int .i64 f3, .slice f4 f4n f4c, .slice f5 f5n f5c], 43)] → J1 b2 w4 → H 0 #[true, true, true, true, true, true, true, true, true, true, true, true, true, true, true, true, true] [(1, .slice l1 l1n l1c), (2, .pointer (some (⟨b1, 0, none⟩ : Addr))), (4, .bool x1), (5, .int .i64 i1), (29, .bool b2)] w4 by
   rcases Bool.eq_false_or_eq_true (!((t1 == 0) && (t2 == 0))) with hb2 | hb2
   ·have h := h1_J1 hb2
    refine HW.take (i := 8) hH rfl (by kernel_rfl) (by kernel_rfl) (Wants.on rfl rfl rfl rfl rfl hb2) rfl (fun _ => rfl) (Rd.ldN (cs := [.int .i64 f1, .int .i64 f2, .int .i64 f3, .slice f4 f4n f4c, .slice f5 f5n f5c]) rfl (by kernel_rfl) (by kernel_rfl) (cellsS (box_cells (hB.at (i := 0) rfl) rfl))) ?_
    refine HW.pure (i := 9) hH rfl (by kernel_rfl) (Wants.on rfl rfl rfl rfl rfl hb2) rfl (fun _ => rfl) (Rd.move (v := .slice l1 l1n l1c) rfl) ?_
    refine HW.pure (i := 10) hH rfl (by kernel_rfl) (Wants.on rfl rfl rfl rfl rfl hb2) rfl (fun _ => rfl) (Rd.move (v := .int .i64 i1) rfl) ?_
    refine HW.pure (i := 11) hH rfl (by kernel_rfl) (Wants.on rfl rfl rfl rfl rfl hb2) rfl (fun _ => rfl) (Rd.iaS (q := a1) (sz := 3) (by rw [← he1]; rfl) rfl Tryz.underlying27 (by kernel_rfl) hi1 hi2) ?_
    refine HW.pure (i := 12) hH rfl (by kernel_rfl) (Wants.on rfl rfl rfl rfl rfl hb2) rfl (fun _ => rfl) (Rd.fa (v := .pointer (some (a1.add (Int.toNat i1 * 3)))) rfl (fun _ => by kernel_rfl)) ?_
    obtain ⟨t3, t4, hc2, h⟩ := h
    refine HW.take (i := 13) hH rfl (by kernel_rfl) (by kernel_rfl) (Wants.on rfl rfl rfl rfl rfl hb2) rfl (fun _ => rfl) (Rd.ldN (cs := [.int .i64 t3, .int .i64 t4]) rfl (by kernel_rfl) (by kernel_rfl) (cellsS hc2)) ?_
    refine HW.call (i := 14) hH (by kernel_rfl) rfl (Wants.on rfl rfl rfl rfl rfl hb2) rfl (Cl.fn (f := 49) rfl Tryz.func49 (by kernel_rfl) rfl) h (fun e w5 h_ => ?_)
    clear h
    obtain ⟨r2, rfl, h⟩ := h_
    obtain ⟨hsm1, h⟩ := h
    replace hB := Boxes.sameS hB hsm1 (by simp)
    refine ⟨_, rfl, (fun hc => by cases hc), ?_⟩
    refine HW.pure (i := 15) hH rfl (by kernel_rfl) (Wants.on rfl rfl rfl rfl rfl hb2) rfl (fun hc => by cases hc) (Rd.un (v := .bool (!r2)) rfl (fun _ => by kernel_rfl)) ?_
    refine HW.pure (i := 16) hH rfl (by kernel_rfl) (Wants.free rfl) rfl (fun hc => by cases hc) (Rd.pickT rfl hb2 rfl) ?_
    exact HW.sub hH (by exact ⟨rfl, rfl, rfl, rfl, rfl, trivial⟩) (K1 (!r2) w5 (by exact hB) h)
   ·have h := h0_J1 hb2
    refine HW.skip (i := 8) hH rfl (by kernel_rfl) (Skips.on rfl rfl rfl rfl rfl hb2) rfl (fun _ => rfl) ?_
    refine HW.skip (i := 9) hH rfl (by kernel_rfl) (Skips.on rfl rfl rfl rfl rfl hb2) rfl (fun _ => rfl) ?_
    refine HW.skip (i := 10) hH rfl (by kernel_rfl) (Skips.on rfl rfl rfl rfl rfl hb2) rfl (fun _ => rfl) ?_
    refine HW.skip (i := 11) hH rfl (by kernel_rfl) (Skips.on rfl rfl rfl rfl rfl hb2) rfl (fun _ => rfl) ?_
    refine HW.skip (i := 12) hH rfl (by kernel_rfl) (Skips.on rfl rfl rfl rfl rfl hb2) rfl (fun _ => rfl) ?_
    refine HW.skip (i := 13) hH rfl (by kernel_rfl) (Skips.on rfl rfl rfl rfl rfl hb2) rfl (fun _ => rfl) ?_
    refine HW.skip1 (i := 14) hH (by kernel_rfl) rfl (Skips.on rfl rfl rfl rfl rfl hb2) rfl (fun hc => by cases hc) ?_
    refine HW.skip (i := 15) hH rfl (by kernel_rfl) (Skips.on rfl rfl rfl rfl rfl hb2) rfl (fun hc => by cases hc) ?_
    refine HW.pure (i := 16) hH rfl (by kernel_rfl) (Wants.free rfl) rfl (fun hc => by cases hc) (Rd.pickF rfl hb2 rfl) ?_
    exact HW.sub hH (by exact ⟨rfl, rfl, rfl, rfl, rfl, trivial⟩) (K1 false w3 (by exact hB) h)
  intro b2 w4 hB h_
  have h := hJ1 b2 w4 h_; clear h_
  refine HW.done hH (by kernel_rfl) ?_
  refine NW.then ?_
  refine CW.cond rfl (fun hb3 => ?_) (fun hb3 => ?_)
  ·replace h := h.1 hb3
   refine CW.seq ?_
   refine CW.region fun L hL => ?_
   refine LW.rd hL rfl (Wants.free rfl) rfl (Rd.assign (v := .bool false) rfl) ?_
   refine LW.nil hL rfl ?_
   refine NW.then ?_
   refine CW.ret ?_
   refine RW.then ?_
   refine RW.block ?_
   refine RW.then ?_
   refine RW.then ?_
   refine RW.block ?_
   refine RW.then ?_
   exact res1 rfl rfl ⟨false, rfl, h⟩
  ·replace h := h.2 hb3
   refine CW.skip ?_
   refine NW.then ?_
   refine CW.seq ?_
   refine CW.region fun L hL => ?_
   refine LW.rd hL rfl (Wants.free rfl) rfl (Rd.assign (v := .int .i64 0) rfl) ?_
   refine LW.nil hL rfl ?_
   refine NW.then ?_
   refine CW.block ?_
   obtain ⟨I2, m2, hI2, h⟩ := h
   refine CW.loop (S := Bool × Int) (fun s2 => [(1, .slice l1 l1n l1c), (2, .pointer (some (⟨b1, 0, none⟩ : Addr))), (5, .int .i64 i1), (4, .bool s2.1), (6, .int .i64 s2.2)]) (fun s2 w6 => I2 s2.1 s2.2 w6 ∧ Boxes w6 [(b1, [.int .i64 f1, .int .i64 f2, .int .i64 f3, .slice f4 f4n f4c, .slice f5 f5n f5c], 43)]) (fun s2 w6 => m2 s2.1 s2.2 w6) (x1, 0) (by exact ⟨rfl, rfl, rfl, rfl, rfl, trivial⟩) ⟨hI2, hB⟩ (fun s2 w6 hI2 => ?_)
   obtain ⟨hI2, hB⟩ := hI2
   obtain ⟨x2, k1⟩ := s2; replace h := h x2 k1 w6 hI2
   refine CW.seq ?_
   refine CW.seq ?_
   refine CW.region fun L hL => ?_
   refine LW.rd hL rfl (Wants.free rfl) rfl (Rd.move (v := .int .i64 k1) rfl) ?_
   refine LW.rd hL rfl (Wants.free rfl) rfl (Rd.move (v := .slice l1 l1n l1c) rfl) ?_
   refine LW.rd hL rfl (Wants.free rfl) rfl (Rd.move (v := .int .i64 i1) rfl) ?_
   refine LW.rd hL rfl (Wants.free rfl) rfl (Rd.iaS (q := a1) (sz := 3) (by rw [← he1]; rfl) rfl Tryz.underlying27 (by kernel_rfl) hi1 hi2) ?_
   refine LW.rd hL rfl (Wants.free rfl) rfl (Rd.fa (v := .pointer (some ((a1.add (Int.toNat i1 * 3)).add 2))) rfl (fun _ => by kernel_rfl)) ?_
   obtain ⟨t5, t5n, t5c, hc3, h⟩ := h
   refine LW.rd hL rfl (Wants.free rfl) rfl (Rd.ld (v := .slice t5 t5n t5c) rfl (by kernel_rfl) (eqs hc3)) ?_
   refine LW.rd hL rfl (Wants.free rfl) rfl (Rd.builtin (v := .int .i64 (t5n : Int)) rfl (fun _ _ => by kernel_rfl)) ?_
   refine LW.rd hL rfl (Wants.free rfl) rfl (Rd.bin (v := .bool (decide (k1 < (t5n : Int)))) rfl rfl (fun w => by kernel_rfl)) ?_
   refine LW.nil hL rfl ?_
   refine NW.then ?_
   refine CW.cond rfl (fun hb4 => ?_) (fun hb4 => ?_)
   ·replace h := h.1 hb4
    refine CW.skip ?_
    refine NW.then ?_
    refine CW.seq ?_
    refine CW.block ?_
    refine CW.seq ?_
    obtain ⟨w7, hw_w7⟩ : ∃ x, x = World.drew w6 := ⟨_, rfl⟩
    have hc_w7 := sil_drew (Chg.refl [] w6) hw_w7
    replace hB := hB.drew hw_w7
    refine CW.drawn (fun w => w = w7) 9 (by kernel_rfl) fun H hH => ?_
    rw [← hw_w7]
    refine HW.take (i := 0) hH rfl (by kernel_rfl) (by kernel_rfl) (Wants.free rfl) rfl (fun _ => rfl) (Rd.ldN (cs := [.int .i64 f1, .int .i64 f2, .int .i64 f3, .slice f4 f4n f4c, .slice f5 f5n f5c]) rfl (by kernel_rfl) (by kernel_rfl) (cellsS (box_cells (hB.at (i := 0) rfl) rfl))) ?_
    refine HW.pure (i := 1) hH rfl (by kernel_rfl) (Wants.free rfl) rfl (fun _ => rfl) (Rd.move (v := .slice l1 l1n l1c) rfl) ?_
    refine HW.pure (i := 2) hH rfl (by kernel_rfl) (Wants.free rfl) rfl (fun _ => rfl) (Rd.move (v := .int .i64 i1) rfl) ?_
    refine HW.pure (i := 3) hH rfl (by kernel_rfl) (Wants.free rfl) rfl (fun _ => rfl) (Rd.iaS (q := a1) (sz := 3) (by rw [← he1]; rfl) rfl Tryz.underlying27 (by kernel_rfl) hi1 hi2) ?_
    refine HW.pure (i := 4) hH rfl (by kernel_rfl) (Wants.free rfl) rfl (fun _ => rfl) (Rd.fa (v := .pointer (some ((a1.add (Int.toNat i1 * 3)).add 2))) rfl (fun _ => by kernel_rfl)) ?_
    replace h := h  w7  hc_w7
    obtain ⟨t6, t6n, t6c, hc4, h⟩ := h
    refine HW.take (i := 5) hH rfl (by kernel_rfl) (by kernel_rfl) (Wants.free rfl) rfl (fun _ => rfl) (Rd.ld (v := .slice t6 t6n t6c) rfl (by kernel_rfl) (eqs hc4)) ?_
    refine HW.pure (i := 6) hH rfl (by kernel_rfl) (Wants.free rfl) rfl (fun _ => rfl) (Rd.move (v := .int .i64 k1) rfl) ?_
    obtain ⟨a2, he2, hi9, hi10, h⟩ := h
    refine HW.pure (i := 7) hH rfl (by kernel_rfl) (Wants.free rfl) rfl (fun _ => rfl) (Rd.iaS (q := a2) (sz := 2) (by rw [← he2]; rfl) rfl Tryz.underlying63 (by kernel_rfl) hi9 hi10) ?_
    obtain ⟨t7, t8, hc5, h⟩ := h
    refine HW.take (i := 8) hH rfl (by kernel_rfl) (by kernel_rfl) (Wants.free rfl) rfl (fun _ => rfl) (Rd.ldN (cs := [.int .i64 t7, .int .i64 t8]) rfl (by kernel_rfl) (by kernel_rfl) (cellsS hc5)) ?_
    refine HW.call (i := 9) hH (by kernel_rfl) rfl (Wants.free rfl) rfl (Cl.fn (f := 49) rfl Tryz.func49 (by kernel_rfl) rfl) h (fun e w8 h_ => ?_)
    clear h
    obtain ⟨r3, rfl, h⟩ := h_
    obtain ⟨hsm2, h⟩ := h
    replace hB := Boxes.sameS hB hsm2 (by simp)
    refine ⟨_, rfl, (fun hc => by cases hc), ?_⟩
    refine HW.pure (i := 10) hH rfl (by kernel_rfl) (Wants.free rfl) rfl (fun hc => by cases hc) (Rd.un (v := .bool (!r3)) rfl (fun _ => by kernel_rfl)) ?_
    refine HW.done hH (by kernel_rfl) ?_
    refine NW.then ?_
    refine CW.cond rfl (fun hb5 => ?_) (fun hb5 => ?_)
    ·replace h := h.1 hb5
     refine CW.seq ?_
     refine CW.region fun L hL => ?_
     refine LW.rd hL rfl (Wants.free rfl) rfl (Rd.assign (v := .bool false) rfl) ?_
     refine LW.nil hL rfl ?_
     refine NW.then ?_
     refine CW.ret ?_
     refine RW.block ?_
     refine RW.then ?_
     refine RW.then ?_
     refine RW.block ?_
     refine RW.block ?_
     refine RW.then ?_
     refine RW.then ?_
     refine RW.block ?_
     refine RW.then ?_
     exact res1 rfl rfl ⟨false, rfl, h⟩
    ·replace h := h.2 hb5
     refine CW.skip ?_
     refine NW.block ?_
     refine NW.then ?_
     refine CW.region fun L hL => ?_
     refine LW.rd hL rfl (Wants.free rfl) rfl (Rd.move (v := .int .i64 k1) rfl) ?_
     refine LW.rd hL rfl (Wants.free rfl) rfl (Rd.bin (v := .int .i64 (IntKind.wrap .i64 (k1 + 1))) rfl rfl (fun w => by kernel_rfl)) ?_
     refine LW.rd hL rfl (Wants.free rfl) rfl (Rd.assign (v := .int .i64 (IntKind.wrap .i64 (k1 + 1))) rfl) ?_
     refine LW.nil hL rfl ?_
     exact NW.loop (S := Bool × Int) (Ek := fun s2 => [(1, .slice l1 l1n l1c), (2, .pointer (some (⟨b1, 0, none⟩ : Addr))), (5, .int .i64 i1), (4, .bool s2.1), (6, .int .i64 s2.2)]) (x2, IntKind.wrap .i64 (k1 + 1)) (by exact ⟨rfl, rfl, rfl, rfl, rfl, trivial⟩) ⟨⟨h.1, hB⟩, h.2⟩
   ·replace h := h.2 hb4
    refine CW.exit ?_
    refine XW.then ?_
    refine XW.then ?_
    refine XW.hit ?_
    refine NW.block ?_
    refine NW.then ?_
    refine CW.region fun L hL => ?_
    refine LW.rd hL rfl (Wants.free rfl) rfl (Rd.move (v := .int .i64 i1) rfl) ?_
    refine LW.rd hL rfl (Wants.free rfl) rfl (Rd.bin (v := .int .i64 (IntKind.wrap .i64 (i1 + 1))) rfl rfl (fun w => by kernel_rfl)) ?_
    refine LW.rd hL rfl (Wants.free rfl) rfl (Rd.assign (v := .int .i64 (IntKind.wrap .i64 (i1 + 1))) rfl) ?_
    refine LW.nil hL rfl ?_
    exact NW.loop (S := Bool × Int) (Ek := fun s1 => [(1, .slice l1 l1n l1c), (2, .pointer (some (⟨b1, 0, none⟩ : Addr))), (4, .bool s1.1), (5, .int .i64 s1.2)]) (x2, IntKind.wrap .i64 (i1 + 1)) (by exact ⟨rfl, rfl, rfl, rfl, trivial⟩) ⟨⟨h.1, hB⟩, h.2⟩
 ·replace h := h.2 hb1
  refine CW.exit ?_
  refine XW.then ?_
  refine XW.then ?_
  refine XW.hit ?_
  refine NW.then ?_
  refine CW.seq ?_
  refine CW.region fun L hL => ?_
  refine LW.rd hL rfl (Wants.free rfl) rfl (Rd.assign (v := .bool true) rfl) ?_
  refine LW.nil hL rfl ?_
  refine NW.then ?_
  refine CW.ret ?_
  exact res1 rfl rfl ⟨true, rfl, h⟩
/- (pomander/pomanderref12.Flow).together -/
def W_pomanderref12_Flow_together (f1 : Int) (f2 : Int) (f3 : Int) (f4 : Option Addr) (f4n : Nat) (f4c : Nat) (f5 : Option Addr) (f5n : Nat) (f5c : Nat) (l1 : Option Addr) (l1n : Nat) (l1c : Nat) (w : World) (R : Int → World → Prop) : Prop :=
 ∀ (b1 : Nat) (w1 : World), (w.heap.size ≤ b1 ∧ b1 < w1.heap.size) → Chg [] w w1 → (∃ (I1 : Int → Int → World → Prop) (m1 : Int → Int → World → Nat), I1 0 0 w1 ∧ ∀ (set1 : Int) (i1 : Int) (w2 : World), I1 set1 i1 w2 → ((decide (i1 < (l1n : Int))) = true → ∀ (w3 : World), Chg [] w2 w3 → (∃ a1 : Addr, l1 = some a1 ∧ (0 : Int) ≤ i1 ∧ i1 < (l1n : Int) ∧ (∃ (t1 : Int) (t2 : Int), CellsAt w3 (a1.add (Int.toNat i1 * 2)) 0 [.int .i64 t1, .int .i64 t2] ∧ (Calls Tryz.prog 86 #[.agg #[.int .i64 f1, .int .i64 f2, .int .i64 f3, .slice f4 f4n f4c, .slice f5 f5n f5c], .agg #[.int .i64 t1, .int .i64 t2]] w3 fun e w4 => ∃ (r2 : Int), e = .returned (.int .u32 r2) ∧ ((CellsAt w4 (a1.add (Int.toNat i1 * 2)) 0 [.int .i64 t1, .int .i64 t2]) ∧ (Same w3 w4 [b1] ∧ (Calls Tryz.prog 85 #[.int .u32 set1, .int .u32 r2] w4 fun e w5 => ∃ (r3 : Int), e = .returned (.int .u32 r3) ∧ (Same w4 w5 [b1] ∧ ((I1 r3 (IntKind.wrap .i64 (i1 + 1)) w5 ∧ m1 r3 (IntKind.wrap .i64 (i1 + 1)) w5 < m1 set1 i1 w2)))))))))) ∧ ((decide (i1 < (l1n : Int))) = false → R set1 w2))
set_option maxRecDepth 100000 in
theorem go_pomanderref12_Flow_together (f1 : Int) (f2 : Int) (f3 : Int) (f4 : Option Addr) (f4n : Nat) (f4c : Nat) (f5 : Option Addr) (f5n : Nat) (f5c : Nat) (l1 : Option Addr) (l1n : Nat) (l1c : Nat) (w : World) (R : Int → World → Prop) (h : W_pomanderref12_Flow_together f1 f2 f3 f4 f4n f4c f5 f5n f5c l1 l1n l1c w R) : Calls Tryz.prog 52 #[.agg #[.int .i64 f1, .int .i64 f2, .int .i64 f3, .slice f4 f4n f4c, .slice f5 f5n f5c], .slice l1 l1n l1c] w (fun e w' => ∃ (r1 : Int), e = .returned (.int .u32 r1) ∧ R r1 w') := by
 unfold W_pomanderref12_Flow_together at h
 refine enter (N := 22) Tryz.func52 rfl rfl ?_
 refine CW.seq ?_
 refine CW.region fun L hL => ?_
 obtain ⟨b1, hb_b1⟩ : ∃ b1, b1 = World.size w := ⟨_, rfl⟩
 obtain ⟨w1, hw_w1⟩ : ∃ w1, w1 = World.alloc w (.cells #[.int .i64 f1, .int .i64 f2, .int .i64 f3, .slice f4 f4n f4c, .slice f5 f5n f5c] 43) := ⟨_, rfl⟩
 refine LW.val hL rfl (Wants.free rfl) rfl (boxE hb_b1 hw_w1 (Vl.box (v := .agg #[.int .i64 f1, .int .i64 f2, .int .i64 f3, .slice f4 f4n f4c, .slice f5 f5n f5c]) rfl)) ?_
 have hB := Boxes.alloc (cs := [.int .i64 f1, .int .i64 f2, .int .i64 f3, .slice f4 f4n f4c, .slice f5 f5n f5c]) (T := 43) (Boxes.nil w) hb_b1 hw_w1
 have hlo_b1 := sil_lo (Chg.refl [] w) hb_b1
 have hc_w1 := sil_alloc (Chg.refl [] w) hw_w1
 refine LW.rd hL rfl (Wants.free rfl) rfl (Rd.assign (v := .int .u32 0) rfl) ?_
 refine LW.nil hL rfl ?_
 refine NW.then ?_
 refine CW.seq ?_
 refine CW.region fun L hL => ?_
 refine LW.rd hL rfl (Wants.free rfl) rfl (Rd.assign (v := .int .u32 0) rfl) ?_
 refine LW.nil hL rfl ?_
 refine NW.then ?_
 refine CW.seq ?_
 refine CW.seq ?_
 refine CW.region fun L hL => ?_
 refine LW.rd hL rfl (Wants.free rfl) rfl (Rd.assign (v := .int .i64 0) rfl) ?_
 refine LW.nil hL rfl ?_
 refine NW.then ?_
 refine CW.block ?_
 replace h := h b1 w1 ⟨hlo_b1, lt_of_heap (hB.at (i := 0) rfl)⟩ hc_w1
 obtain ⟨I1, m1, hI1, h⟩ := h
 refine CW.loop (S := Int × Int) (fun s1 => [(1, .slice l1 l1n l1c), (2, .pointer (some (⟨b1, 0, none⟩ : Addr))), (4, .int .u32 0), (5, .int .u32 s1.1), (6, .int .i64 s1.2)]) (fun s1 w2 => I1 s1.1 s1.2 w2 ∧ Boxes w2 [(b1, [.int .i64 f1, .int .i64 f2, .int .i64 f3, .slice f4 f4n f4c, .slice f5 f5n f5c], 43)]) (fun s1 w2 => m1 s1.1 s1.2 w2) (0, 0) (by exact ⟨rfl, rfl, rfl, rfl, rfl, trivial⟩) ⟨hI1, hB⟩ (fun s1 w2 hI1 => ?_)
 obtain ⟨hI1, hB⟩ := hI1
 obtain ⟨set1, i1⟩ := s1; replace h := h set1 i1 w2 hI1
 refine CW.seq ?_
 refine CW.seq ?_
 refine CW.region fun L hL => ?_
 refine LW.rd hL rfl (Wants.free rfl) rfl (Rd.move (v := .int .i64 i1) rfl) ?_
 refine LW.rd hL rfl (Wants.free rfl) rfl (Rd.move (v := .slice l1 l1n l1c) rfl) ?_
 refine LW.rd hL rfl (Wants.free rfl) rfl (Rd.builtin (v := .int .i64 (l1n : Int)) rfl (fun _ _ => by kernel_rfl)) ?_
 refine LW.rd hL rfl (Wants.free rfl) rfl (Rd.bin (v := .bool (decide (i1 < (l1n : Int)))) rfl rfl (fun w => by kernel_rfl)) ?_
 refine LW.nil hL rfl ?_
 refine NW.then ?_
 refine CW.cond rfl (fun hb1 => ?_) (fun hb1 => ?_)
 ·replace h := h.1 hb1
  refine CW.skip ?_
  refine NW.then ?_
  refine CW.seq ?_
  refine CW.block ?_
  obtain ⟨w3, hw_w3⟩ : ∃ x, x = World.drew w2 := ⟨_, rfl⟩
  have hc_w3 := sil_drew (Chg.refl [] w2) hw_w3
  replace hB := hB.drew hw_w3
  replace h := h  w3  hc_w3
  obtain ⟨a1, he1, hi1, hi2, h⟩ := h
  obtain ⟨t1, t2, hc1, h⟩ := h
  refine CW.drawn (fun w => CellsAt w (a1.add (Int.toNat i1 * 2)) 0 [.int .i64 t1, .int .i64 t2] ∧ Boxes w [(b1, [.int .i64 f1, .int .i64 f2, .int .i64 f3, .slice f4 f4n f4c, .slice f5 f5n f5c], 43)]) 7 (by kernel_rfl) fun H hH => ?_
  rw [← hw_w3]
  have hS1 : CellsAt w3 (a1.add (Int.toNat i1 * 2)) 0 [.int .i64 t1, .int .i64 t2] ∧ Boxes w3 [(b1, [.int .i64 f1, .int .i64 f2, .int .i64 f3, .slice f4 f4n f4c, .slice f5 f5n f5c], 43)] := ⟨hc1, hB⟩
  refine HW.pure (i := 0) hH rfl (by kernel_rfl) (Wants.free rfl) rfl (fun _ => hS1) (Rd.move (v := .int .u32 set1) rfl) ?_
  refine HW.take (i := 1) hH rfl (by kernel_rfl) (by kernel_rfl) (Wants.free rfl) rfl (fun _ => hS1) (Rd.ldN (cs := [.int .i64 f1, .int .i64 f2, .int .i64 f3, .slice f4 f4n f4c, .slice f5 f5n f5c]) rfl (by kernel_rfl) (by kernel_rfl) (fun w h => cellsAt_get (box_cells (Boxes.at (i := 0) h.2 rfl) rfl))) ?_
  refine HW.pure (i := 2) hH rfl (by kernel_rfl) (Wants.free rfl) rfl (fun _ => hS1) (Rd.move (v := .slice l1 l1n l1c) rfl) ?_
  refine HW.pure (i := 3) hH rfl (by kernel_rfl) (Wants.free rfl) rfl (fun _ => hS1) (Rd.move (v := .int .i64 i1) rfl) ?_
  refine HW.pure (i := 4) hH rfl (by kernel_rfl) (Wants.free rfl) rfl (fun _ => hS1) (Rd.iaS (q := a1) (sz := 2) (by rw [← he1]; rfl) rfl Tryz.underlying63 (by kernel_rfl) hi1 hi2) ?_
  refine HW.take (i := 5) hH rfl (by kernel_rfl) (by kernel_rfl) (Wants.free rfl) rfl (fun _ => hS1) (Rd.ldN (cs := [.int .i64 t1, .int .i64 t2]) rfl (by kernel_rfl) (by kernel_rfl) (fun w h => cellsAt_get h.1)) ?_
  refine HW.call (i := 6) hH (by kernel_rfl) rfl (Wants.free rfl) rfl (Cl.fn (f := 86) rfl Tryz.func86 (by kernel_rfl) rfl) h (fun e w4 h_ => ?_)
  clear h
  obtain ⟨r2, rfl, hS2, h⟩ := h_
  obtain ⟨hsm1, h⟩ := h
  replace hB := Boxes.sameS hB hsm1 (by simp)
  have hS3 := (⟨hS2, hB⟩ : CellsAt w4 (a1.add (Int.toNat i1 * 2)) 0 [.int .i64 t1, .int .i64 t2] ∧ Boxes w4 [(b1, [.int .i64 f1, .int .i64 f2, .int .i64 f3, .slice f4 f4n f4c, .slice f5 f5n f5c], 43)])
  refine ⟨_, rfl, (fun _ => hS3), ?_⟩
  refine HW.call (i := 7) hH (by kernel_rfl) rfl (Wants.free rfl) rfl (Cl.fn (f := 85) rfl Tryz.func85 (by kernel_rfl) rfl) h (fun e w5 h_ => ?_)
  clear h
  obtain ⟨r3, rfl, h⟩ := h_
  obtain ⟨hsm2, h⟩ := h
  replace hB := Boxes.sameS hB hsm2 (by simp)
  refine ⟨_, rfl, (fun hc => by cases hc), ?_⟩
  refine HW.pure (i := 8) hH rfl (by kernel_rfl) (Wants.free rfl) rfl (fun hc => by cases hc) (Rd.assign (v := .int .u32 r3) rfl) ?_
  refine HW.done hH (by kernel_rfl) ?_
  refine NW.block ?_
  refine NW.then ?_
  refine CW.region fun L hL => ?_
  refine LW.rd hL rfl (Wants.free rfl) rfl (Rd.move (v := .int .i64 i1) rfl) ?_
  refine LW.rd hL rfl (Wants.free rfl) rfl (Rd.bin (v := .int .i64 (IntKind.wrap .i64 (i1 + 1))) rfl rfl (fun w => by kernel_rfl)) ?_
  refine LW.rd hL rfl (Wants.free rfl) rfl (Rd.assign (v := .int .i64 (IntKind.wrap .i64 (i1 + 1))) rfl) ?_
  refine LW.nil hL rfl ?_
  exact NW.loop (S := Int × Int) (Ek := fun s1 => [(1, .slice l1 l1n l1c), (2, .pointer (some (⟨b1, 0, none⟩ : Addr))), (4, .int .u32 0), (5, .int .u32 s1.1), (6, .int .i64 s1.2)]) (r3, IntKind.wrap .i64 (i1 + 1)) (by exact ⟨rfl, rfl, rfl, rfl, rfl, trivial⟩) ⟨⟨h.1, hB⟩, h.2⟩
 ·replace h := h.2 hb1
  refine CW.exit ?_
  refine XW.then ?_
  refine XW.then ?_
  refine XW.hit ?_
  refine NW.then ?_
  refine CW.seq ?_
  refine CW.region fun L hL => ?_
  refine LW.rd hL rfl (Wants.free rfl) rfl (Rd.move (v := .int .u32 set1) rfl) ?_
  refine LW.rd hL rfl (Wants.free rfl) rfl (Rd.assign (v := .int .u32 set1) rfl) ?_
  refine LW.nil hL rfl ?_
  refine NW.then ?_
  refine CW.ret ?_
  exact res1 rfl rfl ⟨set1, rfl, h⟩
/- (pomander/pomanderref12.Flow).Decides -/
def W_pomanderref12_Flow_Decides (f1 : Int) (f2 : Int) (f3 : Int) (f4 : Option Addr) (f4n : Nat) (f4c : Nat) (f5 : Option Addr) (f5n : Nat) (f5c : Nat) (l1 : Option Addr) (l1n : Nat) (l1c : Nat) (w : World) (R : Int → World → Prop) : Prop :=
 ∀ (b1 : Nat) (w1 : World), (w.heap.size ≤ b1 ∧ b1 < w1.heap.size) → Chg [] w w1 → (∃ (I1 : Int → Int → World → Prop) (m1 : Int → Int → World → Nat), I1 0 0 w1 ∧ ∀ (set1 : Int) (i1 : Int) (w2 : World), I1 set1 i1 w2 → ((decide (i1 < (l1n : Int))) = true → ∃ J1 : Int → World → Prop, (∀ (set2 : Int) (w3 : World), J1 set2 w3 → (I1 set2 (IntKind.wrap .i64 (i1 + 1)) w3 ∧ m1 set2 (IntKind.wrap .i64 (i1 + 1)) w3 < m1 set1 i1 w2)) ∧ (∃ a1 : Addr, l1 = some a1 ∧ (0 : Int) ≤ i1 ∧ i1 < (l1n : Int) ∧ (∃ (t1 : Int) (t2 : Int), CellsAt w2 (a1.add (Int.toNat i1 * 3)) 0 [.int .i64 t1, .int .i64 t2] ∧ ((((t1 == 0) && (t2 == 0)) = true → ∀ (w4 : World), Chg [] w2 w4 → (∃ (t3 : Option Addr) (t3n : Nat) (t3c : Nat), w4.cell? ((a1.add (Int.toNat i1 * 3)).add 2) = some (.slice t3 t3n t3c) ∧ (Calls Tryz.prog 52 #[.agg #[.int .i64 f1, .int .i64 f2, .int .i64 f3, .slice f4 f4n f4c, .slice f5 f5n f5c], .slice t3 t3n t3c] w4 fun e w5 => ∃ (r2 : Int), e = .returned (.int .u32 r2) ∧ ((w5.cell? ((a1.add (Int.toNat i1 * 3)).add 2) = some (.slice t3 t3n t3c)) ∧ (Same w4 w5 [b1] ∧ (Calls Tryz.prog 85 #[.int .u32 set1, .int .u32 r2] w5 fun e w6 => ∃ (r3 : Int), e = .returned (.int .u32 r3) ∧ (Same w5 w6 [b1] ∧ (J1 r3 w6)))))))) ∧ (((t1 == 0) && (t2 == 0)) = false → J1 set1 w2))))) ∧ ((decide (i1 < (l1n : Int))) = false → R set1 w2))
set_option maxRecDepth 100000 in
theorem go_pomanderref12_Flow_Decides (f1 : Int) (f2 : Int) (f3 : Int) (f4 : Option Addr) (f4n : Nat) (f4c : Nat) (f5 : Option Addr) (f5n : Nat) (f5c : Nat) (l1 : Option Addr) (l1n : Nat) (l1c : Nat) (w : World) (R : Int → World → Prop) (h : W_pomanderref12_Flow_Decides f1 f2 f3 f4 f4n f4c f5 f5n f5c l1 l1n l1c w R) : Calls Tryz.prog 51 #[.agg #[.int .i64 f1, .int .i64 f2, .int .i64 f3, .slice f4 f4n f4c, .slice f5 f5n f5c], .slice l1 l1n l1c] w (fun e w' => ∃ (r1 : Int), e = .returned (.int .u32 r1) ∧ R r1 w') := by
 unfold W_pomanderref12_Flow_Decides at h
 refine enter (N := 30) Tryz.func51 rfl rfl ?_
 refine CW.seq ?_
 refine CW.region fun L hL => ?_
 obtain ⟨b1, hb_b1⟩ : ∃ b1, b1 = World.size w := ⟨_, rfl⟩
 obtain ⟨w1, hw_w1⟩ : ∃ w1, w1 = World.alloc w (.cells #[.int .i64 f1, .int .i64 f2, .int .i64 f3, .slice f4 f4n f4c, .slice f5 f5n f5c] 43) := ⟨_, rfl⟩
 refine LW.val hL rfl (Wants.free rfl) rfl (boxE hb_b1 hw_w1 (Vl.box (v := .agg #[.int .i64 f1, .int .i64 f2, .int .i64 f3, .slice f4 f4n f4c, .slice f5 f5n f5c]) rfl)) ?_
 have hB := Boxes.alloc (cs := [.int .i64 f1, .int .i64 f2, .int .i64 f3, .slice f4 f4n f4c, .slice f5 f5n f5c]) (T := 43) (Boxes.nil w) hb_b1 hw_w1
 have hlo_b1 := sil_lo (Chg.refl [] w) hb_b1
 have hc_w1 := sil_alloc (Chg.refl [] w) hw_w1
 refine LW.rd hL rfl (Wants.free rfl) rfl (Rd.assign (v := .int .u32 0) rfl) ?_
 refine LW.nil hL rfl ?_
 refine NW.then ?_
 refine CW.seq ?_
 refine CW.region fun L hL => ?_
 refine LW.rd hL rfl (Wants.free rfl) rfl (Rd.assign (v := .int .u32 0) rfl) ?_
 refine LW.nil hL rfl ?_
 refine NW.then ?_
 refine CW.seq ?_
 refine CW.seq ?_
 refine CW.region fun L hL => ?_
 refine LW.rd hL rfl (Wants.free rfl) rfl (Rd.assign (v := .int .i64 0) rfl) ?_
 refine LW.nil hL rfl ?_
 refine NW.then ?_
 refine CW.block ?_
 replace h := h b1 w1 ⟨hlo_b1, lt_of_heap (hB.at (i := 0) rfl)⟩ hc_w1
 obtain ⟨I1, m1, hI1, h⟩ := h
 refine CW.loop (S := Int × Int) (fun s1 => [(1, .slice l1 l1n l1c), (2, .pointer (some (⟨b1, 0, none⟩ : Addr))), (4, .int .u32 0), (5, .int .u32 s1.1), (6, .int .i64 s1.2)]) (fun s1 w2 => I1 s1.1 s1.2 w2 ∧ Boxes w2 [(b1, [.int .i64 f1, .int .i64 f2, .int .i64 f3, .slice f4 f4n f4c, .slice f5 f5n f5c], 43)]) (fun s1 w2 => m1 s1.1 s1.2 w2) (0, 0) (by exact ⟨rfl, rfl, rfl, rfl, rfl, trivial⟩) ⟨hI1, hB⟩ (fun s1 w2 hI1 => ?_)
 obtain ⟨hI1, hB⟩ := hI1
 obtain ⟨set1, i1⟩ := s1; replace h := h set1 i1 w2 hI1
 refine CW.seq ?_
 refine CW.seq ?_
 refine CW.region fun L hL => ?_
 refine LW.rd hL rfl (Wants.free rfl) rfl (Rd.move (v := .int .i64 i1) rfl) ?_
 refine LW.rd hL rfl (Wants.free rfl) rfl (Rd.move (v := .slice l1 l1n l1c) rfl) ?_
 refine LW.rd hL rfl (Wants.free rfl) rfl (Rd.builtin (v := .int .i64 (l1n : Int)) rfl (fun _ _ => by kernel_rfl)) ?_
 refine LW.rd hL rfl (Wants.free rfl) rfl (Rd.bin (v := .bool (decide (i1 < (l1n : Int)))) rfl rfl (fun w => by kernel_rfl)) ?_
 refine LW.nil hL rfl ?_
 refine NW.then ?_
 refine CW.cond rfl (fun hb1 => ?_) (fun hb1 => ?_)
 ·replace h := h.1 hb1
  refine CW.skip ?_
  refine NW.then ?_
  obtain ⟨J1, hJ1, h⟩ := h
  refine CW.cut (S := Int) (fun set2 => [(1, .slice l1 l1n l1c), (2, .pointer (some (⟨b1, 0, none⟩ : Addr))), (4, .int .u32 0), (6, .int .i64 i1), (5, .int .u32 set2)]) (fun set2 w3 => J1 set2 w3 ∧ Boxes w3 [(b1, [.int .i64 f1, .int .i64 f2, .int .i64 f3, .slice f4 f4n f4c, .slice f5 f5n f5c], 43)]) (fun set2 w3 h_ => ?_) ?_
  ·obtain ⟨h_, hB⟩ := h_; replace h := hJ1 set2 w3 h_; clear h_
   refine CW.region fun L hL => ?_
   refine LW.rd hL rfl (Wants.free rfl) rfl (Rd.move (v := .int .i64 i1) rfl) ?_
   refine LW.rd hL rfl (Wants.free rfl) rfl (Rd.bin (v := .int .i64 (IntKind.wrap .i64 (i1 + 1))) rfl rfl (fun w => by kernel_rfl)) ?_
   refine LW.rd hL rfl (Wants.free rfl) rfl (Rd.assign (v := .int .i64 (IntKind.wrap .i64 (i1 + 1))) rfl) ?_
   refine LW.nil hL rfl ?_
   exact NW.loop (S := Int × Int) (Ek := fun s1 => [(1, .slice l1 l1n l1c), (2, .pointer (some (⟨b1, 0, none⟩ : Addr))), (4, .int .u32 0), (5, .int .u32 s1.1), (6, .int .i64 s1.2)]) (set2, IntKind.wrap .i64 (i1 + 1)) (by exact ⟨rfl, rfl, rfl, rfl, rfl, trivial⟩) ⟨⟨h.1, hB⟩, h.2⟩
  ·skip
   refine CW.block ?_
   refine CW.seq ?_
   refine CW.region fun L hL => ?_
   refine LW.rd hL rfl (Wants.free rfl) rfl (Rd.move (v := .slice l1 l1n l1c) rfl) ?_
   refine LW.rd hL rfl (Wants.free rfl) rfl (Rd.move (v := .int .i64 i1) rfl) ?_
   obtain ⟨a1, he1, hi1, hi2, h⟩ := h
   refine LW.rd hL rfl (Wants.free rfl) rfl (Rd.iaS (q := a1) (sz := 3) (by rw [← he1]; rfl) rfl Tryz.underlying27 (by kernel_rfl) hi1 hi2) ?_
   refine LW.rd hL rfl (Wants.free rfl) rfl (Rd.fa (v := .pointer (some (a1.add (Int.toNat i1 * 3)))) rfl (fun _ => by kernel_rfl)) ?_
   obtain ⟨t1, t2, hc1, h⟩ := h
   refine LW.rd hL rfl (Wants.free rfl) rfl (Rd.ldN (cs := [.int .i64 t1, .int .i64 t2]) rfl (by kernel_rfl) (by kernel_rfl) (cellsS hc1)) ?_
   refine LW.rd hL rfl (Wants.free rfl) rfl (Rd.build (v := .agg #[.int .i64 0, .int .i64 0]) rfl (fun _ => by kernel_rfl)) ?_
   refine LW.rd hL rfl (Wants.free rfl) rfl (Rd.bin (v := .bool ((t1 == 0) && (t2 == 0))) rfl rfl (fun w => eqS_62 _ _ _ _ w)) ?_
   refine LW.nil hL rfl ?_
   refine NW.then ?_
   refine CW.cond rfl (fun hb2 => ?_) (fun hb2 => ?_)
   ·replace h := h.1 hb2
    obtain ⟨w4, hw_w4⟩ : ∃ x, x = World.drew w2 := ⟨_, rfl⟩
    have hc_w4 := sil_drew (Chg.refl [] w2) hw_w4
    replace hB := hB.drew hw_w4
    replace h := h  w4  hc_w4
    obtain ⟨t3, t3n, t3c, hc2, h⟩ := h
    refine CW.drawn (fun w => w.cell? ((a1.add (Int.toNat i1 * 3)).add 2) = some (.slice t3 t3n t3c) ∧ Boxes w [(b1, [.int .i64 f1, .int .i64 f2, .int .i64 f3, .slice f4 f4n f4c, .slice f5 f5n f5c], 43)]) 8 (by kernel_rfl) fun H hH => ?_
    rw [← hw_w4]
    have hS1 : w4.cell? ((a1.add (Int.toNat i1 * 3)).add 2) = some (.slice t3 t3n t3c) ∧ Boxes w4 [(b1, [.int .i64 f1, .int .i64 f2, .int .i64 f3, .slice f4 f4n f4c, .slice f5 f5n f5c], 43)] := ⟨hc2, hB⟩
    refine HW.pure (i := 0) hH rfl (by kernel_rfl) (Wants.free rfl) rfl (fun _ => hS1) (Rd.move (v := .int .u32 set1) rfl) ?_
    refine HW.take (i := 1) hH rfl (by kernel_rfl) (by kernel_rfl) (Wants.free rfl) rfl (fun _ => hS1) (Rd.ldN (cs := [.int .i64 f1, .int .i64 f2, .int .i64 f3, .slice f4 f4n f4c, .slice f5 f5n f5c]) rfl (by kernel_rfl) (by kernel_rfl) (fun w h => cellsAt_get (box_cells (Boxes.at (i := 0) h.2 rfl) rfl))) ?_
    refine HW.pure (i := 2) hH rfl (by kernel_rfl) (Wants.free rfl) rfl (fun _ => hS1) (Rd.move (v := .slice l1 l1n l1c) rfl) ?_
    refine HW.pure (i := 3) hH rfl (by kernel_rfl) (Wants.free rfl) rfl (fun _ => hS1) (Rd.move (v := .int .i64 i1) rfl) ?_
    refine HW.pure (i := 4) hH rfl (by kernel_rfl) (Wants.free rfl) rfl (fun _ => hS1) (Rd.iaS (q := a1) (sz := 3) (by rw [← he1]; rfl) rfl Tryz.underlying27 (by kernel_rfl) hi1 hi2) ?_
    refine HW.pure (i := 5) hH rfl (by kernel_rfl) (Wants.free rfl) rfl (fun _ => hS1) (Rd.fa (v := .pointer (some ((a1.add (Int.toNat i1 * 3)).add 2))) rfl (fun _ => by kernel_rfl)) ?_
    refine HW.take (i := 6) hH rfl (by kernel_rfl) (by kernel_rfl) (Wants.free rfl) rfl (fun _ => hS1) (Rd.ld (v := .slice t3 t3n t3c) rfl (by kernel_rfl) (fun w h => h.1)) ?_
    refine HW.call (i := 7) hH (by kernel_rfl) rfl (Wants.free rfl) rfl (Cl.fn (f := 52) rfl Tryz.func52 (by kernel_rfl) rfl) h (fun e w5 h_ => ?_)
    clear h
    obtain ⟨r2, rfl, hS2, h⟩ := h_
    obtain ⟨hsm1, h⟩ := h
    replace hB := Boxes.sameS hB hsm1 (by simp)
    have hS3 := (⟨hS2, hB⟩ : w5.cell? ((a1.add (Int.toNat i1 * 3)).add 2) = some (.slice t3 t3n t3c) ∧ Boxes w5 [(b1, [.int .i64 f1, .int .i64 f2, .int .i64 f3, .slice f4 f4n f4c, .slice f5 f5n f5c], 43)])
    refine ⟨_, rfl, (fun _ => hS3), ?_⟩
    refine HW.call (i := 8) hH (by kernel_rfl) rfl (Wants.free rfl) rfl (Cl.fn (f := 85) rfl Tryz.func85 (by kernel_rfl) rfl) h (fun e w6 h_ => ?_)
    clear h
    obtain ⟨r3, rfl, h⟩ := h_
    obtain ⟨hsm2, h⟩ := h
    replace hB := Boxes.sameS hB hsm2 (by simp)
    refine ⟨_, rfl, (fun hc => by cases hc), ?_⟩
    refine HW.pure (i := 9) hH rfl (by kernel_rfl) (Wants.free rfl) rfl (fun hc => by cases hc) (Rd.assign (v := .int .u32 r3) rfl) ?_
    refine HW.done hH (by kernel_rfl) ?_
    refine NW.block ?_
    exact NW.cut (S := Int) (Ek := fun set2 => [(1, .slice l1 l1n l1c), (2, .pointer (some (⟨b1, 0, none⟩ : Addr))), (4, .int .u32 0), (6, .int .i64 i1), (5, .int .u32 set2)]) r3 (by exact ⟨rfl, rfl, rfl, rfl, rfl, trivial⟩) ⟨h, hB⟩
   ·replace h := h.2 hb2
    refine CW.skip ?_
    refine NW.block ?_
    exact NW.cut (S := Int) (Ek := fun set2 => [(1, .slice l1 l1n l1c), (2, .pointer (some (⟨b1, 0, none⟩ : Addr))), (4, .int .u32 0), (6, .int .i64 i1), (5, .int .u32 set2)]) set1 (by exact ⟨rfl, rfl, rfl, rfl, rfl, trivial⟩) ⟨h, hB⟩
 ·replace h := h.2 hb1
  refine CW.exit ?_
  refine XW.then ?_
  refine XW.then ?_
  refine XW.hit ?_
  refine NW.then ?_
  refine CW.seq ?_
  refine CW.region fun L hL => ?_
  refine LW.rd hL rfl (Wants.free rfl) rfl (Rd.move (v := .int .u32 set1) rfl) ?_
  refine LW.rd hL rfl (Wants.free rfl) rfl (Rd.assign (v := .int .u32 set1) rfl) ?_
  refine LW.nil hL rfl ?_
  refine NW.then ?_
  refine CW.ret ?_
  exact res1 rfl rfl ⟨set1, rfl, h⟩
/- (pomander/pomanderref12.Flow).Apply -/
def W_pomanderref12_Flow_Apply (f1 : Int) (f2 : Int) (f3 : Int) (f4 : Option Addr) (f4n : Nat) (f4c : Nat) (f5 : Option Addr) (f5n : Nat) (f5c : Nat) (l1 : Option Addr) (l1n : Nat) (l1c : Nat) (w : World) (R : Int → Int → Int → (Option Addr) → Nat → Nat → (Option Addr) → Nat → Nat → Int → World → Prop) : Prop :=
 ∀ (b2 b1 : Nat) (w2 : World), (w.heap.size ≤ b2 ∧ b2 < w2.heap.size) → (w.heap.size ≤ b1 ∧ b1 < w2.heap.size) → Chg [] w w2 → (Calls Tryz.prog 18 #[.agg #[.int .i64 f1, .int .i64 f2, .int .i64 f3, .slice f4 f4n f4c, .slice f5 f5n f5c], .slice l1 l1n l1c] w2 fun e w3 => ∃ (r7 : Bool), e = .returned (.bool r7) ∧ (Same w2 w3 [b2, b1] ∧ (((!r7) = true → ∀ (w4 : World), Chg [b2] w3 w4 → (R f1 f2 f3 f4 f4n f4c f5 f5n f5c 2 w4)) ∧ ((!r7) = false → ∃ (I1 : Int → (Option Addr) → Nat → Nat → Int → Int → (Option Addr) → Nat → Nat → World → Prop) (m1 : Int → (Option Addr) → Nat → Nat → Int → Int → (Option Addr) → Nat → Nat → World → Nat), I1 0 none 0 0 0 f3 f4 f4n f4c w3 ∧ ∀ (x1 : Int) (sets1 : Option Addr) (sets1n : Nat) (sets1c : Nat) (i1 : Int) (c1 : Int) (c2 : Option Addr) (c2n : Nat) (c2c : Nat) (w5 : World), I1 x1 sets1 sets1n sets1c i1 c1 c2 c2n c2c w5 → ((decide (i1 < (l1n : Int))) = true → ∃ J1 : Int → Int → Int → (Option Addr) → Nat → Nat → World → Prop, (∀ (x2 : Int) (set1 : Int) (c3 : Int) (c4 : Option Addr) (c4n : Nat) (c4c : Nat) (w6 : World), J1 x2 set1 c3 c4 c4n c4c w6 → ∀ b3 : Nat, b3 = World.size w6 → ∀ w7 : World, w7 = World.alloc w6 (.cells #[.int .u32 set1] 22) → (∃ (l2 : Option Addr) (l2n : Nat) (l2c : Nat) (w8 : World), (Builtin.append_ #[38, 38] 38 #[.slice sets1 sets1n sets1c, .slice (some (⟨b3, 0, none⟩ : Addr)) 1 1]).run Tryz.prog w7 = .ok (.slice l2 l2n l2c) w8 ∧ (Same w7 w8 [b1, b2] ∧ ((I1 x2 l2 l2n l2c (IntKind.wrap .i64 (i1 + 1)) c3 c4 c4n c4c w8 ∧ m1 x2 l2 l2n l2c (IntKind.wrap .i64 (i1 + 1)) c3 c4 c4n c4c w8 < m1 x1 sets1 sets1n sets1c i1 c1 c2 c2n c2c w5))))) ∧ (∃ a1 : Addr, l1 = some a1 ∧ (0 : Int) ≤ i1 ∧ i1 < (l1n : Int) ∧ (∃ (t1 : Int) (t2 : Int), CellsAt w5 (a1.add (Int.toNat i1 * 3)) 0 [.int .i64 t1, .int .i64 t2] ∧ (((!((t1 == 0) && (t2 == 0))) = true → ∀ (w9 : World), Chg [] w5 w9 → (∃ (t3 : Option Addr) (t3n : Nat) (t3c : Nat), w9.cell? ((a1.add (Int.toNat i1 * 3)).add 2) = some (.slice t3 t3n t3c) ∧ (Calls Tryz.prog 52 #[.agg #[.int .i64 f1, .int .i64 f2, .int .i64 c1, .slice c2 c2n c2c, .slice f5 f5n f5c], .slice t3 t3n t3c] w9 fun e w10 => ∃ (r8 : Int), e = .returned (.int .u32 r8) ∧ (Same w9 w10 [b1, b2] ∧ (Calls Tryz.prog 75 #[.agg #[.int .i64 c1, .slice c2 c2n c2c], .int .u32 r8] w10 fun e w11 => ∃ (r9 : Int) (r10 : Option Addr) (r10n : Nat) (r10c : Nat) (r11 : Int) (r12 : Int), e = .returned (.tuple #[.agg #[.int .i64 r9, .slice r10 r10n r10c], .int .i64 r11, .int .i64 r12]) ∧ (Same w10 w11 [b1, b2] ∧ (∀ (b4 : Nat) (w13 : World), (w11.heap.size ≤ b4 ∧ b4 < w13.heap.size) → Chg [] w11 w13 → (((!(r12 == 0)) = true → ∀ (w14 : World), Chg [b2] w13 w14 → (R f1 f2 c1 c2 c2n c2c f5 f5n f5c r12 w14)) ∧ ((!(r12 == 0)) = false → ∀ (w15 : World), Chg [b1] w13 w15 → (J1 x1 r8 r9 r10 r10n r10c w15)))))))))) ∧ ((!((t1 == 0) && (t2 == 0))) = false → J1 x1 0 c1 c2 c2n c2c w5))))) ∧ ((decide (i1 < (l1n : Int))) = false → ∃ (I2 : Int → Int → Int → Int → (Option Addr) → Nat → Nat → (Option Addr) → Nat → Nat → World → Prop) (m2 : Int → Int → Int → Int → (Option Addr) → Nat → Nat → (Option Addr) → Nat → Nat → World → Nat), I2 0 f1 f2 c1 c2 c2n c2c f5 f5n f5c w5 ∧ ∀ (i2 : Int) (c5 : Int) (c6 : Int) (c7 : Int) (c8 : Option Addr) (c8n : Nat) (c8c : Nat) (c9 : Option Addr) (c9n : Nat) (c9c : Nat) (w16 : World), I2 i2 c5 c6 c7 c8 c8n c8c c9 c9n c9c w16 → ((decide (i2 < (l1n : Int))) = true → ∃ J2 : Int → Int → Int → (Option Addr) → Nat → Nat → (Option Addr) → Nat → Nat → World → Prop, (∀ (c10 : Int) (c11 : Int) (c12 : Int) (c13 : Option Addr) (c13n : Nat) (c13c : Nat) (c14 : Option Addr) (c14n : Nat) (c14c : Nat) (w17 : World), J2 c10 c11 c12 c13 c13n c13c c14 c14n c14c w17 → (I2 (IntKind.wrap .i64 (i2 + 1)) c10 c11 c12 c13 c13n c13c c14 c14n c14c w17 ∧ m2 (IntKind.wrap .i64 (i2 + 1)) c10 c11 c12 c13 c13n c13c c14 c14n c14c w17 < m2 i2 c5 c6 c7 c8 c8n c8c c9 c9n c9c w16)) ∧ (∃ a2 : Addr, l1 = some a2 ∧ (0 : Int) ≤ i2 ∧ i2 < (l1n : Int) ∧ (∃ (t4 : Int) (t5 : Int), CellsAt w16 (a2.add (Int.toNat i2 * 3)) 0 [.int .i64 t4, .int .i64 t5] ∧ (((!((t4 == 0) && (t5 == 0))) = true → ∀ (w18 : World), Chg [] w16 w18 → (∃ (t6 : Int) (t7 : Int), CellsAt w18 (a2.add (Int.toNat i2 * 3)) 0 [.int .i64 t6, .int .i64 t7] ∧ (∃ a3 : Addr, sets1 = some a3 ∧ (0 : Int) ≤ i2 ∧ i2 < (sets1n : Int) ∧ (∃ (t8 : Int), w18.cell? (a3.add (Int.toNat i2 * 1)) = some (.int .u32 t8) ∧ (Calls Tryz.prog 76 #[.agg #[.int .i64 c5, .int .i64 c6, .int .i64 c7, .slice c8 c8n c8c, .slice c9 c9n c9c], .agg #[.int .i64 t6, .int .i64 t7], .int .u32 t8] w18 fun e w19 => ∃ (r13 : Int) (r14 : Int) (r15 : Int) (r16 : Option Addr) (r16n : Nat) (r16c : Nat) (r17 : Option Addr) (r17n : Nat) (r17c : Nat), e = .returned (.agg #[.int .i64 r13, .int .i64 r14, .int .i64 r15, .slice r16 r16n r16c, .slice r17 r17n r17c]) ∧ ((CellsAt w19 (a2.add (Int.toNat i2 * 3)) 0 [.int .i64 t6, .int .i64 t7] ∧ w19.cell? (a3.add (Int.toNat i2 * 1)) = some (.int .u32 t8)) ∧ (Same w18 w19 [b1, b2] ∧ (∀ (w20 : World), Chg [b1] w19 w20 → (J2 r13 r14 r15 r16 r16n r16c r17 r17n r17c w20))))))))) ∧ ((!((t4 == 0) && (t5 == 0))) = false → J2 c5 c6 c7 c8 c8n c8c c9 c9n c9c w16))))) ∧ ((decide (i2 < (l1n : Int))) = false → ∀ (w21 : World), Chg [b2] w16 w21 → (R c5 c6 c7 c8 c8n c8c c9 c9n c9c 0 w21)))))))
set_option maxRecDepth 100000 in
theorem go_pomanderref12_Flow_Apply (f1 : Int) (f2 : Int) (f3 : Int) (f4 : Option Addr) (f4n : Nat) (f4c : Nat) (f5 : Option Addr) (f5n : Nat) (f5c : Nat) (l1 : Option Addr) (l1n : Nat) (l1c : Nat) (w : World) (R : Int → Int → Int → (Option Addr) → Nat → Nat → (Option Addr) → Nat → Nat → Int → World → Prop) (h : W_pomanderref12_Flow_Apply f1 f2 f3 f4 f4n f4c f5 f5n f5c l1 l1n l1c w R) : Calls Tryz.prog 62 #[.agg #[.int .i64 f1, .int .i64 f2, .int .i64 f3, .slice f4 f4n f4c, .slice f5 f5n f5c], .slice l1 l1n l1c] w (fun e w' => ∃ (r1 : Int) (r2 : Int) (r3 : Int) (r4 : Option Addr) (r4n : Nat) (r4c : Nat) (r5 : Option Addr) (r5n : Nat) (r5c : Nat) (r6 : Int), e = .returned (.tuple #[.agg #[.int .i64 r1, .int .i64 r2, .int .i64 r3, .slice r4 r4n r4c, .slice r5 r5n r5c], .int .i64 r6]) ∧ R r1 r2 r3 r4 r4n r4c r5 r5n r5c r6 w') := by
 unfold W_pomanderref12_Flow_Apply at h
 refine enter (N := 81) Tryz.func62 rfl rfl ?_
 refine CW.seq ?_
 refine CW.region fun L hL => ?_
 obtain ⟨b1, hb_b1⟩ : ∃ b1, b1 = World.size w := ⟨_, rfl⟩
 obtain ⟨w1, hw_w1⟩ : ∃ w1, w1 = World.alloc w (.cells #[.int .i64 f1, .int .i64 f2, .int .i64 f3, .slice f4 f4n f4c, .slice f5 f5n f5c] 43) := ⟨_, rfl⟩
 refine LW.val hL rfl (Wants.free rfl) rfl (boxE hb_b1 hw_w1 (Vl.box (v := .agg #[.int .i64 f1, .int .i64 f2, .int .i64 f3, .slice f4 f4n f4c, .slice f5 f5n f5c]) rfl)) ?_
 have hB := Boxes.alloc (cs := [.int .i64 f1, .int .i64 f2, .int .i64 f3, .slice f4 f4n f4c, .slice f5 f5n f5c]) (T := 43) (Boxes.nil w) hb_b1 hw_w1
 have hlo_b1 := sil_lo (Chg.refl [] w) hb_b1
 have hc_w1 := sil_alloc (Chg.refl [] w) hw_w1
 obtain ⟨b2, hb_b2⟩ : ∃ b2, b2 = World.size w1 := ⟨_, rfl⟩
 obtain ⟨w2, hw_w2⟩ : ∃ w2, w2 = World.alloc w1 (.cells #[.int .i64 0, .int .i64 0, .int .i64 0, .slice none 0 0, .slice none 0 0] 43) := ⟨_, rfl⟩
 refine LW.val hL rfl (Wants.free rfl) rfl (boxE hb_b2 hw_w2 (Vl.alloc (z := .agg #[.int .i64 0, .int .i64 0, .int .i64 0, .slice none 0 0, .slice none 0 0]) (by kernel_rfl))) ?_
 replace hB := Boxes.alloc (cs := [.int .i64 0, .int .i64 0, .int .i64 0, .slice none 0 0, .slice none 0 0]) (T := 43) hB hb_b2 hw_w2
 have hlo_b2 := sil_lo hc_w1 hb_b2
 have hc_w2 := sil_alloc hc_w1 hw_w2
 refine LW.rd hL rfl (Wants.free rfl) rfl (Rd.assign (v := .int .i64 0) rfl) ?_
 refine LW.nil hL rfl ?_
 refine NW.then ?_
 refine CW.seq ?_
 refine CW.seq ?_
 refine CW.region fun L hL => ?_
 refine LW.rd hL rfl (Wants.free rfl) rfl (Rd.ldN (cs := [.int .i64 f1, .int .i64 f2, .int .i64 f3, .slice f4 f4n f4c, .slice f5 f5n f5c]) rfl (by kernel_rfl) (by kernel_rfl) (cellsS (box_cells (hB.at (i := 1) rfl) rfl))) ?_
 refine LW.rd hL rfl (Wants.free rfl) rfl (Rd.move (v := .slice l1 l1n l1c) rfl) ?_
 replace h := h b2 b1 w2 ⟨hlo_b2, lt_of_heap (hB.at (i := 0) rfl)⟩ ⟨hlo_b1, lt_of_heap (hB.at (i := 1) rfl)⟩ hc_w2
 refine LW.call hL rfl (Wants.free rfl) rfl (Cl.fn (f := 18) rfl Tryz.func18 (by kernel_rfl) rfl) h (fun e w3 h_ => ?_)
 clear h
 obtain ⟨r7, rfl, h⟩ := h_
 obtain ⟨hsm1, h⟩ := h
 replace hB := Boxes.sameS hB hsm1 (by simp)
 refine ⟨_, rfl, ?_⟩
 refine LW.rd hL rfl (Wants.free rfl) rfl (Rd.un (v := .bool (!r7)) rfl (fun _ => by kernel_rfl)) ?_
 refine LW.nil hL rfl ?_
 refine NW.then ?_
 refine CW.cond rfl (fun hb1 => ?_) (fun hb1 => ?_)
 ·replace h := h.1 hb1
  refine CW.seq ?_
  refine CW.region fun L hL => ?_
  refine LW.rd hL rfl (Wants.free rfl) rfl (Rd.ldN (cs := [.int .i64 f1, .int .i64 f2, .int .i64 f3, .slice f4 f4n f4c, .slice f5 f5n f5c]) rfl (by kernel_rfl) (by kernel_rfl) (cellsS (box_cells (hB.at (i := 1) rfl) rfl))) ?_
  obtain ⟨w4, hw_w4⟩ : ∃ x, x = setCells w3 (⟨b2, 0, none⟩ : Addr) 0 [.int .i64 f1, .int .i64 f2, .int .i64 f3, .slice f4 f4n f4c, .slice f5 f5n f5c] := ⟨_, rfl⟩
  refine LW.eff hL rfl (Wants.free rfl) rfl (stNE hw_w4 (Ef.stN (cs := [.int .i64 f1, .int .i64 f2, .int .i64 f3, .slice f4 f4n f4c, .slice f5 f5n f5c]) rfl rfl (by kernel_rfl) (List.forall_mem_cons.2 ⟨rfl, (List.forall_mem_cons.2 ⟨rfl, (List.forall_mem_cons.2 ⟨rfl, (List.forall_mem_cons.2 ⟨rfl, (List.forall_mem_cons.2 ⟨rfl, (List.forall_mem_nil _)⟩)⟩)⟩)⟩)⟩) (has_of (hB.at (i := 0) rfl) (by simp)) (free_of' (hB.at (i := 0) rfl)))) ?_
  replace hB : Boxes w4 [(b2, [.int .i64 f1, .int .i64 f2, .int .i64 f3, .slice f4 f4n f4c, .slice f5 f5n f5c], 43), (b1, [.int .i64 f1, .int .i64 f2, .int .i64 f3, .slice f4 f4n f4c, .slice f5 f5n f5c], 43)] := Boxes.store (vs := [.int .i64 f1, .int .i64 f2, .int .i64 f3, .slice f4 f4n f4c, .slice f5 f5n f5c]) (i := 0) (o := 0) hB rfl rfl rfl rfl hw_w4
  have hc_w4 : Chg [b2] w3 w4 := sil_more (Chg.refl [] w3) (sil_cN hw_w4)
  refine LW.rd hL rfl (Wants.free rfl) rfl (Rd.assign (v := .int .i64 2) rfl) ?_
  refine LW.nil hL rfl ?_
  refine NW.then ?_
  replace h := h  w4  hc_w4
  refine CW.ret ?_
  refine RW.then ?_
  exact resN (vs := [.agg #[.int .i64 f1, .int .i64 f2, .int .i64 f3, .slice f4 f4n f4c, .slice f5 f5n f5c], .int .i64 2]) (ResOK.c rfl (lvN (cs := [.int .i64 f1, .int .i64 f2, .int .i64 f3, .slice f4 f4n f4c, .slice f5 f5n f5c]) (by kernel_rfl) (by kernel_rfl) (cellsAt_get (box_cells (hB.at (i := 0) rfl) rfl))) (ResOK.t rfl ResOK.nil)) rfl ⟨f1, f2, f3, f4, f4n, f4c, f5, f5n, f5c, 2, rfl, h⟩
 ·replace h := h.2 hb1
  refine CW.skip ?_
  refine NW.then ?_
  refine CW.seq ?_
  refine CW.region fun L hL => ?_
  refine LW.rd hL rfl (Wants.free rfl) rfl (Rd.assign (v := .slice none 0 0) rfl) ?_
  refine LW.nil hL rfl ?_
  refine NW.then ?_
  refine CW.seq ?_
  refine CW.seq ?_
  refine CW.region fun L hL => ?_
  refine LW.rd hL rfl (Wants.free rfl) rfl (Rd.assign (v := .int .i64 0) rfl) ?_
  refine LW.nil hL rfl ?_
  refine NW.then ?_
  refine CW.block ?_
  obtain ⟨I1, m1, hI1, h⟩ := h
  refine CW.loop (S := Int × (Option Addr) × Nat × Nat × Int × Int × (Option Addr) × Nat × Nat) (fun s1 => [(1, .slice l1 l1n l1c), (2, .pointer (some (⟨b1, 0, none⟩ : Addr))), (4, .pointer (some (⟨b2, 0, none⟩ : Addr))), (5, .int .i64 s1.1), (6, .slice s1.2.1 s1.2.2.1 s1.2.2.2.1), (7, .int .i64 s1.2.2.2.2.1)]) (fun s1 w5 => I1 s1.1 s1.2.1 s1.2.2.1 s1.2.2.2.1 s1.2.2.2.2.1 s1.2.2.2.2.2.1 s1.2.2.2.2.2.2.1 s1.2.2.2.2.2.2.2.1 s1.2.2.2.2.2.2.2.2 w5 ∧ ∃ (u1 u2 u3 u4 u5 : Value), Boxes w5 [(b1, [.int .i64 f1, .int .i64 f2, .int .i64 s1.2.2.2.2.2.1, .slice s1.2.2.2.2.2.2.1 s1.2.2.2.2.2.2.2.1 s1.2.2.2.2.2.2.2.2, .slice f5 f5n f5c], 43), (b2, [u1, u2, u3, u4, u5], 43)]) (fun s1 w5 => m1 s1.1 s1.2.1 s1.2.2.1 s1.2.2.2.1 s1.2.2.2.2.1 s1.2.2.2.2.2.1 s1.2.2.2.2.2.2.1 s1.2.2.2.2.2.2.2.1 s1.2.2.2.2.2.2.2.2 w5) (0, none, 0, 0, 0, f3, f4, f4n, f4c) (by exact ⟨rfl, rfl, rfl, rfl, rfl, rfl, trivial⟩) ⟨hI1, .int .i64 0, .int .i64 0, .int .i64 0, .slice none 0 0, .slice none 0 0, (hB.sel [1, 0] (by decide) rfl)⟩ (fun s1 w5 hI1 => ?_)
  obtain ⟨hI1, u1, u2, u3, u4, u5, hB⟩ := hI1
  obtain ⟨x1, sets1, sets1n, sets1c, i1, c1, c2, c2n, c2c⟩ := s1; replace h := h x1 sets1 sets1n sets1c i1 c1 c2 c2n c2c w5 hI1
  refine CW.seq ?_
  refine CW.seq ?_
  refine CW.region fun L hL => ?_
  refine LW.rd hL rfl (Wants.free rfl) rfl (Rd.move (v := .int .i64 i1) rfl) ?_
  refine LW.rd hL rfl (Wants.free rfl) rfl (Rd.move (v := .slice l1 l1n l1c) rfl) ?_
  refine LW.rd hL rfl (Wants.free rfl) rfl (Rd.builtin (v := .int .i64 (l1n : Int)) rfl (fun _ _ => by kernel_rfl)) ?_
  refine LW.rd hL rfl (Wants.free rfl) rfl (Rd.bin (v := .bool (decide (i1 < (l1n : Int)))) rfl rfl (fun w => by kernel_rfl)) ?_
  refine LW.nil hL rfl ?_
  refine NW.then ?_
  refine CW.cond rfl (fun hb2 => ?_) (fun hb2 => ?_)
  ·replace h := h.1 hb2
   refine CW.skip ?_
   refine NW.then ?_
   refine CW.seq ?_
   refine CW.block ?_
   refine CW.seq ?_
   refine CW.region fun L hL => ?_
   refine LW.rd hL rfl (Wants.free rfl) rfl (Rd.assign (v := .int .u32 0) rfl) ?_
   refine LW.nil hL rfl ?_
   refine NW.then ?_
   obtain ⟨J1, hJ1, h⟩ := h
   refine CW.cut (S := Int × Int × Int × (Option Addr) × Nat × Nat) (fun s2 => [(1, .slice l1 l1n l1c), (2, .pointer (some (⟨b1, 0, none⟩ : Addr))), (4, .pointer (some (⟨b2, 0, none⟩ : Addr))), (6, .slice sets1 sets1n sets1c), (7, .int .i64 i1), (5, .int .i64 s2.1), (8, .int .u32 s2.2.1)]) (fun s2 w6 => J1 s2.1 s2.2.1 s2.2.2.1 s2.2.2.2.1 s2.2.2.2.2.1 s2.2.2.2.2.2 w6 ∧ ∃ (u6 u7 u8 u9 u10 : Value), Boxes w6 [(b1, [.int .i64 f1, .int .i64 f2, .int .i64 s2.2.2.1, .slice s2.2.2.2.1 s2.2.2.2.2.1 s2.2.2.2.2.2, .slice f5 f5n f5c], 43), (b2, [u6, u7, u8, u9, u10], 43)]) (fun s2 w6 h_ => ?_) ?_
   ·obtain ⟨h_, u6, u7, u8, u9, u10, hB⟩ := h_; obtain ⟨x2, set1, c3, c4, c4n, c4c⟩ := s2; replace h := hJ1 x2 set1 c3 c4 c4n c4c w6 h_; clear h_
    refine CW.region fun L hL => ?_
    refine LW.rd hL rfl (Wants.free rfl) rfl (Rd.move (v := .slice sets1 sets1n sets1c) rfl) ?_
    refine LW.rd hL rfl (Wants.free rfl) rfl (Rd.move (v := .int .u32 set1) rfl) ?_
    obtain ⟨b3, hb_b3⟩ : ∃ b3, b3 = World.size w6 := ⟨_, rfl⟩
    obtain ⟨w7, hw_w7⟩ : ∃ w7, w7 = World.alloc w6 (.cells #[.int .u32 set1] 22) := ⟨_, rfl⟩
    replace h := h b3 hb_b3 w7 hw_w7
    refine LW.val hL rfl (Wants.free rfl) rfl (sliceE (n := 1) hb_b3 hw_w7 (fun w => Vl.buildSlice (vs := [(0, .int .u32 set1)]) rfl (by kernel_rfl))) ?_
    replace hB := hB.grow hw_w7
    obtain ⟨l2, l2n, l2c, w8, ha1, h⟩ := h
    refine LW.val hL rfl (Wants.free rfl) rfl (Vl.builtin (v := .slice l2 l2n l2c) rfl (valB ha1)) ?_
    obtain ⟨hsm2, h⟩ := h
    replace hB := Boxes.sameS hB hsm2 (by simp)
    refine LW.rd hL rfl (Wants.free rfl) rfl (Rd.assign (v := .slice l2 l2n l2c) rfl) ?_
    refine LW.nil hL rfl ?_
    refine NW.block ?_
    refine NW.then ?_
    refine CW.region fun L hL => ?_
    refine LW.rd hL rfl (Wants.free rfl) rfl (Rd.move (v := .int .i64 i1) rfl) ?_
    refine LW.rd hL rfl (Wants.free rfl) rfl (Rd.bin (v := .int .i64 (IntKind.wrap .i64 (i1 + 1))) rfl rfl (fun w => by kernel_rfl)) ?_
    refine LW.rd hL rfl (Wants.free rfl) rfl (Rd.assign (v := .int .i64 (IntKind.wrap .i64 (i1 + 1))) rfl) ?_
    refine LW.nil hL rfl ?_
    exact NW.loop (S := Int × (Option Addr) × Nat × Nat × Int × Int × (Option Addr) × Nat × Nat) (Ek := fun s1 => [(1, .slice l1 l1n l1c), (2, .pointer (some (⟨b1, 0, none⟩ : Addr))), (4, .pointer (some (⟨b2, 0, none⟩ : Addr))), (5, .int .i64 s1.1), (6, .slice s1.2.1 s1.2.2.1 s1.2.2.2.1), (7, .int .i64 s1.2.2.2.2.1)]) (x2, l2, l2n, l2c, IntKind.wrap .i64 (i1 + 1), c3, c4, c4n, c4c) (by exact ⟨rfl, rfl, rfl, rfl, rfl, rfl, trivial⟩) ⟨⟨h.1, u6, u7, u8, u9, u10, hB⟩, h.2⟩
   ·skip
    refine CW.seq ?_
    refine CW.region fun L hL => ?_
    refine LW.rd hL rfl (Wants.free rfl) rfl (Rd.move (v := .slice l1 l1n l1c) rfl) ?_
    refine LW.rd hL rfl (Wants.free rfl) rfl (Rd.move (v := .int .i64 i1) rfl) ?_
    obtain ⟨a1, he1, hi1, hi2, h⟩ := h
    refine LW.rd hL rfl (Wants.free rfl) rfl (Rd.iaS (q := a1) (sz := 3) (by rw [← he1]; rfl) rfl Tryz.underlying27 (by kernel_rfl) hi1 hi2) ?_
    refine LW.rd hL rfl (Wants.free rfl) rfl (Rd.fa (v := .pointer (some (a1.add (Int.toNat i1 * 3)))) rfl (fun _ => by kernel_rfl)) ?_
    obtain ⟨t1, t2, hc1, h⟩ := h
    refine LW.rd hL rfl (Wants.free rfl) rfl (Rd.ldN (cs := [.int .i64 t1, .int .i64 t2]) rfl (by kernel_rfl) (by kernel_rfl) (cellsS hc1)) ?_
    refine LW.rd hL rfl (Wants.free rfl) rfl (Rd.build (v := .agg #[.int .i64 0, .int .i64 0]) rfl (fun _ => by kernel_rfl)) ?_
    refine LW.rd hL rfl (Wants.free rfl) rfl (Rd.bin (v := .bool (!((t1 == 0) && (t2 == 0)))) rfl rfl (fun w => neS_62 _ _ _ _ w)) ?_
    refine LW.nil hL rfl ?_
    refine NW.then ?_
    refine CW.cond rfl (fun hb3 => ?_) (fun hb3 => ?_)
    ·replace h := h.1 hb3
     refine CW.seq ?_
     obtain ⟨w9, hw_w9⟩ : ∃ x, x = World.drew w5 := ⟨_, rfl⟩
     have hc_w9 := sil_drew (Chg.refl [] w5) hw_w9
     replace hB := hB.drew hw_w9
     refine CW.drawn (fun w => w = w9) 6 (by kernel_rfl) fun H hH => ?_
     rw [← hw_w9]
     refine HW.take (i := 0) hH rfl (by kernel_rfl) (by kernel_rfl) (Wants.free rfl) rfl (fun _ => rfl) (Rd.ldN (cs := [.int .i64 f1, .int .i64 f2, .int .i64 c1, .slice c2 c2n c2c, .slice f5 f5n f5c]) rfl (by kernel_rfl) (by kernel_rfl) (cellsS (box_cells (hB.at (i := 0) rfl) rfl))) ?_
     refine HW.pure (i := 1) hH rfl (by kernel_rfl) (Wants.free rfl) rfl (fun _ => rfl) (Rd.move (v := .slice l1 l1n l1c) rfl) ?_
     refine HW.pure (i := 2) hH rfl (by kernel_rfl) (Wants.free rfl) rfl (fun _ => rfl) (Rd.move (v := .int .i64 i1) rfl) ?_
     refine HW.pure (i := 3) hH rfl (by kernel_rfl) (Wants.free rfl) rfl (fun _ => rfl) (Rd.iaS (q := a1) (sz := 3) (by rw [← he1]; rfl) rfl Tryz.underlying27 (by kernel_rfl) hi1 hi2) ?_
     refine HW.pure (i := 4) hH rfl (by kernel_rfl) (Wants.free rfl) rfl (fun _ => rfl) (Rd.fa (v := .pointer (some ((a1.add (Int.toNat i1 * 3)).add 2))) rfl (fun _ => by kernel_rfl)) ?_
     replace h := h  w9  hc_w9
     obtain ⟨t3, t3n, t3c, hc2, h⟩ := h
     refine HW.take (i := 5) hH rfl (by kernel_rfl) (by kernel_rfl) (Wants.free rfl) rfl (fun _ => rfl) (Rd.ld (v := .slice t3 t3n t3c) rfl (by kernel_rfl) (eqs hc2)) ?_
     refine HW.call (i := 6) hH (by kernel_rfl) rfl (Wants.free rfl) rfl (Cl.fn (f := 52) rfl Tryz.func52 (by kernel_rfl) rfl) h (fun e w10 h_ => ?_)
     clear h
     obtain ⟨r8, rfl, h⟩ := h_
     obtain ⟨hsm3, h⟩ := h
     replace hB := Boxes.sameS hB hsm3 (by simp)
     refine ⟨_, rfl, (fun hc => by cases hc), ?_⟩
     refine HW.pure (i := 7) hH rfl (by kernel_rfl) (Wants.free rfl) rfl (fun hc => by cases hc) (Rd.assign (v := .int .u32 r8) rfl) ?_
     refine HW.done hH (by kernel_rfl) ?_
     refine NW.then ?_
     refine CW.seq ?_
     refine CW.region fun L hL => ?_
     refine LW.rd hL rfl (Wants.free rfl) rfl (Rd.fa (v := .pointer (some (⟨b1, 2, none⟩ : Addr))) rfl (fun _ => by kernel_rfl)) ?_
     refine LW.rd hL rfl (Wants.free rfl) rfl (Rd.ldN (cs := [.int .i64 c1, .slice c2 c2n c2c]) rfl (by kernel_rfl) (by kernel_rfl) (cellsS (box_cells (hB.at (i := 0) rfl) rfl))) ?_
     refine LW.rd hL rfl (Wants.free rfl) rfl (Rd.move (v := .int .u32 r8) rfl) ?_
     refine LW.call hL rfl (Wants.free rfl) rfl (Cl.fn (f := 75) rfl Tryz.func75 (by kernel_rfl) rfl) h (fun e w11 h_ => ?_)
     clear h
     obtain ⟨r9, r10, r10n, r10c, r11, r12, rfl, h⟩ := h_
     obtain ⟨hsm4, h⟩ := h
     replace hB := Boxes.sameS hB hsm4 (by simp)
     refine ⟨_, rfl, ?_⟩
     refine LW.rd hL rfl (Wants.free rfl) rfl (Rd.move (v := .tuple #[.agg #[.int .i64 r9, .slice r10 r10n r10c], .int .i64 r11, .int .i64 r12]) rfl) ?_
     refine LW.rd hL rfl (Wants.free rfl) rfl (Rd.extract (v := .agg #[.int .i64 r9, .slice r10 r10n r10c]) rfl rfl) ?_
     refine LW.rd hL rfl (Wants.free rfl) rfl (Rd.extract (v := .int .i64 r11) rfl rfl) ?_
     refine LW.rd hL rfl (Wants.free rfl) rfl (Rd.extract (v := .int .i64 r12) rfl rfl) ?_
     obtain ⟨b4, hb_b4⟩ : ∃ b4, b4 = World.size w11 := ⟨_, rfl⟩
     obtain ⟨w12, hw_w12⟩ : ∃ w12, w12 = World.alloc w11 (.cells #[.int .i64 0, .slice none 0 0] 40) := ⟨_, rfl⟩
     refine LW.val hL rfl (Wants.free rfl) rfl (boxE hb_b4 hw_w12 (Vl.alloc (z := .agg #[.int .i64 0, .slice none 0 0]) (by kernel_rfl))) ?_
     replace hB := Boxes.alloc (cs := [.int .i64 0, .slice none 0 0]) (T := 40) hB hb_b4 hw_w12
     have hlo_b4 := sil_lo (Chg.refl [] w11) hb_b4
     have hc_w12 := sil_alloc (Chg.refl [] w11) hw_w12
     obtain ⟨w13, hw_w13⟩ : ∃ x, x = setCells w12 (⟨b4, 0, none⟩ : Addr) 0 [.int .i64 r9, .slice r10 r10n r10c] := ⟨_, rfl⟩
     refine LW.eff hL rfl (Wants.free rfl) rfl (stNE hw_w13 (Ef.stN (cs := [.int .i64 r9, .slice r10 r10n r10c]) rfl rfl (by kernel_rfl) (List.forall_mem_cons.2 ⟨rfl, (List.forall_mem_cons.2 ⟨rfl, (List.forall_mem_nil _)⟩)⟩) (has_of (hB.at (i := 0) rfl) (by simp)) (free_of' (hB.at (i := 0) rfl)))) ?_
     replace hB : Boxes w13 [(b4, [.int .i64 r9, .slice r10 r10n r10c], 40), (b1, [.int .i64 f1, .int .i64 f2, .int .i64 c1, .slice c2 c2n c2c, .slice f5 f5n f5c], 43), (b2, [u1, u2, u3, u4, u5], 43)] := Boxes.store (vs := [.int .i64 r9, .slice r10 r10n r10c]) (i := 0) (o := 0) hB rfl rfl rfl rfl hw_w13
     have hc_w13 := sil_new hc_w12 (sil_cN hw_w13) hlo_b4
     refine LW.rd hL rfl (Wants.free rfl) rfl (Rd.assign (v := .int .i64 r11) rfl) ?_
     refine LW.rd hL rfl (Wants.free rfl) rfl (Rd.assign (v := .int .i64 r12) rfl) ?_
     refine LW.nil hL rfl ?_
     refine NW.then ?_
     refine CW.seq ?_
     refine CW.seq ?_
     refine CW.region fun L hL => ?_
     refine LW.rd hL rfl (Wants.free rfl) rfl (Rd.move (v := .int .i64 r12) rfl) ?_
     refine LW.rd hL rfl (Wants.free rfl) rfl (Rd.bin (v := .bool (!(r12 == 0))) rfl rfl (fun w => by kernel_rfl)) ?_
     refine LW.nil hL rfl ?_
     refine NW.then ?_
     replace h := h b4 w13 ⟨hlo_b4, lt_of_heap (hB.at (i := 0) rfl)⟩ hc_w13
     refine CW.cond rfl (fun hb4 => ?_) (fun hb4 => ?_)
     ·replace h := h.1 hb4
      refine CW.seq ?_
      refine CW.region fun L hL => ?_
      refine LW.rd hL rfl (Wants.free rfl) rfl (Rd.ldN (cs := [.int .i64 f1, .int .i64 f2, .int .i64 c1, .slice c2 c2n c2c, .slice f5 f5n f5c]) rfl (by kernel_rfl) (by kernel_rfl) (cellsS (box_cells (hB.at (i := 1) rfl) rfl))) ?_
      refine LW.rd hL rfl (Wants.free rfl) rfl (Rd.move (v := .int .i64 r12) rfl) ?_
      obtain ⟨w14, hw_w14⟩ : ∃ x, x = setCells w13 (⟨b2, 0, none⟩ : Addr) 0 [.int .i64 f1, .int .i64 f2, .int .i64 c1, .slice c2 c2n c2c, .slice f5 f5n f5c] := ⟨_, rfl⟩
      refine LW.eff hL rfl (Wants.free rfl) rfl (stNE hw_w14 (Ef.stN (cs := [.int .i64 f1, .int .i64 f2, .int .i64 c1, .slice c2 c2n c2c, .slice f5 f5n f5c]) rfl rfl (by kernel_rfl) (List.forall_mem_cons.2 ⟨rfl, (List.forall_mem_cons.2 ⟨rfl, (List.forall_mem_cons.2 ⟨rfl, (List.forall_mem_cons.2 ⟨rfl, (List.forall_mem_cons.2 ⟨rfl, (List.forall_mem_nil _)⟩)⟩)⟩)⟩)⟩) (has_of (hB.at (i := 2) rfl) (by simp)) (free_of' (hB.at (i := 2) rfl)))) ?_
      replace hB : Boxes w14 [(b4, [.int .i64 r9, .slice r10 r10n r10c], 40), (b1, [.int .i64 f1, .int .i64 f2, .int .i64 c1, .slice c2 c2n c2c, .slice f5 f5n f5c], 43), (b2, [.int .i64 f1, .int .i64 f2, .int .i64 c1, .slice c2 c2n c2c, .slice f5 f5n f5c], 43)] := Boxes.store (vs := [.int .i64 f1, .int .i64 f2, .int .i64 c1, .slice c2 c2n c2c, .slice f5 f5n f5c]) (i := 2) (o := 0) hB rfl rfl rfl rfl hw_w14
      have hc_w14 : Chg [b2] w13 w14 := sil_more (Chg.refl [] w13) (sil_cN hw_w14)
      refine LW.rd hL rfl (Wants.free rfl) rfl (Rd.assign (v := .int .i64 r12) rfl) ?_
      refine LW.nil hL rfl ?_
      refine NW.then ?_
      replace h := h  w14  hc_w14
      refine CW.ret ?_
      refine RW.then ?_
      refine RW.then ?_
      refine RW.block ?_
      refine RW.then ?_
      refine RW.then ?_
      refine RW.block ?_
      refine RW.then ?_
      exact resN (vs := [.agg #[.int .i64 f1, .int .i64 f2, .int .i64 c1, .slice c2 c2n c2c, .slice f5 f5n f5c], .int .i64 r12]) (ResOK.c rfl (lvN (cs := [.int .i64 f1, .int .i64 f2, .int .i64 c1, .slice c2 c2n c2c, .slice f5 f5n f5c]) (by kernel_rfl) (by kernel_rfl) (cellsAt_get (box_cells (hB.at (i := 2) rfl) rfl))) (ResOK.t rfl ResOK.nil)) rfl ⟨f1, f2, c1, c2, c2n, c2c, f5, f5n, f5c, r12, rfl, h⟩
     ·replace h := h.2 hb4
      refine CW.skip ?_
      refine NW.then ?_
      refine CW.region fun L hL => ?_
      refine LW.rd hL rfl (Wants.free rfl) rfl (Rd.ldN (cs := [.int .i64 r9, .slice r10 r10n r10c]) rfl (by kernel_rfl) (by kernel_rfl) (cellsS (box_cells (hB.at (i := 0) rfl) rfl))) ?_
      refine LW.rd hL rfl (Wants.free rfl) rfl (Rd.fa (v := .pointer (some (⟨b1, 2, none⟩ : Addr))) rfl (fun _ => by kernel_rfl)) ?_
      obtain ⟨w15, hw_w15⟩ : ∃ x, x = setCells w13 (⟨b1, 2, none⟩ : Addr) 0 [.int .i64 r9, .slice r10 r10n r10c] := ⟨_, rfl⟩
      refine LW.eff hL rfl (Wants.free rfl) rfl (stNE hw_w15 (Ef.stN (cs := [.int .i64 r9, .slice r10 r10n r10c]) rfl rfl (by kernel_rfl) (List.forall_mem_cons.2 ⟨rfl, (List.forall_mem_cons.2 ⟨rfl, (List.forall_mem_nil _)⟩)⟩) (has_of (hB.at (i := 1) rfl) (by simp)) (free_of' (hB.at (i := 1) rfl)))) ?_
      replace hB : Boxes w15 [(b4, [.int .i64 r9, .slice r10 r10n r10c], 40), (b1, [.int .i64 f1, .int .i64 f2, .int .i64 r9, .slice r10 r10n r10c, .slice f5 f5n f5c], 43), (b2, [u1, u2, u3, u4, u5], 43)] := Boxes.store (vs := [.int .i64 r9, .slice r10 r10n r10c]) (i := 1) (o := 2) hB rfl rfl rfl rfl hw_w15
      have hc_w15 : Chg [b1] w13 w15 := sil_more (Chg.refl [] w13) (sil_cN hw_w15)
      refine LW.nil hL rfl ?_
      replace h := h  w15  hc_w15
      exact NW.cut (S := Int × Int × Int × (Option Addr) × Nat × Nat) (Ek := fun s2 => [(1, .slice l1 l1n l1c), (2, .pointer (some (⟨b1, 0, none⟩ : Addr))), (4, .pointer (some (⟨b2, 0, none⟩ : Addr))), (6, .slice sets1 sets1n sets1c), (7, .int .i64 i1), (5, .int .i64 s2.1), (8, .int .u32 s2.2.1)]) (x1, r8, r9, r10, r10n, r10c) (by exact ⟨rfl, rfl, rfl, rfl, rfl, rfl, rfl, trivial⟩) ⟨h, u1, u2, u3, u4, u5, (hB.sel [1, 2] (by decide) rfl)⟩
    ·replace h := h.2 hb3
     refine CW.skip ?_
     exact NW.cut (S := Int × Int × Int × (Option Addr) × Nat × Nat) (Ek := fun s2 => [(1, .slice l1 l1n l1c), (2, .pointer (some (⟨b1, 0, none⟩ : Addr))), (4, .pointer (some (⟨b2, 0, none⟩ : Addr))), (6, .slice sets1 sets1n sets1c), (7, .int .i64 i1), (5, .int .i64 s2.1), (8, .int .u32 s2.2.1)]) (x1, 0, c1, c2, c2n, c2c) (by exact ⟨rfl, rfl, rfl, rfl, rfl, rfl, rfl, trivial⟩) ⟨h, u1, u2, u3, u4, u5, hB⟩
  ·replace h := h.2 hb2
   refine CW.exit ?_
   refine XW.then ?_
   refine XW.then ?_
   refine XW.hit ?_
   refine NW.then ?_
   refine CW.seq ?_
   refine CW.seq ?_
   refine CW.region fun L hL => ?_
   refine LW.rd hL rfl (Wants.free rfl) rfl (Rd.assign (v := .int .i64 0) rfl) ?_
   refine LW.nil hL rfl ?_
   refine NW.then ?_
   refine CW.block ?_
   obtain ⟨I2, m2, hI2, h⟩ := h
   refine CW.loop (S := Int × Int × Int × Int × (Option Addr) × Nat × Nat × (Option Addr) × Nat × Nat) (fun s3 => [(1, .slice l1 l1n l1c), (2, .pointer (some (⟨b1, 0, none⟩ : Addr))), (4, .pointer (some (⟨b2, 0, none⟩ : Addr))), (5, .int .i64 x1), (6, .slice sets1 sets1n sets1c), (12, .int .i64 s3.1)]) (fun s3 w16 => I2 s3.1 s3.2.1 s3.2.2.1 s3.2.2.2.1 s3.2.2.2.2.1 s3.2.2.2.2.2.1 s3.2.2.2.2.2.2.1 s3.2.2.2.2.2.2.2.1 s3.2.2.2.2.2.2.2.2.1 s3.2.2.2.2.2.2.2.2.2 w16 ∧ Boxes w16 [(b1, [.int .i64 s3.2.1, .int .i64 s3.2.2.1, .int .i64 s3.2.2.2.1, .slice s3.2.2.2.2.1 s3.2.2.2.2.2.1 s3.2.2.2.2.2.2.1, .slice s3.2.2.2.2.2.2.2.1 s3.2.2.2.2.2.2.2.2.1 s3.2.2.2.2.2.2.2.2.2], 43), (b2, [u1, u2, u3, u4, u5], 43)]) (fun s3 w16 => m2 s3.1 s3.2.1 s3.2.2.1 s3.2.2.2.1 s3.2.2.2.2.1 s3.2.2.2.2.2.1 s3.2.2.2.2.2.2.1 s3.2.2.2.2.2.2.2.1 s3.2.2.2.2.2.2.2.2.1 s3.2.2.2.2.2.2.2.2.2 w16) (0, f1, f2, c1, c2, c2n, c2c, f5, f5n, f5c) (by exact ⟨rfl, rfl, rfl, rfl, rfl, rfl, trivial⟩) ⟨hI2, hB⟩ (fun s3 w16 hI2 => ?_)
   obtain ⟨hI2, hB⟩ := hI2
   obtain ⟨i2, c5, c6, c7, c8, c8n, c8c, c9, c9n, c9c⟩ := s3; replace h := h i2 c5 c6 c7 c8 c8n c8c c9 c9n c9c w16 hI2
   refine CW.seq ?_
   refine CW.seq ?_
   refine CW.region fun L hL => ?_
   refine LW.rd hL rfl (Wants.free rfl) rfl (Rd.move (v := .int .i64 i2) rfl) ?_
   refine LW.rd hL rfl (Wants.free rfl) rfl (Rd.move (v := .slice l1 l1n l1c) rfl) ?_
   refine LW.rd hL rfl (Wants.free rfl) rfl (Rd.builtin (v := .int .i64 (l1n : Int)) rfl (fun _ _ => by kernel_rfl)) ?_
   refine LW.rd hL rfl (Wants.free rfl) rfl (Rd.bin (v := .bool (decide (i2 < (l1n : Int)))) rfl rfl (fun w => by kernel_rfl)) ?_
   refine LW.nil hL rfl ?_
   refine NW.then ?_
   refine CW.cond rfl (fun hb5 => ?_) (fun hb5 => ?_)
   ·replace h := h.1 hb5
    refine CW.skip ?_
    refine NW.then ?_
    obtain ⟨J2, hJ2, h⟩ := h
    refine CW.cut (S := Int × Int × Int × (Option Addr) × Nat × Nat × (Option Addr) × Nat × Nat) (fun s4 => [(1, .slice l1 l1n l1c), (2, .pointer (some (⟨b1, 0, none⟩ : Addr))), (4, .pointer (some (⟨b2, 0, none⟩ : Addr))), (5, .int .i64 x1), (6, .slice sets1 sets1n sets1c), (12, .int .i64 i2)]) (fun s4 w17 => J2 s4.1 s4.2.1 s4.2.2.1 s4.2.2.2.1 s4.2.2.2.2.1 s4.2.2.2.2.2.1 s4.2.2.2.2.2.2.1 s4.2.2.2.2.2.2.2.1 s4.2.2.2.2.2.2.2.2 w17 ∧ Boxes w17 [(b1, [.int .i64 s4.1, .int .i64 s4.2.1, .int .i64 s4.2.2.1, .slice s4.2.2.2.1 s4.2.2.2.2.1 s4.2.2.2.2.2.1, .slice s4.2.2.2.2.2.2.1 s4.2.2.2.2.2.2.2.1 s4.2.2.2.2.2.2.2.2], 43), (b2, [u1, u2, u3, u4, u5], 43)]) (fun s4 w17 h_ => ?_) ?_
    ·obtain ⟨h_, hB⟩ := h_; obtain ⟨c10, c11, c12, c13, c13n, c13c, c14, c14n, c14c⟩ := s4; replace h := hJ2 c10 c11 c12 c13 c13n c13c c14 c14n c14c w17 h_; clear h_
     refine CW.region fun L hL => ?_
     refine LW.rd hL rfl (Wants.free rfl) rfl (Rd.move (v := .int .i64 i2) rfl) ?_
     refine LW.rd hL rfl (Wants.free rfl) rfl (Rd.bin (v := .int .i64 (IntKind.wrap .i64 (i2 + 1))) rfl rfl (fun w => by kernel_rfl)) ?_
     refine LW.rd hL rfl (Wants.free rfl) rfl (Rd.assign (v := .int .i64 (IntKind.wrap .i64 (i2 + 1))) rfl) ?_
     refine LW.nil hL rfl ?_
     exact NW.loop (S := Int × Int × Int × Int × (Option Addr) × Nat × Nat × (Option Addr) × Nat × Nat) (Ek := fun s3 => [(1, .slice l1 l1n l1c), (2, .pointer (some (⟨b1, 0, none⟩ : Addr))), (4, .pointer (some (⟨b2, 0, none⟩ : Addr))), (5, .int .i64 x1), (6, .slice sets1 sets1n sets1c), (12, .int .i64 s3.1)]) (IntKind.wrap .i64 (i2 + 1), c10, c11, c12, c13, c13n, c13c, c14, c14n, c14c) (by exact ⟨rfl, rfl, rfl, rfl, rfl, rfl, trivial⟩) ⟨⟨h.1, hB⟩, h.2⟩
    ·skip
     refine CW.block ?_
     refine CW.seq ?_
     refine CW.region fun L hL => ?_
     refine LW.rd hL rfl (Wants.free rfl) rfl (Rd.move (v := .slice l1 l1n l1c) rfl) ?_
     refine LW.rd hL rfl (Wants.free rfl) rfl (Rd.move (v := .int .i64 i2) rfl) ?_
     obtain ⟨a2, he2, hi5, hi6, h⟩ := h
     refine LW.rd hL rfl (Wants.free rfl) rfl (Rd.iaS (q := a2) (sz := 3) (by rw [← he2]; rfl) rfl Tryz.underlying27 (by kernel_rfl) hi5 hi6) ?_
     refine LW.rd hL rfl (Wants.free rfl) rfl (Rd.fa (v := .pointer (some (a2.add (Int.toNat i2 * 3)))) rfl (fun _ => by kernel_rfl)) ?_
     obtain ⟨t4, t5, hc3, h⟩ := h
     refine LW.rd hL rfl (Wants.free rfl) rfl (Rd.ldN (cs := [.int .i64 t4, .int .i64 t5]) rfl (by kernel_rfl) (by kernel_rfl) (cellsS hc3)) ?_
     refine LW.rd hL rfl (Wants.free rfl) rfl (Rd.build (v := .agg #[.int .i64 0, .int .i64 0]) rfl (fun _ => by kernel_rfl)) ?_
     refine LW.rd hL rfl (Wants.free rfl) rfl (Rd.bin (v := .bool (!((t4 == 0) && (t5 == 0)))) rfl rfl (fun w => neS_62 _ _ _ _ w)) ?_
     refine LW.nil hL rfl ?_
     refine NW.then ?_
     refine CW.cond rfl (fun hb6 => ?_) (fun hb6 => ?_)
     ·replace h := h.1 hb6
      obtain ⟨w18, hw_w18⟩ : ∃ x, x = World.drew w16 := ⟨_, rfl⟩
      have hc_w18 := sil_drew (Chg.refl [] w16) hw_w18
      replace hB := hB.drew hw_w18
      replace h := h  w18  hc_w18
      obtain ⟨t6, t7, hc4, h⟩ := h
      obtain ⟨a3, he3, hi9, hi10, h⟩ := h
      obtain ⟨t8, hc5, h⟩ := h
      refine CW.drawn (fun w => CellsAt w (a2.add (Int.toNat i2 * 3)) 0 [.int .i64 t6, .int .i64 t7] ∧ w.cell? (a3.add (Int.toNat i2 * 1)) = some (.int .u32 t8) ∧ Boxes w [(b1, [.int .i64 c5, .int .i64 c6, .int .i64 c7, .slice c8 c8n c8c, .slice c9 c9n c9c], 43)]) 11 (by kernel_rfl) fun H hH => ?_
      rw [← hw_w18]
      have hS1 : CellsAt w18 (a2.add (Int.toNat i2 * 3)) 0 [.int .i64 t6, .int .i64 t7] ∧ w18.cell? (a3.add (Int.toNat i2 * 1)) = some (.int .u32 t8) ∧ Boxes w18 [(b1, [.int .i64 c5, .int .i64 c6, .int .i64 c7, .slice c8 c8n c8c, .slice c9 c9n c9c], 43)] := ⟨hc4, hc5, (hB.sel [0] (by decide) rfl)⟩
      refine HW.take (i := 0) hH rfl (by kernel_rfl) (by kernel_rfl) (Wants.free rfl) rfl (fun _ => hS1) (Rd.ldN (cs := [.int .i64 c5, .int .i64 c6, .int .i64 c7, .slice c8 c8n c8c, .slice c9 c9n c9c]) rfl (by kernel_rfl) (by kernel_rfl) (fun w h => cellsAt_get (box_cells (Boxes.at (i := 0) h.2.2 rfl) rfl))) ?_
      refine HW.pure (i := 1) hH rfl (by kernel_rfl) (Wants.free rfl) rfl (fun _ => hS1) (Rd.move (v := .slice l1 l1n l1c) rfl) ?_
      refine HW.pure (i := 2) hH rfl (by kernel_rfl) (Wants.free rfl) rfl (fun _ => hS1) (Rd.move (v := .int .i64 i2) rfl) ?_
      refine HW.pure (i := 3) hH rfl (by kernel_rfl) (Wants.free rfl) rfl (fun _ => hS1) (Rd.iaS (q := a2) (sz := 3) (by rw [← he2]; rfl) rfl Tryz.underlying27 (by kernel_rfl) hi5 hi6) ?_
      refine HW.pure (i := 4) hH rfl (by kernel_rfl) (Wants.free rfl) rfl (fun _ => hS1) (Rd.fa (v := .pointer (some (a2.add (Int.toNat i2 * 3)))) rfl (fun _ => by kernel_rfl)) ?_
      refine HW.take (i := 5) hH rfl (by kernel_rfl) (by kernel_rfl) (Wants.free rfl) rfl (fun _ => hS1) (Rd.ldN (cs := [.int .i64 t6, .int .i64 t7]) rfl (by kernel_rfl) (by kernel_rfl) (fun w h => cellsAt_get h.1)) ?_
      refine HW.pure (i := 6) hH rfl (by kernel_rfl) (Wants.free rfl) rfl (fun _ => hS1) (Rd.move (v := .slice sets1 sets1n sets1c) rfl) ?_
      refine HW.pure (i := 7) hH rfl (by kernel_rfl) (Wants.free rfl) rfl (fun _ => hS1) (Rd.move (v := .int .i64 i2) rfl) ?_
      refine HW.pure (i := 8) hH rfl (by kernel_rfl) (Wants.free rfl) rfl (fun _ => hS1) (Rd.iaS (q := a3) (sz := 1) (by rw [← he3]; rfl) rfl Tryz.underlying38 (by kernel_rfl) hi9 hi10) ?_
      refine HW.take (i := 9) hH rfl (by kernel_rfl) (by kernel_rfl) (Wants.free rfl) rfl (fun _ => hS1) (Rd.ld (v := .int .u32 t8) rfl (by kernel_rfl) (fun w h => h.2.1)) ?_
      refine HW.call (i := 10) hH (by kernel_rfl) rfl (Wants.free rfl) rfl (Cl.fn (f := 76) rfl Tryz.func76 (by kernel_rfl) rfl) h (fun e w19 h_ => ?_)
      clear h
      obtain ⟨r13, r14, r15, r16, r16n, r16c, r17, r17n, r17c, rfl, hS2, h⟩ := h_
      obtain ⟨hsm5, h⟩ := h
      replace hB := Boxes.sameS hB hsm5 (by simp)
      have hS3 := (⟨hS2.1, hS2.2, (hB.sel [0] (by decide) rfl)⟩ : CellsAt w19 (a2.add (Int.toNat i2 * 3)) 0 [.int .i64 t6, .int .i64 t7] ∧ w19.cell? (a3.add (Int.toNat i2 * 1)) = some (.int .u32 t8) ∧ Boxes w19 [(b1, [.int .i64 c5, .int .i64 c6, .int .i64 c7, .slice c8 c8n c8c, .slice c9 c9n c9c], 43)])
      refine ⟨_, rfl, (fun _ => hS3), ?_⟩
      obtain ⟨w20, hw_w20⟩ : ∃ x, x = setCells w19 (⟨b1, 0, none⟩ : Addr) 0 [.int .i64 r13, .int .i64 r14, .int .i64 r15, .slice r16 r16n r16c, .slice r17 r17n r17c] := ⟨_, rfl⟩
      refine HW.eff (i := 11) hH (by kernel_rfl) rfl (Wants.free rfl) rfl (stNE hw_w20 (Ef.stN (cs := [.int .i64 r13, .int .i64 r14, .int .i64 r15, .slice r16 r16n r16c, .slice r17 r17n r17c]) rfl rfl (by kernel_rfl) (List.forall_mem_cons.2 ⟨rfl, (List.forall_mem_cons.2 ⟨rfl, (List.forall_mem_cons.2 ⟨rfl, (List.forall_mem_cons.2 ⟨rfl, (List.forall_mem_cons.2 ⟨rfl, (List.forall_mem_nil _)⟩)⟩)⟩)⟩)⟩) (has_of (hB.at (i := 0) rfl) (by simp)) (free_of' (hB.at (i := 0) rfl)))) (fun hc => by cases hc) ?_
      replace hB : Boxes w20 [(b1, [.int .i64 r13, .int .i64 r14, .int .i64 r15, .slice r16 r16n r16c, .slice r17 r17n r17c], 43), (b2, [u1, u2, u3, u4, u5], 43)] := Boxes.store (vs := [.int .i64 r13, .int .i64 r14, .int .i64 r15, .slice r16 r16n r16c, .slice r17 r17n r17c]) (i := 0) (o := 0) hB rfl rfl rfl rfl hw_w20
      have hc_w20 : Chg [b1] w19 w20 := sil_more (Chg.refl [] w19) (sil_cN hw_w20)
      refine HW.done hH (by kernel_rfl) ?_
      refine NW.block ?_
      replace h := h  w20  hc_w20
      exact NW.cut (S := Int × Int × Int × (Option Addr) × Nat × Nat × (Option Addr) × Nat × Nat) (Ek := fun s4 => [(1, .slice l1 l1n l1c), (2, .pointer (some (⟨b1, 0, none⟩ : Addr))), (4, .pointer (some (⟨b2, 0, none⟩ : Addr))), (5, .int .i64 x1), (6, .slice sets1 sets1n sets1c), (12, .int .i64 i2)]) (r13, r14, r15, r16, r16n, r16c, r17, r17n, r17c) (by exact ⟨rfl, rfl, rfl, rfl, rfl, rfl, trivial⟩) ⟨h, hB⟩
     ·replace h := h.2 hb6
      refine CW.skip ?_
      refine NW.block ?_
      exact NW.cut (S := Int × Int × Int × (Option Addr) × Nat × Nat × (Option Addr) × Nat × Nat) (Ek := fun s4 => [(1, .slice l1 l1n l1c), (2, .pointer (some (⟨b1, 0, none⟩ : Addr))), (4, .pointer (some (⟨b2, 0, none⟩ : Addr))), (5, .int .i64 x1), (6, .slice sets1 sets1n sets1c), (12, .int .i64 i2)]) (c5, c6, c7, c8, c8n, c8c, c9, c9n, c9c) (by exact ⟨rfl, rfl, rfl, rfl, rfl, rfl, trivial⟩) ⟨h, hB⟩
   ·replace h := h.2 hb5
    refine CW.exit ?_
    refine XW.then ?_
    refine XW.then ?_
    refine XW.hit ?_
    refine NW.then ?_
    refine CW.seq ?_
    refine CW.region fun L hL => ?_
    refine LW.rd hL rfl (Wants.free rfl) rfl (Rd.ldN (cs := [.int .i64 c5, .int .i64 c6, .int .i64 c7, .slice c8 c8n c8c, .slice c9 c9n c9c]) rfl (by kernel_rfl) (by kernel_rfl) (cellsS (box_cells (hB.at (i := 0) rfl) rfl))) ?_
    obtain ⟨w21, hw_w21⟩ : ∃ x, x = setCells w16 (⟨b2, 0, none⟩ : Addr) 0 [.int .i64 c5, .int .i64 c6, .int .i64 c7, .slice c8 c8n c8c, .slice c9 c9n c9c] := ⟨_, rfl⟩
    refine LW.eff hL rfl (Wants.free rfl) rfl (stNE hw_w21 (Ef.stN (cs := [.int .i64 c5, .int .i64 c6, .int .i64 c7, .slice c8 c8n c8c, .slice c9 c9n c9c]) rfl rfl (by kernel_rfl) (List.forall_mem_cons.2 ⟨rfl, (List.forall_mem_cons.2 ⟨rfl, (List.forall_mem_cons.2 ⟨rfl, (List.forall_mem_cons.2 ⟨rfl, (List.forall_mem_cons.2 ⟨rfl, (List.forall_mem_nil _)⟩)⟩)⟩)⟩)⟩) (has_of (hB.at (i := 1) rfl) (by simp)) (free_of' (hB.at (i := 1) rfl)))) ?_
    replace hB : Boxes w21 [(b1, [.int .i64 c5, .int .i64 c6, .int .i64 c7, .slice c8 c8n c8c, .slice c9 c9n c9c], 43), (b2, [.int .i64 c5, .int .i64 c6, .int .i64 c7, .slice c8 c8n c8c, .slice c9 c9n c9c], 43)] := Boxes.store (vs := [.int .i64 c5, .int .i64 c6, .int .i64 c7, .slice c8 c8n c8c, .slice c9 c9n c9c]) (i := 1) (o := 0) hB rfl rfl rfl rfl hw_w21
    have hc_w21 : Chg [b2] w16 w21 := sil_more (Chg.refl [] w16) (sil_cN hw_w21)
    refine LW.rd hL rfl (Wants.free rfl) rfl (Rd.assign (v := .int .i64 0) rfl) ?_
    refine LW.nil hL rfl ?_
    refine NW.then ?_
    replace h := h  w21  hc_w21
    refine CW.ret ?_
    exact resN (vs := [.agg #[.int .i64 c5, .int .i64 c6, .int .i64 c7, .slice c8 c8n c8c, .slice c9 c9n c9c], .int .i64 0]) (ResOK.c rfl (lvN (cs := [.int .i64 c5, .int .i64 c6, .int .i64 c7, .slice c8 c8n c8c, .slice c9 c9n c9c]) (by kernel_rfl) (by kernel_rfl) (cellsAt_get (box_cells (hB.at (i := 1) rfl) rfl))) (ResOK.t rfl ResOK.nil)) rfl ⟨c5, c6, c7, c8, c8n, c8c, c9, c9n, c9c, 0, rfl, h⟩
/- pomander/pomanderref02.Join -/
def W_pomanderref02_Join (a1 : Int) (b1 : Int) (w : World) (R : Int → World → Prop) : Prop :=
 ∃ (I1 : Int → Int → Int → World → Prop) (m1 : Int → Int → Int → World → Nat), I1 0 1 0 w ∧ ∀ (out1 : Int) (p1 : Int) (i1 : Int) (w1 : World), I1 out1 p1 i1 w1 → ((decide (i1 < 16)) = true → ∃ J1 : Int → World → Prop, (∀ (out2 : Int) (w2 : World), J1 out2 w2 → (I1 out2 (IntKind.wrap .u32 (p1 * 2)) (IntKind.wrap .i64 (i1 + 1)) w2 ∧ m1 out2 (IntKind.wrap .u32 (p1 * 2)) (IntKind.wrap .i64 (i1 + 1)) w2 < m1 out1 p1 i1 w1)) ∧ (Calls Tryz.prog 84 #[.int .u32 a1, .int .i64 i1] w1 fun e w3 => ∃ (r2 : Bool), e = .returned (.bool r2) ∧ (∃ J2 : Bool → World → Prop, (∀ (b2 : Bool) (w4 : World), J2 b2 w4 → (b2 = true → J1 (IntKind.wrap .u32 (out1 + p1)) w4) ∧ (b2 = false → J1 out1 w4)) ∧ ((r2 = false → Calls Tryz.prog 84 #[.int .u32 b1, .int .i64 i1] w3 fun e w5 => ∃ (r3 : Bool), e = .returned (.bool r3) ∧ (J2 r3 w5)) ∧ (r2 = true → J2 true w3))))) ∧ ((decide (i1 < 16)) = false → R out1 w1)
set_option maxRecDepth 100000 in
theorem go_pomanderref02_Join (a1 : Int) (b1 : Int) (w : World) (R : Int → World → Prop) (h : W_pomanderref02_Join a1 b1 w R) : Calls Tryz.prog 85 #[.int .u32 a1, .int .u32 b1] w (fun e w' => ∃ (r1 : Int), e = .returned (.int .u32 r1) ∧ R r1 w') := by
 unfold W_pomanderref02_Join at h
 refine enter (N := 26) Tryz.func85 rfl rfl ?_
 refine CW.seq ?_
 refine CW.region fun L hL => ?_
 refine LW.rd hL rfl (Wants.free rfl) rfl (Rd.assign (v := .int .u32 0) rfl) ?_
 refine LW.nil hL rfl ?_
 refine NW.then ?_
 refine CW.seq ?_
 refine CW.region fun L hL => ?_
 refine LW.rd hL rfl (Wants.free rfl) rfl (Rd.assign (v := .int .u32 0) rfl) ?_
 refine LW.rd hL rfl (Wants.free rfl) rfl (Rd.assign (v := .int .u32 1) rfl) ?_
 refine LW.nil hL rfl ?_
 refine NW.then ?_
 refine CW.seq ?_
 refine CW.seq ?_
 refine CW.region fun L hL => ?_
 refine LW.rd hL rfl (Wants.free rfl) rfl (Rd.assign (v := .int .i64 0) rfl) ?_
 refine LW.nil hL rfl ?_
 refine NW.then ?_
 refine CW.block ?_
 obtain ⟨I1, m1, hI1, h⟩ := h
 refine CW.loop (S := Int × Int × Int) (fun s1 => [(0, .int .u32 a1), (1, .int .u32 b1), (4, .int .u32 0), (5, .int .u32 s1.1), (6, .int .u32 s1.2.1), (7, .int .i64 s1.2.2)]) (fun s1 w1 => I1 s1.1 s1.2.1 s1.2.2 w1) (fun s1 w1 => m1 s1.1 s1.2.1 s1.2.2 w1) (0, 1, 0) (by exact ⟨rfl, rfl, rfl, rfl, rfl, rfl, trivial⟩) hI1 (fun s1 w1 hI1 => ?_)
 obtain ⟨out1, p1, i1⟩ := s1; replace h := h out1 p1 i1 w1 hI1
 refine CW.seq ?_
 refine CW.seq ?_
 refine CW.region fun L hL => ?_
 refine LW.rd hL rfl (Wants.free rfl) rfl (Rd.move (v := .int .i64 i1) rfl) ?_
 refine LW.rd hL rfl (Wants.free rfl) rfl (Rd.bin (v := .bool (decide (i1 < 16))) rfl rfl (fun w => by kernel_rfl)) ?_
 refine LW.nil hL rfl ?_
 refine NW.then ?_
 refine CW.cond rfl (fun hb1 => ?_) (fun hb1 => ?_)
 ·replace h := h.1 hb1
  refine CW.skip ?_
  refine NW.then ?_
  refine CW.seq ?_
  refine CW.block ?_
  obtain ⟨J1, hJ1, h⟩ := h
  refine CW.cut (S := Int) (fun out2 => [(0, .int .u32 a1), (1, .int .u32 b1), (4, .int .u32 0), (6, .int .u32 p1), (7, .int .i64 i1), (5, .int .u32 out2)]) (fun out2 w2 => J1 out2 w2) (fun out2 w2 h_ => ?_) ?_
  ·replace h := hJ1 out2 w2 h_; clear h_
   refine CW.region fun L hL => ?_
   refine LW.rd hL rfl (Wants.free rfl) rfl (Rd.move (v := .int .u32 p1) rfl) ?_
   refine LW.rd hL rfl (Wants.free rfl) rfl (Rd.bin (v := .int .u32 (IntKind.wrap .u32 (p1 * 2))) rfl rfl (fun w => by kernel_rfl)) ?_
   refine LW.rd hL rfl (Wants.free rfl) rfl (Rd.assign (v := .int .u32 (IntKind.wrap .u32 (p1 * 2))) rfl) ?_
   refine LW.nil hL rfl ?_
   refine NW.block ?_
   refine NW.then ?_
   refine CW.region fun L hL => ?_
   refine LW.rd hL rfl (Wants.free rfl) rfl (Rd.move (v := .int .i64 i1) rfl) ?_
   refine LW.rd hL rfl (Wants.free rfl) rfl (Rd.bin (v := .int .i64 (IntKind.wrap .i64 (i1 + 1))) rfl rfl (fun w => by kernel_rfl)) ?_
   refine LW.rd hL rfl (Wants.free rfl) rfl (Rd.assign (v := .int .i64 (IntKind.wrap .i64 (i1 + 1))) rfl) ?_
   refine LW.nil hL rfl ?_
   exact NW.loop (S := Int × Int × Int) (Ek := fun s1 => [(0, .int .u32 a1), (1, .int .u32 b1), (4, .int .u32 0), (5, .int .u32 s1.1), (6, .int .u32 s1.2.1), (7, .int .i64 s1.2.2)]) (out2, IntKind.wrap .u32 (p1 * 2), IntKind.wrap .i64 (i1 + 1)) (by exact ⟨rfl, rfl, rfl, rfl, rfl, rfl, trivial⟩) h
  ·skip
   refine CW.seq ?_
   refine CW.region fun L hL => ?_
   refine LW.rd hL rfl (Wants.free rfl) rfl (Rd.move (v := .int .u32 a1) rfl) ?_
   refine LW.rd hL rfl (Wants.free rfl) rfl (Rd.move (v := .int .i64 i1) rfl) ?_
   refine LW.call hL rfl (Wants.free rfl) rfl (Cl.fn (f := 84) rfl Tryz.func84 (by kernel_rfl) rfl) h (fun e w3 h_ => ?_)
   clear h
   obtain ⟨r2, rfl, h⟩ := h_
   refine ⟨_, rfl, ?_⟩
   refine LW.rd hL rfl (Wants.free rfl) rfl (Rd.move (v := .bool r2) rfl) ?_
   obtain ⟨J2, hJ2, h1_J2, h0_J2⟩ := h
   suffices K1 : ∀ (b2 : Bool) (w4 : World), J2 b2 w4 → L 8 [(0, .int .u32 a1), (1, .int .u32 b1), (4, .int .u32 0), (5, .int .u32 out1), (6, .int .u32 p1), (7, .int .i64 i1), (19, .bool b2)] w4 by
    rcases Bool.eq_false_or_eq_true r2 with hb2 | hb2
    ·have h := h0_J2 hb2
     refine LW.skip hL rfl (Skips.on rfl rfl rfl rfl rfl hb2) rfl ?_
     refine LW.skip hL rfl (Skips.on rfl rfl rfl rfl rfl hb2) rfl ?_
     refine LW.skip hL rfl (Skips.on rfl rfl rfl rfl rfl hb2) rfl ?_
     refine LW.rd hL rfl (Wants.free rfl) rfl (Rd.pickT rfl hb2 rfl) ?_
     exact LW.sub hL (by exact ⟨rfl, rfl, rfl, rfl, rfl, rfl, rfl, trivial⟩) (K1 true w3 h)
    ·have h := h1_J2 hb2
     refine LW.rd hL rfl (Wants.on rfl rfl rfl rfl rfl hb2) rfl (Rd.move (v := .int .u32 b1) rfl) ?_
     refine LW.rd hL rfl (Wants.on rfl rfl rfl rfl rfl hb2) rfl (Rd.move (v := .int .i64 i1) rfl) ?_
     refine LW.call hL rfl (Wants.on rfl rfl rfl rfl rfl hb2) rfl (Cl.fn (f := 84) rfl Tryz.func84 (by kernel_rfl) rfl) h (fun e w5 h_ => ?_)
     clear h
     obtain ⟨r3, rfl, h⟩ := h_
     refine ⟨_, rfl, ?_⟩
     refine LW.rd hL rfl (Wants.free rfl) rfl (Rd.pickF rfl hb2 rfl) ?_
     exact LW.sub hL (by exact ⟨rfl, rfl, rfl, rfl, rfl, rfl, rfl, trivial⟩) (K1 r3 w5 h)
   intro b2 w4 h_
   have h := hJ2 b2 w4 h_; clear h_
   refine LW.nil hL rfl ?_
   refine NW.then ?_
   refine CW.cond rfl (fun hb3 => ?_) (fun hb3 => ?_)
   ·replace h := h.1 hb3
    refine CW.region fun L hL => ?_
    refine LW.rd hL rfl (Wants.free rfl) rfl (Rd.move (v := .int .u32 out1) rfl) ?_
    refine LW.rd hL rfl (Wants.free rfl) rfl (Rd.move (v := .int .u32 p1) rfl) ?_
    refine LW.rd hL rfl (Wants.free rfl) rfl (Rd.bin (v := .int .u32 (IntKind.wrap .u32 (out1 + p1))) rfl rfl (fun w => by kernel_rfl)) ?_
    refine LW.rd hL rfl (Wants.free rfl) rfl (Rd.assign (v := .int .u32 (IntKind.wrap .u32 (out1 + p1))) rfl) ?_
    refine LW.nil hL rfl ?_
    exact NW.cut (S := Int) (Ek := fun out2 => [(0, .int .u32 a1), (1, .int .u32 b1), (4, .int .u32 0), (6, .int .u32 p1), (7, .int .i64 i1), (5, .int .u32 out2)]) (IntKind.wrap .u32 (out1 + p1)) (by exact ⟨rfl, rfl, rfl, rfl, rfl, rfl, trivial⟩) h
   ·replace h := h.2 hb3
    refine CW.skip ?_
    exact NW.cut (S := Int) (Ek := fun out2 => [(0, .int .u32 a1), (1, .int .u32 b1), (4, .int .u32 0), (6, .int .u32 p1), (7, .int .i64 i1), (5, .int .u32 out2)]) out1 (by exact ⟨rfl, rfl, rfl, rfl, rfl, rfl, trivial⟩) h
 ·replace h := h.2 hb1
  refine CW.exit ?_
  refine XW.then ?_
  refine XW.then ?_
  refine XW.hit ?_
  refine NW.then ?_
  refine CW.seq ?_
  refine CW.region fun L hL => ?_
  refine LW.rd hL rfl (Wants.free rfl) rfl (Rd.move (v := .int .u32 out1) rfl) ?_
  refine LW.rd hL rfl (Wants.free rfl) rfl (Rd.assign (v := .int .u32 out1) rfl) ?_
  refine LW.nil hL rfl ?_
  refine NW.then ?_
  refine CW.ret ?_
  exact res1 rfl rfl ⟨out1, rfl, h⟩
/- pomander/pomanderref02.Bit -/
def W_pomanderref02_Bit (set1 : Int) (n1 : Int) (w : World) (R : Bool → World → Prop) : Prop :=
 ∃ (I1 : Int → Int → World → Prop) (m1 : Int → Int → World → Nat), I1 set1 0 w ∧ ∀ (set2 : Int) (i1 : Int) (w1 : World), I1 set2 i1 w1 → ((decide (i1 < n1)) = true → (I1 (IntKind.wrap .u32 (Int.tdiv set2 2)) (IntKind.wrap .i64 (i1 + 1)) w1 ∧ m1 (IntKind.wrap .u32 (Int.tdiv set2 2)) (IntKind.wrap .i64 (i1 + 1)) w1 < m1 set2 i1 w1)) ∧ ((decide (i1 < n1)) = false → R ((Int.tmod set2 2) == 1) w1)
set_option maxRecDepth 100000 in
theorem go_pomanderref02_Bit (set1 : Int) (n1 : Int) (w : World) (R : Bool → World → Prop) (h : W_pomanderref02_Bit set1 n1 w R) : Calls Tryz.prog 84 #[.int .u32 set1, .int .i64 n1] w (fun e w' => ∃ (r1 : Bool), e = .returned (.bool r1) ∧ R r1 w') := by
 unfold W_pomanderref02_Bit at h
 refine enter (N := 16) Tryz.func84 rfl rfl ?_
 refine CW.seq ?_
 refine CW.region fun L hL => ?_
 refine LW.rd hL rfl (Wants.free rfl) rfl (Rd.assign (v := .bool false) rfl) ?_
 refine LW.nil hL rfl ?_
 refine NW.then ?_
 refine CW.seq ?_
 refine CW.seq ?_
 refine CW.region fun L hL => ?_
 refine LW.rd hL rfl (Wants.free rfl) rfl (Rd.assign (v := .int .i64 0) rfl) ?_
 refine LW.nil hL rfl ?_
 refine NW.then ?_
 refine CW.block ?_
 obtain ⟨I1, m1, hI1, h⟩ := h
 refine CW.loop (S := Int × Int) (fun s1 => [(1, .int .i64 n1), (4, .bool false), (0, .int .u32 s1.1), (5, .int .i64 s1.2)]) (fun s1 w1 => I1 s1.1 s1.2 w1) (fun s1 w1 => m1 s1.1 s1.2 w1) (set1, 0) (by exact ⟨rfl, rfl, rfl, rfl, trivial⟩) hI1 (fun s1 w1 hI1 => ?_)
 obtain ⟨set2, i1⟩ := s1; replace h := h set2 i1 w1 hI1
 refine CW.seq ?_
 refine CW.seq ?_
 refine CW.region fun L hL => ?_
 refine LW.rd hL rfl (Wants.free rfl) rfl (Rd.move (v := .int .i64 i1) rfl) ?_
 refine LW.rd hL rfl (Wants.free rfl) rfl (Rd.move (v := .int .i64 n1) rfl) ?_
 refine LW.rd hL rfl (Wants.free rfl) rfl (Rd.bin (v := .bool (decide (i1 < n1))) rfl rfl (fun w => by kernel_rfl)) ?_
 refine LW.nil hL rfl ?_
 refine NW.then ?_
 refine CW.cond rfl (fun hb1 => ?_) (fun hb1 => ?_)
 ·replace h := h.1 hb1
  refine CW.skip ?_
  refine NW.then ?_
  refine CW.seq ?_
  refine CW.block ?_
  refine CW.region fun L hL => ?_
  refine LW.rd hL rfl (Wants.free rfl) rfl (Rd.move (v := .int .u32 set2) rfl) ?_
  refine LW.rd hL rfl (Wants.free rfl) rfl (Rd.bin (v := .int .u32 (IntKind.wrap .u32 (Int.tdiv set2 2))) rfl rfl (fun w => by kernel_rfl)) ?_
  refine LW.rd hL rfl (Wants.free rfl) rfl (Rd.assign (v := .int .u32 (IntKind.wrap .u32 (Int.tdiv set2 2))) rfl) ?_
  refine LW.nil hL rfl ?_
  refine NW.block ?_
  refine NW.then ?_
  refine CW.region fun L hL => ?_
  refine LW.rd hL rfl (Wants.free rfl) rfl (Rd.move (v := .int .i64 i1) rfl) ?_
  refine LW.rd hL rfl (Wants.free rfl) rfl (Rd.bin (v := .int .i64 (IntKind.wrap .i64 (i1 + 1))) rfl rfl (fun w => by kernel_rfl)) ?_
  refine LW.rd hL rfl (Wants.free rfl) rfl (Rd.assign (v := .int .i64 (IntKind.wrap .i64 (i1 + 1))) rfl) ?_
  refine LW.nil hL rfl ?_
  exact NW.loop (S := Int × Int) (Ek := fun s1 => [(1, .int .i64 n1), (4, .bool false), (0, .int .u32 s1.1), (5, .int .i64 s1.2)]) (IntKind.wrap .u32 (Int.tdiv set2 2), IntKind.wrap .i64 (i1 + 1)) (by exact ⟨rfl, rfl, rfl, rfl, trivial⟩) h
 ·replace h := h.2 hb1
  refine CW.exit ?_
  refine XW.then ?_
  refine XW.then ?_
  refine XW.hit ?_
  refine NW.then ?_
  refine CW.seq ?_
  refine CW.region fun L hL => ?_
  refine LW.rd hL rfl (Wants.free rfl) rfl (Rd.move (v := .int .u32 set2) rfl) ?_
  refine LW.rd hL rfl (Wants.free rfl) rfl (Rd.bin (v := .int .u32 (Int.tmod set2 2)) rfl rfl (fun w => by kernel_rfl)) ?_
  refine LW.rd hL rfl (Wants.free rfl) rfl (Rd.bin (v := .bool ((Int.tmod set2 2) == 1)) rfl rfl (fun w => by kernel_rfl)) ?_
  refine LW.rd hL rfl (Wants.free rfl) rfl (Rd.assign (v := .bool ((Int.tmod set2 2) == 1)) rfl) ?_
  refine LW.nil hL rfl ?_
  refine NW.then ?_
  refine CW.ret ?_
  exact res1 rfl rfl ⟨(Int.tmod set2 2) == 1, rfl, h⟩
end Go.Proofs.YtfcfkhbkkfpehaaGreat
end
section
/- Flows: Apply. -/
namespace Go.Proofs.YtfcfkhbkkfpehaaGreat
open Go Go.RowKit Go.X
theorem keepAll_now {most : Int} {g : Int × Int → Int} {sets : List Int} (ts : List Tch) : ∀ x ∈ (keepAll most g ts sets).2.1, ∃ t ∈ ts, t.1 = x.1 ∧ t.1 ≠ (0, 0) ∧ x.2 = joinP g t.2 := by
 have : ∀ (ts us : List Tch) (s : List Int × List Pr × Int), (∀ x ∈ s.2.1, ∃ t ∈ us, t.1 = x.1 ∧ t.1 ≠ (0, 0) ∧ x.2 = joinP g t.2) →
   ∀ x ∈ (ts.foldl (keepStep most g) s).2.1, ∃ t ∈ us ++ ts, t.1 = x.1 ∧ t.1 ≠ (0, 0) ∧ x.2 = joinP g t.2 := by
  intro ts
  induction ts with
  | nil => intro us s h x hx; simpa using h x hx
  | cons t ts ih =>
   intro us s h x hx
   have := ih (us ++ [t]) (keepStep most g s t) (fun x hx => by
    unfold keepStep at hx
    split at hx
    ·obtain ⟨u, hu, r⟩ := h x hx
     exact ⟨u, List.mem_append_left _ hu, r⟩
    ·rename_i hn
     split at hx
     ·obtain ⟨u, hu, r⟩ := h x hx
      exact ⟨u, List.mem_append_left _ hu, r⟩
     ·rcases mem_upd hx with rfl | hx
      ·exact ⟨t, by simp, rfl, fun e => hn (.inr e), rfl⟩
      ·obtain ⟨u, hu, r⟩ := h x hx
       exact ⟨u, List.mem_append_left _ hu, r⟩) x hx
   simpa using this
 exact this ts [] (sets, [], 0) (by simp)
def ApplyInv (w : World) (b b1 : Nat) (F : Fl) (fp : List Nat) (ts : List Tch) (w' : World) : Prop :=
 (keepAll F.most F.g ts F.sets).2.2 = 0 ∧ ∃ fp', FlowAt w' b { F with sets := (keepAll F.most F.g ts F.sets).1 } fp' ∧ Chg fp w w' ∧ (∀ i ∈ fp', i ∈ fp ∨ (w.heap.size ≤ i ∧ i ≠ b1)) ∧
  MapIs w' b1 encP (fun n : Int => .int .u32 n) (keepAll F.most F.g ts F.sets).2.1
theorem flow_apply {w : World} {b : Nat} {F : Fl} {fp : List Nat} (h : FlowAt w b F fp) {S : Nat → Prop} {p : Option Addr} {n c : Nat} {ts : List Tch} (hp : TouchesAt w S p n ts) (hS : ∀ i ∈ fp, ¬ S i) (hn : n ≤ 9223372036854775807) (hin : ∀ t ∈ ts, t.2.length ≤ 9223372036854775807) :
  Calls Tryz.prog 32 #[.pointer (some ⟨b, 0, none⟩), .slice p n c] w fun e w' => ∃ r : Int, e = .returned (.int .i64 r) ∧
   (r = applyE F ts ∧ ∃ fp', FlowAt w' b (applyF F ts) fp' ∧ Chg fp w w' ∧ ∀ i ∈ fp', i ∈ fp ∨ w.heap.size ≤ i) := by
 have hlt0 := h.lt
 refine go_flow_Flow_Apply _ _ _ _ _ _ ?_
 unfold W_flow_Flow_Apply
 refine (flow_none h).mono ?_
 rintro _ w1 ⟨_, rfl, rfl, hw⟩
 subst w1
 refine ⟨_, rfl, fun h => by simp at h, fun _ => ?_⟩
 refine (flow_right (c := c) h hp hn hin).mono ?_
 rintro _ w2 ⟨_, rfl, rfl, c2⟩
 refine ⟨_, rfl, fun hb => ?_, fun hb => ?_⟩
 ·have hb' : ¬ rightAll F.fr F.se ts := by simpa [rightAll] using hb
  refine ⟨by unfold applyE; rw [if_neg hb'], fp, ?_, c2.nil, fun i hi => .inl hi⟩
  unfold applyF; rw [if_neg hb']; exact h.chg c2 (by simp)
 have hr : rightAll F.fr F.se ts := by simpa [rightAll] using hb
 refine v_alloc fun b1 w3 eb1 hb1 c3 => ?_
 have c03 := c2.trans0 c3
 have s2 := c2.size
 have hM0 : MapIs w3 b1 encP (fun n : Int => .int .u32 n) ([] : List Pr) := ⟨#[], 0, hb1, rfl, by simp, by simp, by simp⟩
 have hb1fp : b1 ∉ fp := fun hm => by have := hlt0 _ hm; omega
 refine ⟨fun _ x w' => ∃ j : Nat, x = (j : Int) ∧ j ≤ n ∧ ApplyInv w b b1 F fp (ts.take j) w', fun _ x _ => (n - x).toNat, ⟨0, rfl, by omega, rfl, fp, h.chg c03 (by simp), c03.nil, fun i hi => .inl hi, hM0⟩, ?_⟩
 rintro x1 _ w4 ⟨j, rfl, hj, h0, fp4, hF4, c4, hf4, hM4⟩
 have hlt4 := hF4.lt
 have hb14 : b1 ∉ fp4 := fun hm => by
  rcases hf4 _ hm with h | h
  ·exact hb1fp h
  ·exact h.2 rfl
 refine ⟨fun hlt => ?_, fun hge => ?_⟩
 ·have hlt' : j < n := by simpa using hlt
  obtain ⟨t, hj'⟩ := get_of (l := ts) (j := j) (by rw [hp.length]; exact hlt')
  have hmem : t ∈ ts := List.mem_of_getElem? hj'
  obtain ⟨k1, k2, a, q, qn, qc, rfl, ha, hc, hps⟩ := (hp.chg c4 hS).each j _ hj'
  refine ⟨fun _ w' => ApplyInv w b b1 F fp (ts.take (j + 1)) w', fun x w5 h5 => ?_, a, rfl, by omega, by omega, t.1.1, t.1.2, q, qn, qc, by simpa using hc, fun b2 w7 l7 c7 => ⟨fun he => ?_, fun hne => ?_⟩⟩
  ·rw [wr (by omega) (by omega)]
   exact ⟨⟨j + 1, by omega, by omega, h5⟩, by simp only []; omega⟩
  ·have he' : t.1 = (0, 0) := by
    have : t.1.1 = 0 ∧ t.1.2 = 0 := by simpa using he
    exact Prod.ext this.1 this.2
   unfold ApplyInv
   rw [take_snoc hj', keepAll_snoc]
   unfold keepStep
   rw [if_pos (.inr he')]
   exact ⟨h0, fp4, hF4.chg c7 (by simp), c4.trans c7 (by simp), hf4, hM4.chg c7 (by simp)⟩
  have hne' : t.1 ≠ (0, 0) := by
   intro e; rw [e] at hne; simp at hne
  refine (flow_together (c := qc) (hF4.chg c7 (by simp)) (hps.chg c7 (by simp)) (by rw [← hps.length]; exact hin t hmem)).mono ?_
  rintro _ w8 ⟨_, rfl, rfl, c8⟩
  simp only []
  have hu := joinP_u16 (fun p => h.each p) t.2
  refine ⟨_, rfl, Same.chg c8 (by simp; omega), ?_⟩
  have s8 := c8.size
  have hF8 := (hF4.chg c7 (by simp)).chg c8 (by simp)
  refine (flow_keep hF8 hu.1).mono ?_
  rintro _ w9 ⟨r5, rfl, rfl, fp9, hF9, c9, hf9⟩
  have s4 := c4.size
  have s7 := c7.size
  have c49 : Chg fp4 w4 w9 := ((c7.trans0 c8).nil).trans c9 (fun i hi _ => hi)
  have hf49 : ∀ i ∈ fp9, i ∈ fp4 ∨ w4.heap.size ≤ i := fun i hi => by
   rcases hf9 i hi with h | h
   ·exact .inl h
   ·exact .inr (by omega)
  obtain ⟨c09, hf09⟩ := grow_trans (fp := fp) (fp' := fp4) c4 (fun i hi => (hf4 i hi).imp id And.left) c49 hf49
  have hl4 : b1 < w4.heap.size := hM4.lt
  have hf9' : ∀ i ∈ fp9, i ∈ fp ∨ (w.heap.size ≤ i ∧ i ≠ b1) := fun i hi => by
   rcases hf49 i hi with h | h
   ·exact hf4 i h
   ·exact .inr ⟨by omega, by omega⟩
  refine ⟨_, rfl, Same.of c9 (by simp; exact ⟨by omega, fun hm => by have := hlt4 _ hm; omega⟩), fun hbad => ?_, fun hz => ?_⟩
  ·have hbad' : keepE F.most (keepAll F.most F.g (ts.take j) F.sets).1 (joinP F.g t.2) ≠ 0 := by simpa using hbad
   have hs : keepAll F.most F.g (ts.take (j + 1)) F.sets = ((keepAll F.most F.g (ts.take j) F.sets).1, (keepAll F.most F.g (ts.take j) F.sets).2.1, keepE F.most (keepAll F.most F.g (ts.take j) F.sets).1 (joinP F.g t.2)) := by
    rw [take_snoc hj', keepAll_snoc]; unfold keepStep
    rw [if_neg (by rintro (h | h); exact h h0; exact hne' h), if_pos hbad']
   have hall : keepAll F.most F.g ts F.sets = keepAll F.most F.g (ts.take (j + 1)) F.sets := by
    have := keepAll_bad (most := F.most) (g := F.g) (ts := ts.take (j + 1)) (us := ts.drop (j + 1)) (sets := F.sets) (by rw [hs]; exact hbad')
    rwa [List.take_append_drop] at this
   refine ⟨?_, fp9, ?_, c09, hf09⟩
   ·unfold applyE; rw [if_pos hr, hall, hs]
   ·unfold applyF; rw [if_pos hr, hall, hs]
    simp only [if_neg hbad']
    rw [keepS_bad hbad'] at hF9; exact hF9
  have hz' : keepE F.most (keepAll F.most F.g (ts.take j) F.sets).1 (joinP F.g t.2) = 0 := by simpa using hz
  have hM9 := ((hM4.chg c7 (by simp)).chg c8 (by simp)).chg c9 hb14
  obtain ⟨w10, hu10, c10, hs10, hM10⟩ := hM9.update (P := Tryz.prog) (T := 99) u143 keyPlace (t.1.1, t.1.2) (joinP F.g t.2)
  refine ⟨w10, hu10, ?_⟩
  unfold ApplyInv
  rw [take_snoc hj', keepAll_snoc]
  unfold keepStep
  rw [if_neg (by rintro (h | h); exact h h0; exact hne' h), if_neg (by rw [hz']; simp)]
  exact ⟨rfl, fp9, hF9.chg c10 (fun i hi hm => by
   simp at hm; subst hm
   rcases hf9' _ hi with h | h
   ·exact hb1fp h
   ·exact h.2 rfl), c09.trans c10 (fun i hi hlt => by simp at hi; omega), hf9', hM10⟩
 have hge' : ¬ j < n := by simpa using hge
 have htk : ts.take j = ts := List.take_of_length_le (by rw [hp.length]; omega)
 rw [htk] at h0 hF4 hM4
 obtain ⟨it, w11, hrg, c11, hit, hI11⟩ := iter_range (P := Tryz.prog) (T := 99) hM4 u143
 have s4 := c4.size
 have hl4 : b1 < w4.heap.size := hM4.lt
 have hne1 : it ≠ b1 := by omega
 have hitfp : it ∉ fp4 := fun hm => by have := hlt4 _ hm; omega
 have hE : applyE F ts = 0 := by unfold applyE; rw [if_pos hr, h0]
 refine ⟨_, w11, hrg, ?_⟩
 refine ⟨fun w' => ∃ done fp', FlowAt w' b { F with sets := (keepAll F.most F.g ts F.sets).1, g := overP F.g done } fp' ∧ IterAt w' it b1 encP (fun n : Int => .int .u32 n) (keepAll F.most F.g ts F.sets).2.1 done ∧ Chg fp w w' ∧ (∀ i ∈ fp', i ∈ fp ∨ (w.heap.size ≤ i ∧ i ≠ b1 ∧ i ≠ it)),
  fun w' => (keepAll F.most F.g ts F.sets).2.1.length - seenN w' it, ⟨[], fp4, by rw [overP_nil]; exact hF4.chg c11 (by simp), hI11, c4.trans c11 (by simp), fun i hi => ?_⟩, ?_⟩
 ·rcases hf4 i hi with h | h
  ·exact .inl h
  ·exact .inr ⟨h.1, h.2, fun e => hitfp (e ▸ hi)⟩
 rintro w12 ⟨done, fp12, hF12, hI12, c12, hf12⟩
 have hlt12 := hF12.lt
 rcases iter_next (P := Tryz.prog) hI12 hne1 keyPlace.inj 0 with ⟨hnx, hall⟩ | ⟨k, v, w13, hkl, hnew, hrun, c13, hI13, hent⟩
 ·refine ⟨_, false, w12, hnx, rfl, fun h => by simp at h, fun _ => ⟨hE.symm, fp12, ?_, c12, fun i hi => (hf12 i hi).imp id And.left⟩⟩
  unfold applyF
  rw [if_pos hr, if_pos h0]
  have : overP F.g done = overP F.g (keepAll F.most F.g ts F.sets).2.1 := by
   funext q; unfold overP; rw [hI12.end_look hall q]
  rw [← this]; exact hF12
 ·refine ⟨_, true, w13, hrun, rfl, fun _ => ?_, fun h => by simp at h⟩
  refine ⟨k.1, k.2, v, hent, fun b3 w15 l15 c15 => ?_⟩
  obtain ⟨t, ht, e1, e2, e3⟩ := keepAll_now ts _ hkl
  simp only [] at e1 e3
  have hmay : mayP F.fr F.se k := by
   have := (hr t ht).1
   rw [e1] at this e2
   exact this.resolve_left e2
  have hu := joinP_u16 (fun p => h.each p) t.2
  rw [← e3] at hu
  have hit12 : it ∉ fp12 := fun hm => by
   rcases hf12 _ hm with h | h
   ·have := hlt0 _ h; omega
   ·exact h.2.2 rfl
  have hF15 := (hF12.chg c13 (fun i hi hm => by simp at hm; exact hit12 (hm ▸ hi))).chg c15 (by simp)
  refine (flow_put (p1 := k.1) (p2 := k.2) hF15 hmay hu.1 hu.2).mono ?_
  rintro _ w16 ⟨rfl, fp16, hF16, c16, hf16⟩
  have s12 := c12.size
  have s13 := c13.size
  have s15 := c15.size
  have c1216 : Chg (it :: fp12) w12 w16 := ((c13.mono (g := it :: fp12) (by simp)).trans c15 (by simp)).trans c16 (fun i hi _ => by simp [hi])
  have c016 : Chg fp w w16 := c12.trans c1216 (fun i hi hlt => by
   rcases List.mem_cons.1 hi with rfl | hi
   ·omega
   ·exact (hf12 i hi).resolve_right (fun h => by omega))
  have hb112 : b1 ∉ fp12 := fun hm => by
   rcases hf12 _ hm with h | h
   ·exact hb1fp h
   ·exact h.2.1 rfl
  have hI16 := (hI13.chg c15 (by simp) (by simp)).chg c16 hit12 hb112
  refine ⟨rfl, ⟨done ++ [(k, v)], fp16, ?_, hI16, c016, fun i hi => ?_⟩, ?_⟩
  ·have : overP F.g (done ++ [(k, v)]) = putP (overP F.g done) (k.1, k.2) v := by
    rw [← overP_upd]
    funext q
    unfold overP
    have hn : lookK (k.1, k.2) done = none := lookK_none.2 (fun p hp e => hnew (List.mem_map.2 ⟨p, hp, e⟩))
    unfold upd
    rw [hn]; rfl
   rw [this]; exact hF16
  ·have hl16 : it < w12.heap.size := by
    obtain ⟨es, clk, since, c0, seen, ds, h1, _⟩ := hI12
    exact lt_of_heap h1
   rcases hf16 i hi with h | h
   ·exact hf12 i h
   ·refine .inr ⟨by omega, by omega, by omega⟩
  ·have a1 := hI12.count
   have a2 := hI16.count
   have a3 := hI12.more hkl hnew
   simp at a2
   simp only []
   omega
theorem _root_.Go.X.CellsAt.third {w : World} {q : Addr} {a b c : Value} (h : CellsAt w q 0 [a, b, c]) : w.cell? (q.add 2) = some c := h.2.2.1
end Go.Proofs.YtfcfkhbkkfpehaaGreat
end
section
/- The laws' helpers: broad, made. -/
namespace Go.Proofs.YtfcfkhbkkfpehaaGreat
open Go Go.RowKit Go.X
def broadP (m : Nat) (ts : List Tch) : Prop := 30 < m ∨ 20 < ts.length ∨ ∃ t ∈ ts, 20 < t.2.length
instance (m : Nat) (ts : List Tch) : Decidable (broadP m ts) := by unfold broadP; exact inferInstance
theorem refMark_shape (R : Rf) (p : Int × Int) (n set : Int) : (refMark R p n set).fr = R.fr ∧ (refMark R p n set).se = R.se ∧ (refMark R p n set).most = R.most := by
 unfold refMark; split <;> exact ⟨rfl, rfl, rfl⟩
theorem keepS_ne {most : Int} {sets : List Int} (h : sets ≠ []) (set : Int) : keepS most sets set ≠ [] := by
 unfold keepS; split
 ·exact h
 ·simp
theorem refMark_ne {R : Rf} (h : R.sets ≠ []) (p : Int × Int) (n set : Int) : (refMark R p n set).sets ≠ [] := by
 unfold refMark; split
 ·exact keepS_ne h set
 ·exact h
end Go.Proofs.YtfcfkhbkkfpehaaGreat
end
section
/- Acts on flows: what they are, what they do; the laws' helpers vast, broad, known, does. -/
namespace Go.Proofs.YtfcfkhbkkfpehaaGreat
open Go Go.RowKit Go.X
structure ActV where
 kind : Int
 n : Int
 p : Int × Int
 set : Int
 ts : List Tch
def stepF (F : Fl) (a : ActV) : Fl := if a.kind = 1 then markF F a.p a.n a.set else applyF F a.ts
def stepR (R : Rf) (a : ActV) : Rf := if a.kind = 1 then refMark R a.p a.n a.set else refApply R a.ts
theorem RelF.step {F : Fl} {R : Rf} (h : RelF F R) (a : ActV) : RelF (stepF F a) (stepR R a) := by
 unfold stepF stepR
 split
 ·exact h.mark _ _ _
 ·exact h.apply _
structure ActAt (w : World) (S : Nat → Prop) (q : Option Addr) (qn qc : Nat) (a : ActV) : Prop where
 p : i64s a.p.1 ∧ i64s a.p.2
 set : 0 ≤ a.set ∧ a.set < 4294967296
 n : i64s a.n
 ts : TouchesAt w S q qn a.ts
 qn : qn ≤ maxLen
 inner : ∀ t ∈ a.ts, t.2.length ≤ maxLen
structure ActsAt (w : World) (S : Nat → Prop) (p : Option Addr) (n : Nat) (acts : List ActV) : Prop where
 length : acts.length = n
 each : ∀ (j : Nat) (a : ActV), acts[j]? = some a → ∃ b q qn qc, p = some b ∧ S b.block ∧ CellsAt w (b.add (j * 6)) 0 [.int .i64 a.kind, .int .i64 a.n, .int .i64 a.p.1, .int .i64 a.p.2, .int .u32 a.set, .slice q qn qc] ∧ ActAt w S q qn qc a
theorem ActAt.chg {w w' : World} {S : Nat → Prop} {q : Option Addr} {qn qc : Nat} {a : ActV} {f : List Nat} (h : ActAt w S q qn qc a) (hc : Chg f w w') (hf : ∀ i ∈ f, ¬ S i) : ActAt w' S q qn qc a :=
 { h with ts := h.ts.chg hc hf }
theorem ActsAt.chg {w w' : World} {S : Nat → Prop} {p : Option Addr} {n : Nat} {acts : List ActV} {f : List Nat} (h : ActsAt w S p n acts) (hc : Chg f w w') (hf : ∀ i ∈ f, ¬ S i) : ActsAt w' S p n acts :=
 ⟨h.length, fun j a hj => let ⟨b, q, qn, qc, h1, h2, h3, h4⟩ := h.each j a hj; ⟨b, q, qn, qc, h1, h2, hc.cells (by rw [add_block]; exact fun hm => hf _ hm h2) h3, h4.chg hc hf⟩⟩
def broadT (ts : List Tch) : Prop := 20 < ts.length ∨ ∃ t ∈ ts, 20 < t.2.length
instance (ts : List Tch) : Decidable (broadT ts) := by unfold broadT; exact inferInstance
def vastA (acts : List ActV) : Prop := 30 < acts.length ∨ ∃ a ∈ acts, (200 < a.n ∧ a.n ≤ 65536) ∨ broadT a.ts
instance (acts : List ActV) : Decidable (vastA acts) := by unfold vastA; exact inferInstance
theorem broad12 {w : World} {S : Nat → Prop} {p : Option Addr} {n c : Nat} {ts : List Tch} (hp : TouchesAt w S p n ts) (hn : n ≤ maxLen) :
    Calls Tryz.prog 56 #[.slice p n c] w fun e w' => ∃ r : Bool, e = .returned (.bool r) ∧ (r = decide (broadT ts) ∧ w' = w) := by
  have hl := hp.length
  simp only [maxLen] at hn
  refine go_pomanderlaw12_broad _ _ _ _ _ ?_
  unfold W_pomanderlaw12_broad
  refine ⟨fun h => ⟨?_, rfl⟩, fun h => ?_⟩
  · have h' : 20 < n := by have : (20 : Int) < n := by simpa using h
                           omega
    symm; rw [decide_eq_true_eq]; exact .inl (by omega)
  have h' : ¬ 20 < n := by have : ¬ (20 : Int) < n := by simpa using h
                           omega
  refine ⟨fun _ i w' => ∃ j : Nat, i = (j : Int) ∧ j ≤ n ∧ (∀ t ∈ ts.take j, t.2.length ≤ 20) ∧ w' = w, fun _ i _ => (n - i).toNat, ⟨0, rfl, by omega, by simp, rfl⟩, ?_⟩
  rintro x _ w1 ⟨j, rfl, hj, hall, hw⟩
  subst w1
  refine ⟨fun hlt => ?_, fun hge => ?_⟩
  · have hlt' : j < n := by simpa using hlt
    obtain ⟨t, hx⟩ := get_of (l := ts) (j := j) (by omega)
    obtain ⟨k1, k2, a, q, qn, qc, rfl, ha, hc, hps⟩ := hp.each j _ hx
    have hq := hps.length
    refine ⟨a, rfl, by omega, by omega, q, qn, qc, by simpa using CellsAt.third hc, fun hb => ⟨?_, rfl⟩, fun hb => ?_⟩
    · have hb' : 20 < qn := by have : (20 : Int) < qn := by simpa using hb
                               omega
      symm; rw [decide_eq_true_eq]; exact .inr ⟨t, List.mem_of_getElem? hx, by omega⟩
    · have hb' : ¬ 20 < qn := by have : ¬ (20 : Int) < qn := by simpa using hb
                                 omega
      rw [wr (by omega) (by omega)]
      refine ⟨⟨j + 1, by omega, by omega, ?_, rfl⟩, by simp only []; omega⟩
      rw [take_snoc hx]
      intro z hz
      rcases List.mem_append.1 hz with hz | hz
      · exact hall z hz
      · simp at hz; subst hz; omega
  · have hge' : ¬ j < n := by simpa using hge
    rw [List.take_of_length_le (by omega)] at hall
    refine ⟨?_, rfl⟩
    symm; rw [decide_eq_false_iff_not]
    rintro (hh | ⟨t, ht, hh⟩)
    · omega
    · have := hall t ht; omega
theorem act_cells {w : World} {q : Addr} {a b c d e f : Value} (h : CellsAt w q 0 [a, b, c, d, e, f]) : w.cell? (q.add 1) = some b ∧ w.cell? (q.add 5) = some f := ⟨h.2.1, h.2.2.2.2.2.1⟩
theorem vast_ok {w : World} {S : Nat → Prop} {p : Option Addr} {n c : Nat} {acts : List ActV} (hp : ActsAt w S p n acts) (hn : n ≤ maxLen) :
    Calls Tryz.prog 24 #[.slice p n c] w fun e w' => ∃ r : Bool, e = .returned (.bool r) ∧ (r = decide (vastA acts) ∧ w' = w) := by
  have hl := hp.length
  simp only [maxLen] at hn
  refine go_pomanderlaw12_vast _ _ _ _ _ ?_
  unfold W_pomanderlaw12_vast
  refine ⟨fun h => ⟨?_, rfl⟩, fun h => ?_⟩
  · have h' : 30 < n := by have : (30 : Int) < n := by simpa using h
                           omega
    symm; rw [decide_eq_true_eq]; exact .inl (by omega)
  have h' : ¬ 30 < n := by have : ¬ (30 : Int) < n := by simpa using h
                           omega
  refine ⟨fun _ i w' => ∃ j : Nat, i = (j : Int) ∧ j ≤ n ∧ (∀ a ∈ acts.take j, ¬ ((200 < a.n ∧ a.n ≤ 65536) ∨ broadT a.ts)) ∧ w' = w, fun _ i _ => (n - i).toNat, ⟨0, rfl, by omega, by simp, rfl⟩, ?_⟩
  rintro x _ w1 ⟨j, rfl, hj, hall, hw⟩
  subst w1
  refine ⟨fun hlt => ?_, fun hge => ?_⟩
  · have hlt' : j < n := by simpa using hlt
    obtain ⟨t, hx⟩ := get_of (l := acts) (j := j) (by omega)
    obtain ⟨b, q, qn, qc, rfl, hb, hc, hA⟩ := hp.each j _ hx
    obtain ⟨hc1, hc5⟩ := act_cells hc
    refine ⟨b, rfl, by omega, by omega, t.n, by simpa using hc1, fun b1 w' => w' = w ∧ b1 = decide (200 < t.n ∧ t.n ≤ 65536), ?_, fun hh => ⟨rfl, ?_⟩, fun hh => ⟨rfl, ?_⟩⟩
    rotate_left
    · have hh' : 200 < t.n := by simpa using hh
      exact decide_eq_decide.2 ⟨fun h => ⟨hh', h⟩, And.right⟩
    · have hh' : ¬ 200 < t.n := by simpa using hh
      symm; rw [decide_eq_false_iff_not]; exact fun h => hh' h.1
    rintro b1 w2 ⟨hw, rfl⟩
    subst w2
    refine ⟨fun b2 w' => w' = w ∧ b2 = decide ((200 < t.n ∧ t.n ≤ 65536) ∨ broadT t.ts), ?_, fun hh => ?_, fun hh => ⟨rfl, ?_⟩⟩
    rotate_left
    · rw [decide_eq_false_iff_not] at hh
      refine ⟨q, qn, qc, by simpa using hc5, ?_⟩
      refine (broad12 (c := qc) hA.ts hA.qn).mono ?_
      rintro _ w4 ⟨_, rfl, rfl, hw⟩
      exact ⟨_, rfl, hw, decide_eq_decide.2 ⟨.inr, fun h => h.resolve_left hh⟩⟩
    · rw [decide_eq_true_eq] at hh
      symm; rw [decide_eq_true_eq]; exact .inl hh
    rintro b2 w3 ⟨hw, rfl⟩
    subst w3
    refine ⟨fun hh => ⟨?_, rfl⟩, fun hh => ?_⟩
    · rw [decide_eq_true_eq] at hh
      symm; rw [decide_eq_true_eq]; exact .inr ⟨t, List.mem_of_getElem? hx, hh⟩
    · rw [decide_eq_false_iff_not] at hh
      rw [wr (by omega) (by omega)]
      refine ⟨⟨j + 1, by omega, by omega, ?_, rfl⟩, by simp only []; omega⟩
      rw [take_snoc hx]
      intro z hz
      rcases List.mem_append.1 hz with hz | hz
      · exact hall z hz
      · simp at hz; subst hz; exact hh
  · have hge' : ¬ j < n := by simpa using hge
    rw [List.take_of_length_le (by omega)] at hall
    refine ⟨?_, rfl⟩
    symm; rw [decide_eq_false_iff_not]
    rintro (hh | ⟨t, ht, hh⟩)
    · omega
    · exact hall t ht hh
theorem known12 (w : World) : Calls Tryz.prog 25 #[] w fun e w' => ∃ r : Bool, e = .returned (.bool r) ∧ (r = true ∧ Chg [] w w') := by
 refine go_pomanderlaw12_known _ _ ?_
 unfold W_pomanderlaw12_known
 refine (flow_new w 1 1 4).mono ?_
 rintro _ w1 ⟨r2, r3, rfl, c1, hr⟩
 rw [if_pos (by unfold rightP; decide)] at hr
 obtain ⟨rfl, b, fp, rfl, hF, hfp⟩ := hr
 refine ⟨_, _, rfl, ?_⟩
 intro b2 b1 w5 l2 l1 c5
 have hlt := hF.lt
 have s1 := c1.size
 have s5 := c5.size
 refine (flow_mark (hF.chg c5 (by simp)) (p1 := 13) (p2 := 0) (n := 2) (set := 1) (by unfold i64s; omega) (by omega)).mono ?_
 rintro _ w6 ⟨_, rfl, rfl, fp6, hF6, c6, hf6⟩
 have s6 := c6.size
 have hlt6 := hF6.lt
 refine ⟨_, rfl, Same.of c6 (by simp; exact ⟨⟨by omega, fun hm => by have := hlt _ hm; omega⟩, by omega, fun hm => by have := hlt _ hm; omega⟩), ?_⟩
 refine v_alloc fun b3 w7 e3 h3 c7 => ?_
 refine v_alloc fun b4 w8 e4 h4 c8 => ?_
 have s7 := c7.size
 have s8 := c8.size
 have hT : TouchesAt w8 (fun i => i = b3 ∨ i = b4) (some (⟨b4, 0, none⟩ : Addr)) 1 [((1, 1), [(13, 0)])] := touches_one (p := (13, 0)) (to := (1, 1)) (c8.obj (by simp) h3) h4 (by unfold i64s; simp) (by unfold i64s; simp)
 have hF8 := (hF6.chg c7 (by simp)).chg c8 (by simp)
 refine (flow_apply (c := 1) hF8 hT (fun i hi => by
  have := hlt6 i hi
  rintro (rfl | rfl) <;> omega) (by omega) (by simp)).mono ?_
 rintro _ w9 ⟨_, rfl, rfl, fp9, hF9, c9, hf9⟩
 refine ⟨_, rfl, Same.of c9 (by simp; exact ⟨by omega, fun hm => by
  rcases hf6 _ hm with h | h
  ·have := hlt _ h; omega
  ·omega⟩), ?_⟩
 refine (flow_Get hF9 (p1 := 1) (p2 := 1) (by unfold i64s; omega)).mono ?_
 rintro _ w10 ⟨r6, r7, rfl, hr⟩
 obtain ⟨hr1, hr2⟩ := hr
 have key : (applyF (markF (flowNew 1 1 4) (13, 0) 2 1) [((1, 1), [(13, 0)])]).g (1, 1) = 1 ∧ applyE (markF (flowNew 1 1 4) (13, 0) 2 1) [((1, 1), [(13, 0)])] = 0 ∧ markE (flowNew 1 1 4) (13, 0) 2 1 = 0 ∧ (applyF (markF (flowNew 1 1 4) (13, 0) 2 1) [((1, 1), [(13, 0)])]).fr = 1 ∧ (applyF (markF (flowNew 1 1 4) (13, 0) 2 1) [((1, 1), [(13, 0)])]).se = 1 := by
  decide +kernel
 obtain ⟨k1, k2, k3, k4, k5⟩ := key
 rw [k4, k5, if_pos (by decide)] at hr2
 refine ⟨_, _, rfl, ?_, ?_⟩
 ·rw [k2, k3, hr2.1, hr2.2, k1]; rfl
 ·have c06 : Chg [] w w6 := (c1.trans0 c5).trans c6 (fun i hi hlt' => by have := hfp i hi; omega)
  refine ((c06.trans0 c7).trans0 c8).trans c9 (fun i hi hlt' => ?_) |>.trans0 hr1
  rcases hf6 _ hi with h | h
  ·have := hfp _ h; omega
  ·omega
end Go.Proofs.YtfcfkhbkkfpehaaGreat
end
section
/- The document's sets: Bit, Join. -/
namespace Go.Proofs.YtfcfkhbkkfpehaaGreat
open Go Go.RowKit Go.X
theorem wru {n : Int} (h1 : 0 ≤ n) (h2 : n < 4294967296) : IntKind.wrap .u32 n = n := by rw [IntKind.wrap_u32']; omega
theorem ref_bit {w : World} {set n : Int} (h0 : 0 ≤ set) (h1 : set < 4294967296) (hn : 0 ≤ n) (hn1 : n ≤ 1000) :
  Calls Tryz.prog 84 #[.int .u32 set, .int .i64 n] w fun e w' => ∃ r : Bool, e = .returned (.bool r) ∧ (r = set.toNat.testBit n.toNat ∧ w' = w) := by
 refine go_pomanderref02_Bit _ _ _ _ ?_
 unfold W_pomanderref02_Bit
 refine ⟨fun s i w' => ∃ j : Nat, i = (j : Int) ∧ (j : Int) ≤ n ∧ s = ((set.toNat / 2 ^ j : Nat) : Int) ∧ w' = w, fun _ i _ => (n - i).toNat, ⟨0, rfl, by omega, by simp; omega, rfl⟩, ?_⟩
 rintro s _ w1 ⟨j, rfl, hj, rfl, hw⟩
 subst w1
 have hle : set.toNat / 2 ^ j ≤ set.toNat := Nat.div_le_self _ _
 refine ⟨fun hlt => ?_, fun hge => ?_⟩
 ·have hlt' : (j : Int) < n := by simpa using hlt
  rw [wr (by omega) (by omega)]
  have e1 : IntKind.wrap .u32 (Int.tdiv ((set.toNat / 2 ^ j : Nat) : Int) 2) = ((set.toNat / 2 ^ (j + 1) : Nat) : Int) := by
   rw [Nat.pow_succ, ← Nat.div_div_eq_div_mul]
   generalize set.toNat / 2 ^ j = X at hle
   rw [Int.tdiv_eq_ediv_of_nonneg (by omega)]
   rw [wru (by omega) (by omega)]
   omega
  rw [e1]
  exact ⟨⟨j + 1, by omega, by omega, rfl, rfl⟩, by simp only []; omega⟩
 ·have hge' : ¬ (j : Int) < n := by simpa using hge
  have hnj : n.toNat = j := by omega
  refine ⟨?_, rfl⟩
  rw [hnj, Nat.testBit_eq_decide_div_mod_eq]
  have : Int.tmod ((set.toNat / 2 ^ j : Nat) : Int) 2 = ((set.toNat / 2 ^ j % 2 : Nat) : Int) := by
   generalize set.toNat / 2 ^ j = X
   rw [Int.tmod_eq_emod_of_nonneg (by omega)]; omega
  rw [this]
  by_cases hb : set.toNat / 2 ^ j % 2 = 1
  ·simp [hb]
  ·have hb0 : set.toNat / 2 ^ j % 2 = 0 := by omega
   simp [hb0]
theorem mod_succ (x j : Nat) : x % 2 ^ (j + 1) = x % 2 ^ j + 2 ^ j * (x.testBit j).toNat := by
 rw [Nat.testBit_eq_decide_div_mod_eq, Nat.pow_succ, Nat.mod_mul]
 by_cases hb : x / 2 ^ j % 2 = 1
 ·simp [hb]
 ·have hb0 : x / 2 ^ j % 2 = 0 := by omega
  simp [hb0]
theorem ref_join {w : World} {a b : Int} (ha : u16 a) (hb : u16 b) :
  Calls Tryz.prog 85 #[.int .u32 a, .int .u32 b] w fun e w' => ∃ r : Int, e = .returned (.int .u32 r) ∧ (r = bits .or .u32 a b ∧ w' = w) := by
 obtain ⟨ha0, ha1⟩ := ha
 obtain ⟨hb0, hb1⟩ := hb
 refine go_pomanderref02_Join _ _ _ _ ?_
 unfold W_pomanderref02_Join
 have hx : a.toNat ||| b.toNat < 2 ^ 16 := Nat.or_lt_two_pow (by omega) (by omega)
 generalize hX : a.toNat ||| b.toNat = X at hx
 have hR : bits .or .u32 a b = (X : Int) := by rw [u32_or a b ha0 (by omega) hb0 (by omega), hX]
 have hbit : ∀ j, X.testBit j = (a.toNat.testBit j || b.toNat.testBit j) := fun j => by rw [← hX, Nat.testBit_or]
 refine ⟨fun out p i w' => ∃ j : Nat, i = (j : Int) ∧ j ≤ 16 ∧ out = ((X % 2 ^ j : Nat) : Int) ∧ p = ((2 ^ j : Nat) : Int) ∧ w' = w, fun _ _ i _ => (16 - i).toNat, ⟨0, rfl, by omega, by simp [Nat.mod_one], rfl, rfl⟩, ?_⟩
 rintro _ _ _ w1 ⟨j, rfl, hj, rfl, rfl, hw⟩
 subst w1
 have hp : 2 ^ j ≤ 2 ^ 16 := Nat.pow_le_pow_right (by omega) hj
 have hm : X % 2 ^ (j + 1) ≤ X := Nat.mod_le _ _
 refine ⟨fun hlt => ?_, fun hge => ?_⟩
 ·have hlt' : j < 16 := by
   have : (j : Int) < 16 := by simpa using hlt
   omega
  have hm' := mod_succ X j
  refine ⟨fun out w' => out = ((X % 2 ^ (j + 1) : Nat) : Int) ∧ w' = w, ?_, ?_⟩
  ·rintro _ w2 ⟨rfl, hw⟩
   subst w2
   rw [wr (by omega) (by omega)]
   refine ⟨⟨j + 1, by omega, by omega, rfl, ?_, rfl⟩, by simp only []; omega⟩
   rw [wru (by omega) (by omega), Nat.pow_succ]; omega
  refine (ref_bit ha0 (by omega) (by omega) (by omega)).mono ?_
  rintro _ w3 ⟨_, rfl, rfl, hw⟩
  subst w3
  refine ⟨_, rfl, fun b2 w' => b2 = X.testBit j ∧ w' = w, ?_, fun hA => ?_, fun hA => ?_⟩
  ·rintro b2 w4 ⟨rfl, hw⟩
   subst w4
   refine ⟨fun ht => ⟨?_, rfl⟩, fun hf => ⟨?_, rfl⟩⟩
   ·rw [ht] at hm'
    simp at hm'
    rw [wru (by omega) (by omega), hm']; omega
   ·rw [hf] at hm'
    simp at hm'
    rw [hm']
  ·refine (ref_bit hb0 (by omega) (by omega) (by omega)).mono ?_
   rintro _ w5 ⟨_, rfl, rfl, hw⟩
   subst w5
   refine ⟨_, rfl, ?_, rfl⟩
   simp at hA
   simp [hbit, hA]
  ·simp at hA
   exact ⟨by simp [hbit, hA], rfl⟩
 ·have hge' : ¬ (j : Int) < 16 := by simpa using hge
  have : j = 16 := by omega
  subst this
  exact ⟨by rw [hR, Nat.mod_eq_of_lt hx], rfl⟩
end Go.Proofs.YtfcfkhbkkfpehaaGreat
end
section
/- The document's flows: Get, together, MayAll, Decides, Apply. -/
namespace Go.Proofs.YtfcfkhbkkfpehaaGreat
open Go Go.RowKit Go.X
theorem add0 (q : Addr) : q.add 0 = q := by
 unfold Addr.add
 cases q with
 | mk b o s => cases s <;> simp
theorem CellsAt.two {w : World} {q : Addr} {a b c : Value} (h : CellsAt w q 0 [a, b, c]) : CellsAt w q 0 [a, b] := ⟨h.1, h.2.1, trivial⟩
theorem ref_get {w : World} {R : Rf} {p4 p5 : Option Addr} {n4 c4 n5 c5 : Nat} (h : RefAt w R p4 n4 c4 p5 n5 c5) (hn : n5 ≤ 100000000) (p1 p2 : Int) :
  Calls Tryz.prog 86 #[.agg #[.int .i64 R.fr, .int .i64 R.se, .int .i64 R.most, .slice p4 n4 c4, .slice p5 n5 c5], .agg #[.int .i64 p1, .int .i64 p2]] w fun e w' => ∃ r : Int, e = .returned (.int .u32 r) ∧ (r = lookPr R.pairs (p1, p2) ∧ Chg [] w w') := by
 have hn5 := h.n5
 refine go_pomanderref12_Flow_Get _ _ _ _ _ _ _ _ _ _ _ _ _ ?_
 unfold W_pomanderref12_Flow_Get
 intro b2 b1 w2 l2 l1 c2
 refine ⟨fun _ i w' => ∃ j : Nat, i = (j : Int) ∧ j ≤ n5 ∧ lookK (p1, p2) (R.pairs.take j) = none ∧ Chg [] w w', fun _ i _ => (n5 - i).toNat, ⟨0, rfl, by omega, rfl, c2⟩, ?_⟩
 rintro x1 _ w3 ⟨j, rfl, hj, hl, c3⟩
 refine ⟨fun hlt => ?_, fun hge => ?_⟩
 ·have hlt' : j < n5 := by simpa using hlt
  obtain ⟨x, hx⟩ := get_of (l := R.pairs) (j := j) (by omega)
  have hrow := h.pairs.chg c3 (by simp)
  obtain ⟨a, rfl, _⟩ := RowAt.elem (size := 3) (fun _ => rfl) hrow hx (by omega)
  refine ⟨a, rfl, by omega, by omega, fun w4 c4' => ?_⟩
  obtain ⟨a', ha', hc⟩ := RowAt.elem (size := 3) (fun _ => rfl) (hrow.chg c4' (by simp)) hx (by omega)
  obtain rfl : a = a' := by simpa using ha'
  refine ⟨x.1.1, x.1.2, by simpa [encPr] using CellsAt.two hc, fun he => ?_, fun hne => ?_⟩
  ·have he' : x.1 = (p1, p2) := by
    have : x.1.1 = p1 ∧ x.1.2 = p2 := by simpa using he
    exact Prod.ext this.1 this.2
   refine ⟨x.2, by simpa using CellsAt.third hc, ?_, c3.trans0 c4'⟩
   have h1 : lookK (p1, p2) R.pairs = some x.2 := by
    rw [← List.take_append_drop j R.pairs, lookK_append, hl, List.drop_eq_getElem_cons (by omega), lookK_cons]
    have : R.pairs[j] = x := by rw [List.getElem?_eq_getElem (by omega)] at hx; simpa using hx
    rw [this, if_pos he']; rfl
   unfold lookPr; rw [h1]; rfl
  ·have hne' : x.1 ≠ (p1, p2) := by
    intro e; rw [e] at hne; simp at hne
   rw [wr (by omega) (by omega)]
   refine ⟨⟨j + 1, by omega, by omega, ?_, c3.trans0 c4'⟩, by simp only []; omega⟩
   rw [take_snoc hx, lookK_append, hl, lookK_cons, if_neg hne']; rfl
 ·have hge' : ¬ j < n5 := by simpa using hge
  rw [List.take_of_length_le (by omega)] at hl
  exact ⟨by unfold lookPr; rw [hl]; rfl, c3⟩
theorem ref_together {w : World} {R : Rf} {p4 p5 : Option Addr} {n4 c4 n5 c5 : Nat} (h : RefAt w R p4 n4 c4 p5 n5 c5) (hn5 : n5 ≤ 100000000) (hu : ∀ q, u16 (lookPr R.pairs q)) {S : Nat → Prop} {p : Option Addr} {n c : Nat} {ps : List (Int × Int)} (hp : PlacesAt w S p n ps) (hn : n ≤ 9223372036854775807) :
  Calls Tryz.prog 52 #[.agg #[.int .i64 R.fr, .int .i64 R.se, .int .i64 R.most, .slice p4 n4 c4, .slice p5 n5 c5], .slice p n c] w fun e w' => ∃ r : Int, e = .returned (.int .u32 r) ∧ (r = joinP (lookPr R.pairs) ps ∧ Chg [] w w') := by
 refine go_pomanderref12_Flow_together _ _ _ _ _ _ _ _ _ _ _ _ _ _ ?_
 unfold W_pomanderref12_Flow_together
 intro b1 w1 l1 c1
 refine ⟨fun set i w' => ∃ j : Nat, i = (j : Int) ∧ j ≤ n ∧ set = joinP (lookPr R.pairs) (ps.take j) ∧ Chg [] w w' ∧ w1.heap.size ≤ w'.heap.size, fun _ i _ => (n - i).toNat, ⟨0, rfl, by omega, rfl, c1, Nat.le_refl _⟩, ?_⟩
 rintro _ _ w2 ⟨j, rfl, hj, rfl, c2, s2⟩
 refine ⟨fun hlt => ?_, fun hge => ?_⟩
 ·have hlt' : j < n := by simpa using hlt
  obtain ⟨x, hx⟩ := get_of (l := ps) (j := j) (by rw [hp.length]; exact hlt')
  intro w3 c3
  have c03 := c2.trans0 c3
  obtain ⟨k1, k2, a, rfl, ha, hc⟩ := (hp.chg c03 (by simp)).each j _ hx
  refine ⟨a, rfl, by omega, by omega, x.1, x.2, by simpa using hc, ?_⟩
  refine (ref_get (h.chg c03 (by simp) (by simp)) hn5 x.1 x.2).mono ?_
  rintro _ w4 ⟨_, rfl, rfl, c4⟩
  have s3 := c3.size
  have s4 := c4.size
  refine ⟨_, rfl, by simpa using c4.cells (by simp) hc, Same.chg c4 (by simp; omega), ?_⟩
  refine (ref_join (joinP_u16 hu _) (hu _)).mono ?_
  rintro _ w5 ⟨_, rfl, rfl, hw⟩
  subst w5
  refine ⟨_, rfl, Same.refl _ _, ?_⟩
  rw [wr (by omega) (by omega)]
  refine ⟨⟨j + 1, by omega, by omega, ?_, c03.trans0 c4, by omega⟩, by simp only []; omega⟩
  rw [take_snoc hx, joinP_snoc]
 ·have hge' : ¬ j < n := by simpa using hge
  exact ⟨by rw [List.take_of_length_le (by rw [hp.length]; omega)], c2⟩
theorem ref_decides {w : World} {R : Rf} {p4 p5 : Option Addr} {n4 c4 n5 c5 : Nat} (h : RefAt w R p4 n4 c4 p5 n5 c5) (hn5 : n5 ≤ 100000000) (hu : ∀ q, u16 (lookPr R.pairs q)) {S : Nat → Prop} {p : Option Addr} {n c : Nat} {ts : List Tch} (hp : TouchesAt w S p n ts) (hn : n ≤ 9223372036854775807) (hin : ∀ t ∈ ts, t.2.length ≤ 9223372036854775807) :
  Calls Tryz.prog 51 #[.agg #[.int .i64 R.fr, .int .i64 R.se, .int .i64 R.most, .slice p4 n4 c4, .slice p5 n5 c5], .slice p n c] w fun e w' => ∃ r : Int, e = .returned (.int .u32 r) ∧ (r = decidesP (lookPr R.pairs) ts ∧ Chg [] w w') := by
 refine go_pomanderref12_Flow_Decides _ _ _ _ _ _ _ _ _ _ _ _ _ _ ?_
 unfold W_pomanderref12_Flow_Decides
 intro b1 w1 l1 c1
 refine ⟨fun set i w' => ∃ j : Nat, i = (j : Int) ∧ j ≤ n ∧ set = decidesP (lookPr R.pairs) (ts.take j) ∧ Chg [] w w' ∧ w1.heap.size ≤ w'.heap.size, fun _ i _ => (n - i).toNat, ⟨0, rfl, by omega, rfl, c1, Nat.le_refl _⟩, ?_⟩
 rintro _ _ w2 ⟨j, rfl, hj, rfl, c2, s2⟩
 refine ⟨fun hlt => ?_, fun hge => ?_⟩
 ·have hlt' : j < n := by simpa using hlt
  obtain ⟨t, hx⟩ := get_of (l := ts) (j := j) (by rw [hp.length]; exact hlt')
  have hmem : t ∈ ts := List.mem_of_getElem? hx
  obtain ⟨k1, k2, a, q, qn, qc, rfl, ha, hc, hps⟩ := (hp.chg c2 (by simp)).each j _ hx
  refine ⟨fun set w' => set = decidesP (lookPr R.pairs) (ts.take (j + 1)) ∧ Chg [] w w' ∧ w1.heap.size ≤ w'.heap.size, ?_, a, rfl, by omega, by omega, t.1.1, t.1.2, by simpa using CellsAt.two hc, fun he w4 c4 => ?_, fun hne => ?_⟩
  ·rintro _ w3 ⟨rfl, c3, s3⟩
   rw [wr (by omega) (by omega)]
   exact ⟨⟨j + 1, by omega, by omega, rfl, c3, s3⟩, by simp only []; omega⟩
  ·have he' : t.1 = (0, 0) := by
    have : t.1.1 = 0 ∧ t.1.2 = 0 := by simpa using he
    exact Prod.ext this.1 this.2
   have c04 := c2.trans0 c4
   have s4 := c4.size
   refine ⟨q, qn, qc, by simpa using CellsAt.third (c4.cells (by simp) hc), ?_⟩
   refine (ref_together (c := qc) (h.chg c04 (by simp) (by simp)) hn5 hu (hps.chg c4 (by simp)) (by rw [← hps.length]; exact hin t hmem)).mono ?_
   rintro _ w5 ⟨_, rfl, rfl, c5⟩
   have s5 := c5.size
   refine ⟨_, rfl, by simpa using CellsAt.third (c5.cells (by simp) (c4.cells (by simp) hc)), Same.chg c5 (by simp; omega), ?_⟩
   refine (ref_join (decidesP_u16 hu _) (joinP_u16 hu _)).mono ?_
   rintro _ w6 ⟨_, rfl, rfl, hw⟩
   subst w6
   refine ⟨_, rfl, Same.refl _ _, ?_, c04.trans0 c5, by omega⟩
   rw [take_snoc hx, decidesP_snoc, if_pos he']
  ·have hne' : t.1 ≠ (0, 0) := by
    intro e; rw [e] at hne; simp at hne
   refine ⟨?_, c2, s2⟩
   rw [take_snoc hx, decidesP_snoc, if_neg hne']
 ·have hge' : ¬ j < n := by simpa using hge
  exact ⟨by rw [List.take_of_length_le (by rw [hp.length]; omega)], c2⟩
theorem ref_mayAll {w : World} {R : Rf} {p4 p5 : Option Addr} {n4 c4 n5 c5 : Nat} (hw : i64s (64 * R.fr) ∧ i64s (64 * R.se)) {S : Nat → Prop} {p : Option Addr} {n c : Nat} {ts : List Tch} (hp : TouchesAt w S p n ts) (hn : n ≤ 9223372036854775807) (hin : ∀ t ∈ ts, t.2.length ≤ 9223372036854775807) :
    Calls Tryz.prog 18 #[.agg #[.int .i64 R.fr, .int .i64 R.se, .int .i64 R.most, .slice p4 n4 c4, .slice p5 n5 c5], .slice p n c] w fun e w' => ∃ r : Bool, e = .returned (.bool r) ∧ (r = decide (rightAll R.fr R.se ts) ∧ Chg [] w w') := by
  refine go_pomanderref12_Flow_MayAll _ _ _ _ _ _ _ _ _ _ _ _ _ _ ?_
  unfold W_pomanderref12_Flow_MayAll
  intro b1 w1 l1 c1
  refine ⟨fun _ i w' => ∃ j : Nat, i = (j : Int) ∧ j ≤ n ∧ (∀ t ∈ ts.take j, rightT R.fr R.se t) ∧ Chg [] w w' ∧ w1.heap.size ≤ w'.heap.size, fun _ i _ => (n - i).toNat, ⟨0, rfl, by omega, by simp, c1, Nat.le_refl _⟩, ?_⟩
  rintro x1 _ w2 ⟨j, rfl, hj, hr, c2, s2⟩
  refine ⟨fun hlt => ?_, fun hge => ?_⟩
  · have hlt' : j < n := by simpa using hlt
    obtain ⟨t, hx⟩ := get_of (l := ts) (j := j) (by rw [hp.length]; exact hlt')
    have hmem : t ∈ ts := List.mem_of_getElem? hx
    obtain ⟨k1, k2, a, q, qn, qc, rfl, ha, hc, hps⟩ := (hp.chg c2 (by simp)).each j _ hx
    refine ⟨a, rfl, by omega, by omega, fun w3 c3 => ?_⟩
    have hc3 := c3.cells (by simp) hc
    have c03 := c2.trans0 c3
    have s3 := c3.size
    have hbad : ∀ w', Chg [] w w' → ¬ rightT R.fr R.se t → false = decide (rightAll R.fr R.se ts) ∧ Chg [] w w' := fun w' c hb => ⟨by symm; rw [decide_eq_false_iff_not]; exact fun h => hb (h t hmem), c⟩
    refine ⟨t.1.1, t.1.2, by simpa using CellsAt.two hc3, fun b w' => b = decide (t.1 ≠ (0, 0) ∧ ¬ mayP R.fr R.se t.1) ∧ Chg [] w w' ∧ w3.heap.size ≤ w'.heap.size, ?_, fun hne => ?_, fun he => ?_⟩
    · rintro _ w4 ⟨rfl, d4, s4⟩
      refine ⟨fun ht => ?_, fun hf => ?_⟩
      · rw [decide_eq_true_eq] at ht
        exact hbad w4 d4 (fun h => h.1.elim ht.1 ht.2)
      rw [decide_eq_false_iff_not] at hf
      have hto : t.1 = (0, 0) ∨ mayP R.fr R.se t.1 := by
        by_cases h0 : t.1 = (0, 0)
        · exact .inl h0
        · by_cases h1 : mayP R.fr R.se t.1
          · exact .inr h1
          · exact absurd ⟨h0, h1⟩ hf
      refine ⟨fun _ k w' => ∃ i : Nat, k = (i : Int) ∧ i ≤ qn ∧ (∀ p ∈ t.2.take i, mayP R.fr R.se p) ∧ Chg [] w w' ∧ w3.heap.size ≤ w'.heap.size, fun _ k _ => (qn - k).toNat, ⟨0, rfl, by omega, by simp, d4, s4⟩, ?_⟩
      rintro x2 _ w6 ⟨i, rfl, hi, hpr, c6, s6⟩
      obtain ⟨_, _, a', q', qn', qc', ea, _, hc6, hps6⟩ := (hp.chg c6 (by simp)).each j _ hx
      obtain rfl : a = a' := by simpa using ea
      have hql : qn' = t.2.length := hps6.length.symm
      have hql' : qn = t.2.length := hps.length.symm
      have hqn := hin t hmem
      refine ⟨q', qn', qc', by simpa using CellsAt.third hc6, fun hk => ?_, fun hk => ?_⟩
      · have hk' : i < qn := by have : (i : Int) < qn' := by simpa using hk
                                omega
        obtain ⟨y, hy⟩ := get_of (l := t.2) (j := i) (by omega)
        intro w7 c7
        have c07 := c6.trans0 c7
        have s7 := c7.size
        obtain ⟨_, _, a2, rfl, _, hcy⟩ := (hps6.chg c7 (by simp)).each i _ hy
        refine ⟨_, qn', qc', by simpa using CellsAt.third (c7.cells (by simp) hc6), a2, rfl, by omega, by omega, y.1, y.2, by simpa using hcy, ?_⟩
        refine (ref_may R.fr R.se R.most p4 p5 n4 c4 n5 c5 y.1 y.2 hw).mono ?_
        rintro _ w8 ⟨_, rfl, rfl, c8⟩
        have s8 := c8.size
        refine ⟨_, rfl, Same.chg c8 (by simp; omega), fun hb => ?_, fun hb => ?_⟩
        · have hb' : ¬ mayP R.fr R.se (y.1, y.2) := by simpa using hb
          exact hbad w8 (c07.trans0 c8) (fun h => hb' (h.2 y (List.mem_of_getElem? hy)))
        · have hb' : mayP R.fr R.se (y.1, y.2) := by simpa using hb
          rw [wr (by omega) (by omega)]
          refine ⟨⟨i + 1, by omega, by omega, ?_, c07.trans0 c8, by omega⟩, by simp only []; omega⟩
          rw [take_snoc hy]
          intro z hz
          rcases List.mem_append.1 hz with hz | hz
          · exact hpr z hz
          · simp at hz; subst hz; exact hb'
      · have hk' : ¬ (i : Int) < qn' := by simpa using hk
        rw [wr (by omega) (by omega)]
        refine ⟨⟨j + 1, by omega, by omega, ?_, c6, by omega⟩, by simp only []; omega⟩
        rw [take_snoc hx]
        intro z hz
        rcases List.mem_append.1 hz with hz | hz
        · exact hr z hz
        · simp at hz; subst hz
          rw [List.take_of_length_le (by omega)] at hpr
          exact ⟨hto, hpr⟩
    · have hne' : t.1 ≠ (0, 0) := by
        intro e; rw [e] at hne; simp at hne
      refine ⟨t.1.1, t.1.2, by simpa using CellsAt.two hc3, ?_⟩
      refine (ref_may R.fr R.se R.most p4 p5 n4 c4 n5 c5 t.1.1 t.1.2 hw).mono ?_
      rintro _ w5 ⟨_, rfl, rfl, d5⟩
      have s5 := d5.size
      refine ⟨_, rfl, Same.chg d5 (by simp; omega), ?_, c03.trans0 d5, by omega⟩
      rw [← decide_not]
      exact decide_eq_decide.2 ⟨fun h => ⟨hne', h⟩, fun h => h.2⟩
    · have he' : t.1 = (0, 0) := by
        have : t.1.1 = 0 ∧ t.1.2 = 0 := by simpa using he
        exact Prod.ext this.1 this.2
      exact ⟨by symm; rw [decide_eq_false_iff_not]; exact fun h => h.1 he', c03, Nat.le_refl _⟩
  · have hge' : ¬ j < n := by simpa using hge
    rw [List.take_of_length_le (by rw [hp.length]; omega)] at hr
    exact ⟨by symm; rw [decide_eq_true_eq]; exact hr, c2⟩
end Go.Proofs.YtfcfkhbkkfpehaaGreat
end
section
/- The document's flows: Apply. -/
namespace Go.Proofs.YtfcfkhbkkfpehaaGreat
open Go Go.RowKit Go.X
theorem append_u {w : World} {p : Option Addr} {n c : Nat} {out : List Int} (h : RowAt w 22 1 p n c (out.map (.int .u32))) {b : Nat} {x : Int} (hb : w.heap[b]? = some (.cells #[.int .u32 x] 22 (0, 0))) (hn : n ≤ 1000000000) :
  ∃ p' c' w', (Builtin.append_ #[38, 38] 38 #[.slice p n c, .slice (some (⟨b, 0, none⟩ : Addr)) 1 1]).run Tryz.prog w = .ok (.slice p' (n + 1) c') w' ∧ RowAt w' 22 1 p' (n + 1) c' ((out ++ [x]).map (.int .u32)) ∧ Chg (rowB p) w w' ∧
   (∀ i ∈ rowB p', i ∈ rowB p ∨ w.heap.size ≤ i) := by
 obtain ⟨p', c', w', happ, hrow, hc, hf⟩ := h.append (P := Tryz.prog) (t := 38) (ty := 38) (i := _) (z := .int .u32 0) (bytes := 4) (by kernel_rfl) (show Tryz.prog.info? 22 = some Tryz.t22 by kernel_rfl) (by kernel_rfl) (by kernel_rfl) (by kernel_rfl) rfl (by omega)
  (a := ⟨b, 0, none⟩) (m := 1) (mc := 1) (news := [.int .u32 x]) rfl (fun i u hi => by
   cases i with
   | zero => simp at hi; subst hi; rw [add_at, cell_of hb]; rfl
   | succ i => simp at hi) (by simp [Value.oneCell']) (by simp only [maxLen]; omega) (by omega)
 exact ⟨p', c', w', happ, by simpa using hrow, hc, hf⟩
theorem keepStep_len (most : Int) (g : Int × Int → Int) (s : List Int × List Pr × Int) (t : Tch) : (keepStep most g s t).1.length ≤ s.1.length + 1 ∧ (s.1 ≠ [] → (keepStep most g s t).1 ≠ []) := by
 unfold keepStep
 split
 ·exact ⟨by omega, id⟩
 split
 ·exact ⟨by simp, id⟩
 ·simp only []
  unfold keepS
  split
  ·exact ⟨by omega, id⟩
  ·exact ⟨by simp, fun _ => by simp⟩
theorem keepAll_len (most : Int) (g : Int × Int → Int) (ts : List Tch) (sets : List Int) : (keepAll most g ts sets).1.length ≤ sets.length + ts.length ∧ (sets ≠ [] → (keepAll most g ts sets).1 ≠ []) := by
 have : ∀ (ts : List Tch) (s : List Int × List Pr × Int), (ts.foldl (keepStep most g) s).1.length ≤ s.1.length + ts.length ∧ (s.1 ≠ [] → (ts.foldl (keepStep most g) s).1 ≠ []) := by
  intro ts
  induction ts with
  | nil => intro s; exact ⟨by simp, id⟩
  | cons t ts ih =>
   intro s
   have h1 := keepStep_len most g s t
   have h2 := ih (keepStep most g s t)
   rw [List.foldl_cons]
   refine ⟨?_, fun h => h2.2 (h1.2 h)⟩
   have := h1.1; have := h2.1
   simp; omega
 exact this ts (sets, [], 0)
theorem putAll_len (g : Int × Int → Int) (ts : List Tch) (l : List Pr) : (putAll g ts l).length ≤ l.length + ts.length := by
 have : ∀ (ts : List Tch) (l : List Pr), (ts.foldl (putStep g) l).length ≤ l.length + ts.length := by
  intro ts
  induction ts with
  | nil => intro l; simp
  | cons t ts ih =>
   intro l
   rw [List.foldl_cons]
   have h1 := ih (putStep g l t)
   have h2 : (putStep g l t).length ≤ l.length + 1 := by
    unfold putStep
    split
    ·omega
    ·exact refPut_length _ _ _
   simp; omega
 exact this ts l
def setOf (g : Int × Int → Int) (t : Tch) : Int := if t.1 = (0, 0) then 0 else joinP g t.2
theorem ref_apply {w : World} {R : Rf} {p4 p5 : Option Addr} {n4 c4 n5 c5 : Nat} (h : RefAt w R p4 n4 c4 p5 n5 c5) (hn4 : n4 ≤ 100000) (hn5 : n5 ≤ 90000000) (hne : R.sets ≠ []) (hw : i64s (64 * R.fr) ∧ i64s (64 * R.se)) (hu : ∀ q, u16 (lookPr R.pairs q))
  {S : Nat → Prop} {p : Option Addr} {n c : Nat} {ts : List Tch} (hp : TouchesAt w S p n ts) (hn : n ≤ 1000) (hin : ∀ t ∈ ts, t.2.length ≤ 9223372036854775807) :
  Calls Tryz.prog 62 #[.agg #[.int .i64 R.fr, .int .i64 R.se, .int .i64 R.most, .slice p4 n4 c4, .slice p5 n5 c5], .slice p n c] w fun e w' =>
   ∃ (r1 : Int) (r2 : Int) (r3 : Int) (r4 : Option Addr) (r4n : Nat) (r4c : Nat) (r5 : Option Addr) (r5n : Nat) (r5c : Nat) (r6 : Int), e = .returned (.tuple #[.agg #[.int .i64 r1, .int .i64 r2, .int .i64 r3, .slice r4 r4n r4c, .slice r5 r5n r5c], .int .i64 r6]) ∧
   (r1 = R.fr ∧ r2 = R.se ∧ r3 = R.most ∧ r6 = refApplyE R ts ∧ RefAt w' (refApply R ts) r4 r4n r4c r5 r5n r5c ∧ Chg [] w w' ∧ ∀ i ∈ rowB r4 ++ rowB r5, i ∈ rowB p4 ++ rowB p5 ∨ w.heap.size ≤ i) := by
 have hn4' := h.n4
 have hn5' := h.n5
 have hlt4 := h.sets.lt
 have hlt5 := h.pairs.lt
 refine go_pomanderref12_Flow_Apply _ _ _ _ _ _ _ _ _ _ _ _ _ _ ?_
 unfold W_pomanderref12_Flow_Apply
 intro b2 b1 w2 l2 l1 d2
 refine (ref_mayAll (p4 := p4) (n4 := n4) (c4 := c4) (p5 := p5) (n5 := n5) (c5 := c5) (c := c) hw (hp.chg d2 (by simp)) (by omega) hin).mono ?_
 rintro _ w3 ⟨_, rfl, rfl, d3⟩
 have s3 := d3.size
 have d03 := d2.trans0 d3
 refine ⟨_, rfl, Same.chg d3 (by simp; omega), fun hb w4 d4 => ?_, fun hb => ?_⟩
 ·have hb' : ¬ rightAll R.fr R.se ts := by simpa using hb
  have d04 : Chg [] w w4 := d03.trans d4 (fun i hi hlt => by simp at hi; omega)
  refine ⟨rfl, rfl, rfl, by unfold refApplyE; rw [if_neg hb'], ?_, d04, fun i hi => .inl hi⟩
  unfold refApply; rw [if_neg hb']; exact h.chg d04 (by simp) (by simp)
 have hr : rightAll R.fr R.se ts := by simpa using hb
 refine ⟨fun x sets setsn setsc i m q qn qc w' => ∃ j : Nat, i = (j : Int) ∧ j ≤ n ∧ (keepAll R.most (lookPr R.pairs) (ts.take j) R.sets).2.2 = 0 ∧ m = R.most ∧ RowAt w' 22 1 q qn qc ((keepAll R.most (lookPr R.pairs) (ts.take j) R.sets).1.map (.int .u32)) ∧
   (∀ b ∈ rowB q, b ∈ rowB p4 ∨ w3.heap.size ≤ b) ∧ RowAt w' 22 1 sets setsn setsc (((ts.take j).map (setOf (lookPr R.pairs))).map (.int .u32)) ∧ (∀ b ∈ rowB sets, w3.heap.size ≤ b) ∧ (∀ b ∈ rowB q, b ∉ rowB sets) ∧ Chg [] w w' ∧ w3.heap.size ≤ w'.heap.size,
  fun _ _ _ _ i _ _ _ _ _ => (n - i).toNat, ⟨0, rfl, by omega, rfl, rfl, by simpa [keepAll] using h.sets.chg d03 (by simp), fun b hb => .inl hb, RowAt.nil, by simp [rowB], by simp [rowB], d03, Nat.le_refl _⟩, ?_⟩
 rintro x sets setsn setsc _ _ q qn qc w5 ⟨j, rfl, hj, h0, rfl, hq, hqf, hs, hsf, hqs, d5, s5⟩
 have hqlt := hq.lt
 have hslt := hs.lt
 have hsl : setsn = j := by have := hs.length; simp at this; have := hp.length; omega
 refine ⟨fun hlt => ?_, fun hge => ?_⟩
 ·have hlt' : j < n := by simpa using hlt
  obtain ⟨t, hx⟩ := get_of (l := ts) (j := j) (by rw [hp.length]; exact hlt')
  have hmem : t ∈ ts := List.mem_of_getElem? hx
  obtain ⟨k1, k2, a, tq, tqn, tqc, rfl, ha, hc, hps⟩ := (hp.chg d5 (by simp)).each j _ hx
  refine ⟨fun x set m q qn qc w' => set = setOf (lookPr R.pairs) t ∧ (keepAll R.most (lookPr R.pairs) (ts.take (j + 1)) R.sets).2.2 = 0 ∧ m = R.most ∧ RowAt w' 22 1 q qn qc ((keepAll R.most (lookPr R.pairs) (ts.take (j + 1)) R.sets).1.map (.int .u32)) ∧
   (∀ b ∈ rowB q, b ∈ rowB p4 ∨ w3.heap.size ≤ b) ∧ (∀ b ∈ rowB q, b ∉ rowB sets) ∧ RowAt w' 22 1 sets setsn setsc (((ts.take j).map (setOf (lookPr R.pairs))).map (.int .u32)) ∧ Chg [] w w' ∧ w5.heap.size ≤ w'.heap.size, ?_, a, rfl, by omega, by omega, t.1.1, t.1.2, by simpa using CellsAt.two hc, fun hto => ?_, fun hto => ?_⟩
  ·rintro x' _ _ q' qn' qc' w6 ⟨rfl, h0', rfl, hq', hqf', hqs', hs', d6, s6⟩
   have hqlt' := hq'.lt
   have hslt' := hs'.lt
   refine v_alloc fun b3 w7 e3 hb3 d7 => ?_
   have s7 := d7.size
   obtain ⟨ap, ac, w8, happ, hrow8, d8, hf8⟩ := append_u (x := setOf (lookPr R.pairs) t) (hs'.chg d7 (by simp)) hb3 (by omega)
   have s8 := d8.size
   have d08 : Chg [] w w8 := (d6.trans0 d7).trans d8 (fun b hb hlt => by have := hsf b hb; have := d03.size; omega)
   refine ⟨ap, _, ac, w8, happ, Same.of d8 (by simp; exact ⟨⟨by omega, fun hm => by have := hsf _ hm; omega⟩, by omega, fun hm => by have := hsf _ hm; omega⟩), ?_⟩
   rw [wr (by omega) (by omega)]
   refine ⟨⟨j + 1, by omega, by omega, h0', rfl, (hq'.chg d7 (by simp)).chg d8 hqs', hqf', by rw [take_snoc hx]; simpa using hrow8, fun b hb => ?_, fun b hb hm => ?_, d08, by omega⟩, by simp only []; omega⟩
   ·rcases hf8 b hb with h | h
    ·exact hsf b h
    ·omega
   ·rcases hf8 b hm with h | h
    ·exact hqs' b hb h
    ·have := hqlt' b hb; omega
  ·have hto' : t.1 ≠ (0, 0) := by
    intro e; rw [e] at hto; simp at hto
   intro w9 d9
   have s9 := d9.size
   have d09 := d5.trans0 d9
   refine ⟨tq, tqn, tqc, by simpa using CellsAt.third (d9.cells (by simp) hc), ?_⟩
   have hR9 : RefAt w9 { R with sets := (keepAll R.most (lookPr R.pairs) (ts.take j) R.sets).1 } q qn qc p5 n5 c5 := ⟨hq.chg d9 (by simp), h.pairs.chg d09 (by simp)⟩
   refine (ref_together (c := tqc) hR9 (by omega) hu (hps.chg d9 (by simp)) (by rw [← hps.length]; exact hin t hmem)).mono ?_
   rintro _ w10 ⟨_, rfl, rfl, d10⟩
   have s10 := d10.size
   have hju := joinP_u16 hu t.2
   have hlen := keepAll_len R.most (lookPr R.pairs) (ts.take j) R.sets
   have hq10 := hR9.sets.chg d10 (by simp)
   have hqn : qn = (keepAll R.most (lookPr R.pairs) (ts.take j) R.sets).1.length := by have := hq.length; simp at this; omega
   refine ⟨_, rfl, Same.chg d10 (by simp; omega), ?_⟩
   refine (ref_keep (most := R.most) hq10 (by have := hlen.1; rw [List.length_take, hp.length] at this; omega) (hlen.2 hne) hju.1).mono ?_
   rintro _ w11 ⟨_, q', qn', qc', r3, _, rfl, rfl, rfl, hq11, d11, hf11⟩
   have s11 := d11.size
   refine ⟨_, _, _, _, _, _, rfl, Same.chg d11 (by simp; omega), fun b4 w13 l13 d13 => ⟨fun hbad w14 d14 => ?_, fun hok w15 d15 => ?_⟩⟩
   ·have hbad' : keepE R.most (keepAll R.most (lookPr R.pairs) (ts.take j) R.sets).1 (joinP (lookPr R.pairs) t.2) ≠ 0 := by simpa using hbad
    have hst : keepAll R.most (lookPr R.pairs) (ts.take (j + 1)) R.sets = ((keepAll R.most (lookPr R.pairs) (ts.take j) R.sets).1, (keepAll R.most (lookPr R.pairs) (ts.take j) R.sets).2.1, keepE R.most (keepAll R.most (lookPr R.pairs) (ts.take j) R.sets).1 (joinP (lookPr R.pairs) t.2)) := by
     rw [take_snoc hx, keepAll_snoc]; unfold keepStep
     rw [if_neg (by rintro (h | h); exact h h0; exact hto' h), if_pos hbad']
    have hall : keepAll R.most (lookPr R.pairs) ts R.sets = keepAll R.most (lookPr R.pairs) (ts.take (j + 1)) R.sets := by
     have := keepAll_bad (most := R.most) (g := lookPr R.pairs) (ts := ts.take (j + 1)) (us := ts.drop (j + 1)) (sets := R.sets) (by rw [hst]; exact hbad')
     rwa [List.take_append_drop] at this
    have d014 := (d09.trans0 d10).trans (d11.trans0 d13) (by simp) |>.trans d14 (fun i hi hlt => by simp at hi; omega)
    refine ⟨rfl, rfl, rfl, by unfold refApplyE; rw [if_pos hr, hall, hst], ?_, d014, fun i hi => ?_⟩
    ·unfold refApply; rw [if_pos hr, hall, hst]
     simp only [if_neg hbad']
     have hd : ∀ b ∈ rowB q, b ∉ [b2] := fun b hb hm => by
      simp at hm; subst hm
      rcases hqf _ hb with h | h
      ·have := hlt4 _ h; omega
      ·omega
     exact ⟨((hq10.chg d11 (by simp)).chg d13 (by simp)).chg d14 hd, h.pairs.chg d014 (by simp)⟩
    ·rcases List.mem_append.1 hi with hi | hi
     ·rcases hqf i hi with h | h
      ·exact .inl (List.mem_append_left _ h)
      ·exact .inr (by have := d03.size; omega)
     ·exact .inl (List.mem_append_right _ hi)
   ·have hok' : keepE R.most (keepAll R.most (lookPr R.pairs) (ts.take j) R.sets).1 (joinP (lookPr R.pairs) t.2) = 0 := by simpa using hok
    have hst : keepAll R.most (lookPr R.pairs) (ts.take (j + 1)) R.sets = (keepS R.most (keepAll R.most (lookPr R.pairs) (ts.take j) R.sets).1 (joinP (lookPr R.pairs) t.2), upd t.1 (joinP (lookPr R.pairs) t.2) (keepAll R.most (lookPr R.pairs) (ts.take j) R.sets).2.1, 0) := by
     rw [take_snoc hx, keepAll_snoc]; unfold keepStep
     rw [if_neg (by rintro (h | h); exact h h0; exact hto' h), if_neg (by rw [hok']; simp)]
    have hd : ∀ b ∈ rowB q', b ∉ [b1] := fun b hb hm => by
     simp at hm; subst hm
     rcases hf11 _ hb with h | h
     ·rcases hqf _ h with h | h
      ·have := hlt4 _ h; omega
      ·omega
     ·omega
    have d015 : Chg [] w w15 := ((d09.trans0 d10).trans0 (d11.trans0 d13)).trans d15 (fun i hi hlt => by simp at hi; omega)
    have s13 := d13.size
    have s15 := d15.size
    refine ⟨by unfold setOf; rw [if_neg hto'], by rw [hst], rfl, by rw [hst]; exact (hq11.chg d13 (by simp)).chg d15 hd, fun b hb => ?_, fun b hb hm => ?_, ?_, d015, by omega⟩
    ·rcases hf11 b hb with h | h
     ·exact hqf b h
     ·exact .inr (by omega)
    ·rcases hf11 b hb with h | h
     ·exact hqs b h hm
     ·have := hslt b hm; omega
    ·exact ((((hs.chg d9 (by simp)).chg d10 (by simp)).chg d11 (by simp)).chg d13 (by simp)).chg d15 (fun b hb hm => by
      simp at hm; subst hm; have := hsf _ hb; omega)
  ·have hto' : t.1 = (0, 0) := by
    have : t.1.1 = 0 ∧ t.1.2 = 0 := by simpa using hto
    exact Prod.ext this.1 this.2
   have hst : keepAll R.most (lookPr R.pairs) (ts.take (j + 1)) R.sets = keepAll R.most (lookPr R.pairs) (ts.take j) R.sets := by
    rw [take_snoc hx, keepAll_snoc]; unfold keepStep
    rw [if_pos (.inr hto')]
   exact ⟨by unfold setOf; rw [if_pos hto'], by rw [hst]; exact h0, rfl, by rw [hst]; exact hq, hqf, hqs, hs, d5, Nat.le_refl _⟩
 have hge' : ¬ j < n := by simpa using hge
 have htk : ts.take j = ts := List.take_of_length_le (by rw [hp.length]; omega)
 rw [htk] at h0 hq hs
 have hE : refApplyE R ts = 0 := by unfold refApplyE; rw [if_pos hr, h0]
 have hlen := keepAll_len R.most (lookPr R.pairs) ts R.sets
 refine ⟨fun i v1 v2 v3 q1 q1n q1c q2 q2n q2c w' => ∃ k : Nat, i = (k : Int) ∧ k ≤ n ∧ v1 = R.fr ∧ v2 = R.se ∧ v3 = R.most ∧ q = q1 ∧ qn = q1n ∧ qc = q1c ∧ RefAt w' { R with sets := (keepAll R.most (lookPr R.pairs) ts R.sets).1, pairs := putAll (lookPr R.pairs) (ts.take k) R.pairs } q qn qc q2 q2n q2c ∧
   (∀ b ∈ rowB q2, b ∈ rowB p5 ∨ w3.heap.size ≤ b) ∧ RowAt w' 22 1 sets setsn setsc ((ts.map (setOf (lookPr R.pairs))).map (.int .u32)) ∧ Chg [] w w' ∧ w5.heap.size ≤ w'.heap.size,
  fun i _ _ _ _ _ _ _ _ _ _ => (n - i).toNat, ⟨0, rfl, by omega, rfl, rfl, rfl, rfl, rfl, rfl, ⟨hq, h.pairs.chg d5 (by simp)⟩, fun b hb => .inl hb, hs, d5, Nat.le_refl _⟩, ?_⟩
 rintro _ _ _ _ _ _ _ q2 q2n q2c w16 ⟨k, rfl, hk, rfl, rfl, rfl, rfl, rfl, rfl, hR, hq2, hs16, d16, s16⟩
 have hb1q : ∀ b ∈ rowB q, b ∉ [b1] ∧ b ∉ [b2] := fun b hb => ⟨fun hm => by
   simp at hm; subst hm
   rcases hqf _ hb with h | h
   ·have := hlt4 _ h; omega
   ·omega, fun hm => by
   simp at hm; subst hm
   rcases hqf _ hb with h | h
   ·have := hlt4 _ h; omega
   ·omega⟩
 refine ⟨fun hlt => ?_, fun hge2 => ?_⟩
 ·have hlt' : k < n := by simpa using hlt
  obtain ⟨t, hx⟩ := get_of (l := ts) (j := k) (by rw [hp.length]; exact hlt')
  have hmem : t ∈ ts := List.mem_of_getElem? hx
  obtain ⟨k1, k2, a, tq, tqn, tqc, rfl, ha, hc, hps⟩ := (hp.chg d16 (by simp)).each k _ hx
  refine ⟨fun v1 v2 v3 q1 q1n q1c q2 q2n q2c w' => v1 = R.fr ∧ v2 = R.se ∧ v3 = R.most ∧ q = q1 ∧ qn = q1n ∧ qc = q1c ∧ RefAt w' { R with sets := (keepAll R.most (lookPr R.pairs) ts R.sets).1, pairs := putAll (lookPr R.pairs) (ts.take (k + 1)) R.pairs } q qn qc q2 q2n q2c ∧
   (∀ b ∈ rowB q2, b ∈ rowB p5 ∨ w3.heap.size ≤ b) ∧ RowAt w' 22 1 sets setsn setsc ((ts.map (setOf (lookPr R.pairs))).map (.int .u32)) ∧ Chg [] w w' ∧ w5.heap.size ≤ w'.heap.size, ?_, a, rfl, by omega, by omega, t.1.1, t.1.2, by simpa using CellsAt.two hc, fun hto w18 d18 => ?_, fun hto => ?_⟩
  ·rintro _ _ _ _ _ _ q2' q2n' q2c' w17 ⟨rfl, rfl, rfl, rfl, rfl, rfl, hR', hq2', hs', d17, s17⟩
   rw [wr (by omega) (by omega)]
   exact ⟨⟨k + 1, by omega, by omega, rfl, rfl, rfl, rfl, rfl, rfl, hR', hq2', hs', d17, s17⟩, by simp only []; omega⟩
  ·have hto' : t.1 ≠ (0, 0) := by
    intro e; rw [e] at hto; simp at hto
   have s18 := d18.size
   have hs18 := hs16.chg d18 (by simp)
   have hset : (ts.map (setOf (lookPr R.pairs)))[k]? = some (setOf (lookPr R.pairs) t) := by rw [List.getElem?_map, hx]; rfl
   have hrow' : RowAt w18 22 1 sets setsn setsc ((ts.map (setOf (lookPr R.pairs))).flatMap encU) := by rw [← encU_map]; exact hs18
   obtain ⟨a3, ha3, hc3⟩ := RowAt.elem (size := 1) (fun _ => rfl) hrow' hset (by omega)
   have hsn : setsn = n := by have := hs.length; simp at this; have := hp.length; omega
   refine ⟨t.1.1, t.1.2, by simpa using CellsAt.two (d18.cells (by simp) hc), a3, ha3, by omega, by omega, setOf (lookPr R.pairs) t, by have := hc3.1; rw [add0] at this; simpa using this, ?_⟩
   have hpl := putAll_len (lookPr R.pairs) (ts.take k) R.pairs
   rw [List.length_take, hp.length] at hpl
   have hR18 := hR.chg d18 (by simp) (by simp)
   have hq2n : q2n = (putAll (lookPr R.pairs) (ts.take k) R.pairs).length := hR18.n5
   refine (ref_put hR18 (by omega) t.1.1 t.1.2 (setOf (lookPr R.pairs) t)).mono ?_
   rintro _ w19 ⟨_, _, _, _, _, _, q2', q2n', q2c', rfl, rfl, rfl, rfl, rfl, rfl, rfl, hR19, d19, hf19⟩
   have s19 := d19.size
   refine ⟨_, _, _, _, _, _, _, _, _, rfl, ⟨by simpa using CellsAt.two (d19.cells (by simp) (d18.cells (by simp) hc)), by
    have := (d19.cells (by simp) hc3).1; rw [add0] at this; simpa using this⟩, Same.chg d19 (by simp; omega), fun w20 d20 => ?_⟩
   have s20 := d20.size
   have d020 : Chg [] w w20 := ((d16.trans0 d18).trans0 d19).trans d20 (fun i hi hlt => by simp at hi; omega)
   have hb1q2 : ∀ b ∈ rowB q2', b ∉ [b1] := fun b hb hm => by
    simp at hm; subst hm; have := hf19 _ hb; omega
   refine ⟨rfl, rfl, rfl, rfl, rfl, rfl, ?_, fun b hb => .inr (by have := hf19 b hb; omega), (hs18.chg d19 (by simp)).chg d20 (fun b hb hm => by simp at hm; subst hm; have := hsf _ hb; omega), d020, by omega⟩
   rw [take_snoc hx, putAll_snoc]
   unfold putStep
   rw [if_neg hto']
   have : setOf (lookPr R.pairs) t = joinP (lookPr R.pairs) t.2 := by unfold setOf; rw [if_neg hto']
   rw [this] at hR19
   exact hR19.chg d20 (fun b hb => (hb1q b hb).1) hb1q2
  ·have hto' : t.1 = (0, 0) := by
    have : t.1.1 = 0 ∧ t.1.2 = 0 := by simpa using hto
    exact Prod.ext this.1 this.2
   have hst : putAll (lookPr R.pairs) (ts.take (k + 1)) R.pairs = putAll (lookPr R.pairs) (ts.take k) R.pairs := by
    rw [take_snoc hx, putAll_snoc]; unfold putStep
    rw [if_pos hto']
   exact ⟨rfl, rfl, rfl, rfl, rfl, rfl, by rw [hst]; exact hR, hq2, hs16, d16, s16⟩
 ·have hge2' : ¬ k < n := by simpa using hge2
  rw [List.take_of_length_le (by rw [hp.length]; omega)] at hR
  intro w21 d21
  have d021 : Chg [] w w21 := d16.trans d21 (fun i hi hlt => by simp at hi; omega)
  refine ⟨rfl, rfl, rfl, hE.symm, ?_, d021, fun i hi => ?_⟩
  ·unfold refApply; rw [if_pos hr, if_pos h0]
   refine hR.chg d21 (fun b hb => (hb1q b hb).2) (fun b hb hm => ?_)
   simp at hm; subst hm
   rcases hq2 _ hb with h | h
   ·have := hlt5 _ h; omega
   ·omega
  ·rcases List.mem_append.1 hi with hi | hi
   ·rcases hqf i hi with h | h
    ·exact .inl (List.mem_append_left _ h)
    ·exact .inr (by have := d03.size; omega)
   ·rcases hq2 i hi with h | h
    ·exact .inl (List.mem_append_right _ h)
    ·exact .inr (by have := d03.size; omega)
end Go.Proofs.YtfcfkhbkkfpehaaGreat
end
section
namespace Go.Proofs.YtfcfkhbkkfpehaaGreat
open Go Go.X
/- pomander/pomanderlaw12.does -/
def W_pomanderlaw12_does (f1 : Option Addr) (g1 : Int) (g2 : Int) (g3 : Int) (g4 : Option Addr) (g4n : Nat) (g4c : Nat) (g5 : Option Addr) (g5n : Nat) (g5c : Nat) (a1 : Int) (a2 : Int) (a3 : Int) (a4 : Int) (a5 : Int) (a6 : Option Addr) (a6n : Nat) (a6c : Nat) (w : World) (R : Int → Int → Int → (Option Addr) → Nat → Nat → (Option Addr) → Nat → Nat → Bool → World → Prop) : Prop :=
 ∀ (b3 b2 b1 : Nat) (w3 : World), (w.heap.size ≤ b3 ∧ b3 < w3.heap.size) → (w.heap.size ≤ b2 ∧ b2 < w3.heap.size) → (w.heap.size ≤ b1 ∧ b1 < w3.heap.size) → Chg [] w w3 → (((a1 == 1) = true → Calls Tryz.prog 31 #[.pointer f1, .agg #[.int .i64 a3, .int .i64 a4], .int .i64 a2, .int .u32 a5] w3 fun e w4 => ∃ (r7 : Int), e = .returned (.int .i64 r7) ∧ (Same w3 w4 [b3, b2, b1] ∧ (Calls Tryz.prog 42 #[.agg #[.int .i64 g1, .int .i64 g2, .int .i64 g3, .slice g4 g4n g4c, .slice g5 g5n g5c], .agg #[.int .i64 a3, .int .i64 a4], .int .i64 a2, .int .u32 a5] w4 fun e w5 => ∃ (r8 : Int) (r9 : Int) (r10 : Int) (r11 : Option Addr) (r11n : Nat) (r11c : Nat) (r12 : Option Addr) (r12n : Nat) (r12c : Nat) (r13 : Int), e = .returned (.tuple #[.agg #[.int .i64 r8, .int .i64 r9, .int .i64 r10, .slice r11 r11n r11c, .slice r12 r12n r12c], .int .i64 r13]) ∧ (Same w4 w5 [b3, b2, b1] ∧ (∀ (b4 : Nat) (w8 : World), (w5.heap.size ≤ b4 ∧ b4 < w8.heap.size) → Chg [b3] w5 w8 → (R r8 r9 r10 r11 r11n r11c r12 r12n r12c (r7 == r13) w8)))))) ∧ ((a1 == 1) = false → Calls Tryz.prog 38 #[.pointer f1, .slice a6 a6n a6c] w3 fun e w9 => ∃ (r14 : Int) (r15 : Int), e = .returned (.tuple #[.int .u32 r14, .int .i64 r15]) ∧ (Same w3 w9 [b3, b2, b1] ∧ (Calls Tryz.prog 18 #[.agg #[.int .i64 g1, .int .i64 g2, .int .i64 g3, .slice g4 g4n g4c, .slice g5 g5n g5c], .slice a6 a6n a6c] w9 fun e w10 => ∃ (r16 : Bool), e = .returned (.bool r16) ∧ (Same w9 w10 [b3, b2, b1] ∧ (∃ J1 : Bool → World → Prop, (∀ (b5 : Bool) (w11 : World), J1 b5 w11 → ((b5 || (!r16 && (!(r14 == 0) || !(r15 == 2)))) = true → ∀ (w14 : World), Chg [b3] w11 w14 → (R g1 g2 g3 g4 g4n g4c g5 g5n g5c false w14)) ∧ ((b5 || (!r16 && (!(r14 == 0) || !(r15 == 2)))) = false → Calls Tryz.prog 32 #[.pointer f1, .slice a6 a6n a6c] w11 fun e w15 => ∃ (r18 : Int), e = .returned (.int .i64 r18) ∧ (Same w11 w15 [b3, b2, b1] ∧ (Calls Tryz.prog 62 #[.agg #[.int .i64 g1, .int .i64 g2, .int .i64 g3, .slice g4 g4n g4c, .slice g5 g5n g5c], .slice a6 a6n a6c] w15 fun e w16 => ∃ (r19 : Int) (r20 : Int) (r21 : Int) (r22 : Option Addr) (r22n : Nat) (r22c : Nat) (r23 : Option Addr) (r23n : Nat) (r23c : Nat) (r24 : Int), e = .returned (.tuple #[.agg #[.int .i64 r19, .int .i64 r20, .int .i64 r21, .slice r22 r22n r22c, .slice r23 r23n r23c], .int .i64 r24]) ∧ (Same w15 w16 [b3] ∧ (∀ (b7 : Nat) (w19 : World), (w16.heap.size ≤ b7 ∧ b7 < w19.heap.size) → Chg [b3] w16 w19 → (R r19 r20 r21 r22 r22n r22c r23 r23n r23c (r18 == r24) w19))))))) ∧ (((!((r15 == 0) == r16)) = false → ∃ J2 : Bool → World → Prop, (∀ (b6 : Bool) (w12 : World), J2 b6 w12 → J1 b6 w12) ∧ ((r16 = true → Calls Tryz.prog 51 #[.agg #[.int .i64 g1, .int .i64 g2, .int .i64 g3, .slice g4 g4n g4c, .slice g5 g5n g5c], .slice a6 a6n a6c] w10 fun e w13 => ∃ (r17 : Int), e = .returned (.int .u32 r17) ∧ (Same w10 w13 [b3, b2, b1] ∧ (J2 (!(r14 == r17)) w13))) ∧ (r16 = false → J2 false w10))) ∧ ((!((r15 == 0) == r16)) = true → J1 true w10))))))))
set_option maxRecDepth 100000 in
theorem go_pomanderlaw12_does (f1 : Option Addr) (g1 : Int) (g2 : Int) (g3 : Int) (g4 : Option Addr) (g4n : Nat) (g4c : Nat) (g5 : Option Addr) (g5n : Nat) (g5c : Nat) (a1 : Int) (a2 : Int) (a3 : Int) (a4 : Int) (a5 : Int) (a6 : Option Addr) (a6n : Nat) (a6c : Nat) (w : World) (R : Int → Int → Int → (Option Addr) → Nat → Nat → (Option Addr) → Nat → Nat → Bool → World → Prop) (h : W_pomanderlaw12_does f1 g1 g2 g3 g4 g4n g4c g5 g5n g5c a1 a2 a3 a4 a5 a6 a6n a6c w R) : Calls Tryz.prog 30 #[.pointer f1, .agg #[.int .i64 g1, .int .i64 g2, .int .i64 g3, .slice g4 g4n g4c, .slice g5 g5n g5c], .agg #[.int .i64 a1, .int .i64 a2, .int .i64 a3, .int .i64 a4, .int .u32 a5, .slice a6 a6n a6c]] w (fun e w' => ∃ (r1 : Int) (r2 : Int) (r3 : Int) (r4 : Option Addr) (r4n : Nat) (r4c : Nat) (r5 : Option Addr) (r5n : Nat) (r5c : Nat) (r6 : Bool), e = .returned (.tuple #[.agg #[.int .i64 r1, .int .i64 r2, .int .i64 r3, .slice r4 r4n r4c, .slice r5 r5n r5c], .bool r6]) ∧ R r1 r2 r3 r4 r4n r4c r5 r5n r5c r6 w') := by
 unfold W_pomanderlaw12_does at h
 refine enter (N := 97) Tryz.func30 rfl rfl ?_
 refine CW.seq ?_
 refine CW.region fun L hL => ?_
 obtain ⟨b1, hb_b1⟩ : ∃ b1, b1 = World.size w := ⟨_, rfl⟩
 obtain ⟨w1, hw_w1⟩ : ∃ w1, w1 = World.alloc w (.cells #[.int .i64 g1, .int .i64 g2, .int .i64 g3, .slice g4 g4n g4c, .slice g5 g5n g5c] 43) := ⟨_, rfl⟩
 refine LW.val hL rfl (Wants.free rfl) rfl (boxE hb_b1 hw_w1 (Vl.box (v := .agg #[.int .i64 g1, .int .i64 g2, .int .i64 g3, .slice g4 g4n g4c, .slice g5 g5n g5c]) rfl)) ?_
 have hB := Boxes.alloc (cs := [.int .i64 g1, .int .i64 g2, .int .i64 g3, .slice g4 g4n g4c, .slice g5 g5n g5c]) (T := 43) (Boxes.nil w) hb_b1 hw_w1
 have hlo_b1 := sil_lo (Chg.refl [] w) hb_b1
 have hc_w1 := sil_alloc (Chg.refl [] w) hw_w1
 obtain ⟨b2, hb_b2⟩ : ∃ b2, b2 = World.size w1 := ⟨_, rfl⟩
 obtain ⟨w2, hw_w2⟩ : ∃ w2, w2 = World.alloc w1 (.cells #[.int .i64 a1, .int .i64 a2, .int .i64 a3, .int .i64 a4, .int .u32 a5, .slice a6 a6n a6c] 79) := ⟨_, rfl⟩
 refine LW.val hL rfl (Wants.free rfl) rfl (boxE hb_b2 hw_w2 (Vl.box (v := .agg #[.int .i64 a1, .int .i64 a2, .int .i64 a3, .int .i64 a4, .int .u32 a5, .slice a6 a6n a6c]) rfl)) ?_
 replace hB := Boxes.alloc (cs := [.int .i64 a1, .int .i64 a2, .int .i64 a3, .int .i64 a4, .int .u32 a5, .slice a6 a6n a6c]) (T := 79) hB hb_b2 hw_w2
 have hlo_b2 := sil_lo hc_w1 hb_b2
 have hc_w2 := sil_alloc hc_w1 hw_w2
 obtain ⟨b3, hb_b3⟩ : ∃ b3, b3 = World.size w2 := ⟨_, rfl⟩
 obtain ⟨w3, hw_w3⟩ : ∃ w3, w3 = World.alloc w2 (.cells #[.int .i64 0, .int .i64 0, .int .i64 0, .slice none 0 0, .slice none 0 0] 43) := ⟨_, rfl⟩
 refine LW.val hL rfl (Wants.free rfl) rfl (boxE hb_b3 hw_w3 (Vl.alloc (z := .agg #[.int .i64 0, .int .i64 0, .int .i64 0, .slice none 0 0, .slice none 0 0]) (by kernel_rfl))) ?_
 replace hB := Boxes.alloc (cs := [.int .i64 0, .int .i64 0, .int .i64 0, .slice none 0 0, .slice none 0 0]) (T := 43) hB hb_b3 hw_w3
 have hlo_b3 := sil_lo hc_w2 hb_b3
 have hc_w3 := sil_alloc hc_w2 hw_w3
 refine LW.rd hL rfl (Wants.free rfl) rfl (Rd.assign (v := .bool false) rfl) ?_
 refine LW.nil hL rfl ?_
 refine NW.then ?_
 refine CW.seq ?_
 refine CW.seq ?_
 refine CW.region fun L hL => ?_
 refine LW.rd hL rfl (Wants.free rfl) rfl (Rd.fa (v := .pointer (some (⟨b2, 0, none⟩ : Addr))) rfl (fun _ => by kernel_rfl)) ?_
 refine LW.rd hL rfl (Wants.free rfl) rfl (Rd.ld (v := .int .i64 a1) rfl (by kernel_rfl) (eqs (box_cell (hB.at (i := 1) rfl) rfl))) ?_
 refine LW.rd hL rfl (Wants.free rfl) rfl (Rd.bin (v := .bool (a1 == 1)) rfl rfl (fun w => by kernel_rfl)) ?_
 refine LW.nil hL rfl ?_
 refine NW.then ?_
 replace h := h b3 b2 b1 w3 ⟨hlo_b3, lt_of_heap (hB.at (i := 0) rfl)⟩ ⟨hlo_b2, lt_of_heap (hB.at (i := 1) rfl)⟩ ⟨hlo_b1, lt_of_heap (hB.at (i := 2) rfl)⟩ hc_w3
 refine CW.cond rfl (fun hb1 => ?_) (fun hb1 => ?_)
 ·replace h := h.1 hb1
  refine CW.seq ?_
  refine CW.region fun L hL => ?_
  refine LW.rd hL rfl (Wants.free rfl) rfl (Rd.move (v := .pointer f1) rfl) ?_
  refine LW.rd hL rfl (Wants.free rfl) rfl (Rd.fa (v := .pointer (some (⟨b2, 2, none⟩ : Addr))) rfl (fun _ => by kernel_rfl)) ?_
  refine LW.rd hL rfl (Wants.free rfl) rfl (Rd.ldN (cs := [.int .i64 a3, .int .i64 a4]) rfl (by kernel_rfl) (by kernel_rfl) (cellsS (box_cells (hB.at (i := 1) rfl) rfl))) ?_
  refine LW.rd hL rfl (Wants.free rfl) rfl (Rd.fa (v := .pointer (some (⟨b2, 1, none⟩ : Addr))) rfl (fun _ => by kernel_rfl)) ?_
  refine LW.rd hL rfl (Wants.free rfl) rfl (Rd.ld (v := .int .i64 a2) rfl (by kernel_rfl) (eqs (box_cell (hB.at (i := 1) rfl) rfl))) ?_
  refine LW.rd hL rfl (Wants.free rfl) rfl (Rd.fa (v := .pointer (some (⟨b2, 4, none⟩ : Addr))) rfl (fun _ => by kernel_rfl)) ?_
  refine LW.rd hL rfl (Wants.free rfl) rfl (Rd.ld (v := .int .u32 a5) rfl (by kernel_rfl) (eqs (box_cell (hB.at (i := 1) rfl) rfl))) ?_
  refine LW.call hL rfl (Wants.free rfl) rfl (Cl.fn (f := 31) rfl Tryz.func31 (by kernel_rfl) rfl) h (fun e w4 h_ => ?_)
  clear h
  obtain ⟨r7, rfl, h⟩ := h_
  obtain ⟨hsm1, h⟩ := h
  replace hB := Boxes.sameS hB hsm1 (by simp)
  refine ⟨_, rfl, ?_⟩
  refine LW.rd hL rfl (Wants.free rfl) rfl (Rd.assign (v := .int .i64 r7) rfl) ?_
  refine LW.nil hL rfl ?_
  refine NW.then ?_
  refine CW.seq ?_
  refine CW.region fun L hL => ?_
  refine LW.rd hL rfl (Wants.free rfl) rfl (Rd.ldN (cs := [.int .i64 g1, .int .i64 g2, .int .i64 g3, .slice g4 g4n g4c, .slice g5 g5n g5c]) rfl (by kernel_rfl) (by kernel_rfl) (cellsS (box_cells (hB.at (i := 2) rfl) rfl))) ?_
  refine LW.rd hL rfl (Wants.free rfl) rfl (Rd.fa (v := .pointer (some (⟨b2, 2, none⟩ : Addr))) rfl (fun _ => by kernel_rfl)) ?_
  refine LW.rd hL rfl (Wants.free rfl) rfl (Rd.ldN (cs := [.int .i64 a3, .int .i64 a4]) rfl (by kernel_rfl) (by kernel_rfl) (cellsS (box_cells (hB.at (i := 1) rfl) rfl))) ?_
  refine LW.rd hL rfl (Wants.free rfl) rfl (Rd.fa (v := .pointer (some (⟨b2, 1, none⟩ : Addr))) rfl (fun _ => by kernel_rfl)) ?_
  refine LW.rd hL rfl (Wants.free rfl) rfl (Rd.ld (v := .int .i64 a2) rfl (by kernel_rfl) (eqs (box_cell (hB.at (i := 1) rfl) rfl))) ?_
  refine LW.rd hL rfl (Wants.free rfl) rfl (Rd.fa (v := .pointer (some (⟨b2, 4, none⟩ : Addr))) rfl (fun _ => by kernel_rfl)) ?_
  refine LW.rd hL rfl (Wants.free rfl) rfl (Rd.ld (v := .int .u32 a5) rfl (by kernel_rfl) (eqs (box_cell (hB.at (i := 1) rfl) rfl))) ?_
  refine LW.call hL rfl (Wants.free rfl) rfl (Cl.fn (f := 42) rfl Tryz.func42 (by kernel_rfl) rfl) h (fun e w5 h_ => ?_)
  clear h
  obtain ⟨r8, r9, r10, r11, r11n, r11c, r12, r12n, r12c, r13, rfl, h⟩ := h_
  obtain ⟨hsm2, h⟩ := h
  replace hB := Boxes.sameS hB hsm2 (by simp)
  refine ⟨_, rfl, ?_⟩
  refine LW.rd hL rfl (Wants.free rfl) rfl (Rd.move (v := .tuple #[.agg #[.int .i64 r8, .int .i64 r9, .int .i64 r10, .slice r11 r11n r11c, .slice r12 r12n r12c], .int .i64 r13]) rfl) ?_
  refine LW.rd hL rfl (Wants.free rfl) rfl (Rd.extract (v := .agg #[.int .i64 r8, .int .i64 r9, .int .i64 r10, .slice r11 r11n r11c, .slice r12 r12n r12c]) rfl rfl) ?_
  refine LW.rd hL rfl (Wants.free rfl) rfl (Rd.extract (v := .int .i64 r13) rfl rfl) ?_
  obtain ⟨b4, hb_b4⟩ : ∃ b4, b4 = World.size w5 := ⟨_, rfl⟩
  obtain ⟨w6, hw_w6⟩ : ∃ w6, w6 = World.alloc w5 (.cells #[.int .i64 0, .int .i64 0, .int .i64 0, .slice none 0 0, .slice none 0 0] 43) := ⟨_, rfl⟩
  refine LW.val hL rfl (Wants.free rfl) rfl (boxE hb_b4 hw_w6 (Vl.alloc (z := .agg #[.int .i64 0, .int .i64 0, .int .i64 0, .slice none 0 0, .slice none 0 0]) (by kernel_rfl))) ?_
  replace hB := Boxes.alloc (cs := [.int .i64 0, .int .i64 0, .int .i64 0, .slice none 0 0, .slice none 0 0]) (T := 43) hB hb_b4 hw_w6
  have hlo_b4 := sil_lo (Chg.refl [] w5) hb_b4
  have hc_w6 := sil_alloc (Chg.refl [] w5) hw_w6
  obtain ⟨w7, hw_w7⟩ : ∃ x, x = setCells w6 (⟨b4, 0, none⟩ : Addr) 0 [.int .i64 r8, .int .i64 r9, .int .i64 r10, .slice r11 r11n r11c, .slice r12 r12n r12c] := ⟨_, rfl⟩
  refine LW.eff hL rfl (Wants.free rfl) rfl (stNE hw_w7 (Ef.stN (cs := [.int .i64 r8, .int .i64 r9, .int .i64 r10, .slice r11 r11n r11c, .slice r12 r12n r12c]) rfl rfl (by kernel_rfl) (List.forall_mem_cons.2 ⟨rfl, (List.forall_mem_cons.2 ⟨rfl, (List.forall_mem_cons.2 ⟨rfl, (List.forall_mem_cons.2 ⟨rfl, (List.forall_mem_cons.2 ⟨rfl, (List.forall_mem_nil _)⟩)⟩)⟩)⟩)⟩) (has_of (hB.at (i := 0) rfl) (by simp)) (free_of' (hB.at (i := 0) rfl)))) ?_
  replace hB : Boxes w7 [(b4, [.int .i64 r8, .int .i64 r9, .int .i64 r10, .slice r11 r11n r11c, .slice r12 r12n r12c], 43), (b3, [.int .i64 0, .int .i64 0, .int .i64 0, .slice none 0 0, .slice none 0 0], 43), (b2, [.int .i64 a1, .int .i64 a2, .int .i64 a3, .int .i64 a4, .int .u32 a5, .slice a6 a6n a6c], 79), (b1, [.int .i64 g1, .int .i64 g2, .int .i64 g3, .slice g4 g4n g4c, .slice g5 g5n g5c], 43)] := Boxes.store (vs := [.int .i64 r8, .int .i64 r9, .int .i64 r10, .slice r11 r11n r11c, .slice r12 r12n r12c]) (i := 0) (o := 0) hB rfl rfl rfl rfl hw_w7
  have hc_w7 := sil_new hc_w6 (sil_cN hw_w7) hlo_b4
  refine LW.rd hL rfl (Wants.free rfl) rfl (Rd.assign (v := .int .i64 r13) rfl) ?_
  refine LW.nil hL rfl ?_
  refine NW.then ?_
  refine CW.seq ?_
  refine CW.region fun L hL => ?_
  refine LW.rd hL rfl (Wants.free rfl) rfl (Rd.ldN (cs := [.int .i64 r8, .int .i64 r9, .int .i64 r10, .slice r11 r11n r11c, .slice r12 r12n r12c]) rfl (by kernel_rfl) (by kernel_rfl) (cellsS (box_cells (hB.at (i := 0) rfl) rfl))) ?_
  refine LW.rd hL rfl (Wants.free rfl) rfl (Rd.move (v := .int .i64 r7) rfl) ?_
  refine LW.rd hL rfl (Wants.free rfl) rfl (Rd.move (v := .int .i64 r13) rfl) ?_
  refine LW.rd hL rfl (Wants.free rfl) rfl (Rd.bin (v := .bool (r7 == r13)) rfl rfl (fun w => by kernel_rfl)) ?_
  obtain ⟨w8, hw_w8⟩ : ∃ x, x = setCells w7 (⟨b3, 0, none⟩ : Addr) 0 [.int .i64 r8, .int .i64 r9, .int .i64 r10, .slice r11 r11n r11c, .slice r12 r12n r12c] := ⟨_, rfl⟩
  refine LW.eff hL rfl (Wants.free rfl) rfl (stNE hw_w8 (Ef.stN (cs := [.int .i64 r8, .int .i64 r9, .int .i64 r10, .slice r11 r11n r11c, .slice r12 r12n r12c]) rfl rfl (by kernel_rfl) (List.forall_mem_cons.2 ⟨rfl, (List.forall_mem_cons.2 ⟨rfl, (List.forall_mem_cons.2 ⟨rfl, (List.forall_mem_cons.2 ⟨rfl, (List.forall_mem_cons.2 ⟨rfl, (List.forall_mem_nil _)⟩)⟩)⟩)⟩)⟩) (has_of (hB.at (i := 1) rfl) (by simp)) (free_of' (hB.at (i := 1) rfl)))) ?_
  replace hB : Boxes w8 [(b4, [.int .i64 r8, .int .i64 r9, .int .i64 r10, .slice r11 r11n r11c, .slice r12 r12n r12c], 43), (b3, [.int .i64 r8, .int .i64 r9, .int .i64 r10, .slice r11 r11n r11c, .slice r12 r12n r12c], 43), (b2, [.int .i64 a1, .int .i64 a2, .int .i64 a3, .int .i64 a4, .int .u32 a5, .slice a6 a6n a6c], 79), (b1, [.int .i64 g1, .int .i64 g2, .int .i64 g3, .slice g4 g4n g4c, .slice g5 g5n g5c], 43)] := Boxes.store (vs := [.int .i64 r8, .int .i64 r9, .int .i64 r10, .slice r11 r11n r11c, .slice r12 r12n r12c]) (i := 1) (o := 0) hB rfl rfl rfl rfl hw_w8
  have hc_w8 : Chg [b3] w5 w8 := sil_more hc_w7 (sil_cN hw_w8)
  refine LW.rd hL rfl (Wants.free rfl) rfl (Rd.assign (v := .bool (r7 == r13)) rfl) ?_
  refine LW.nil hL rfl ?_
  refine NW.then ?_
  replace h := h b4 w8 ⟨hlo_b4, lt_of_heap (hB.at (i := 0) rfl)⟩ hc_w8
  refine CW.ret ?_
  refine RW.then ?_
  exact resN (vs := [.agg #[.int .i64 r8, .int .i64 r9, .int .i64 r10, .slice r11 r11n r11c, .slice r12 r12n r12c], .bool (r7 == r13)]) (ResOK.c rfl (lvN (cs := [.int .i64 r8, .int .i64 r9, .int .i64 r10, .slice r11 r11n r11c, .slice r12 r12n r12c]) (by kernel_rfl) (by kernel_rfl) (cellsAt_get (box_cells (hB.at (i := 1) rfl) rfl))) (ResOK.t rfl ResOK.nil)) rfl ⟨r8, r9, r10, r11, r11n, r11c, r12, r12n, r12c, r7 == r13, rfl, h⟩
 ·replace h := h.2 hb1
  refine CW.skip ?_
  refine NW.then ?_
  refine CW.seq ?_
  refine CW.region fun L hL => ?_
  refine LW.rd hL rfl (Wants.free rfl) rfl (Rd.move (v := .pointer f1) rfl) ?_
  refine LW.rd hL rfl (Wants.free rfl) rfl (Rd.fa (v := .pointer (some (⟨b2, 5, none⟩ : Addr))) rfl (fun _ => by kernel_rfl)) ?_
  refine LW.rd hL rfl (Wants.free rfl) rfl (Rd.ld (v := .slice a6 a6n a6c) rfl (by kernel_rfl) (eqs (box_cell (hB.at (i := 1) rfl) rfl))) ?_
  refine LW.call hL rfl (Wants.free rfl) rfl (Cl.fn (f := 38) rfl Tryz.func38 (by kernel_rfl) rfl) h (fun e w9 h_ => ?_)
  clear h
  obtain ⟨r14, r15, rfl, h⟩ := h_
  obtain ⟨hsm3, h⟩ := h
  replace hB := Boxes.sameS hB hsm3 (by simp)
  refine ⟨_, rfl, ?_⟩
  refine LW.rd hL rfl (Wants.free rfl) rfl (Rd.move (v := .tuple #[.int .u32 r14, .int .i64 r15]) rfl) ?_
  refine LW.rd hL rfl (Wants.free rfl) rfl (Rd.extract (v := .int .u32 r14) rfl rfl) ?_
  refine LW.rd hL rfl (Wants.free rfl) rfl (Rd.extract (v := .int .i64 r15) rfl rfl) ?_
  refine LW.rd hL rfl (Wants.free rfl) rfl (Rd.assign (v := .int .u32 r14) rfl) ?_
  refine LW.rd hL rfl (Wants.free rfl) rfl (Rd.assign (v := .int .i64 r15) rfl) ?_
  refine LW.nil hL rfl ?_
  refine NW.then ?_
  refine CW.seq ?_
  refine CW.region fun L hL => ?_
  refine LW.rd hL rfl (Wants.free rfl) rfl (Rd.ldN (cs := [.int .i64 g1, .int .i64 g2, .int .i64 g3, .slice g4 g4n g4c, .slice g5 g5n g5c]) rfl (by kernel_rfl) (by kernel_rfl) (cellsS (box_cells (hB.at (i := 2) rfl) rfl))) ?_
  refine LW.rd hL rfl (Wants.free rfl) rfl (Rd.fa (v := .pointer (some (⟨b2, 5, none⟩ : Addr))) rfl (fun _ => by kernel_rfl)) ?_
  refine LW.rd hL rfl (Wants.free rfl) rfl (Rd.ld (v := .slice a6 a6n a6c) rfl (by kernel_rfl) (eqs (box_cell (hB.at (i := 1) rfl) rfl))) ?_
  refine LW.call hL rfl (Wants.free rfl) rfl (Cl.fn (f := 18) rfl Tryz.func18 (by kernel_rfl) rfl) h (fun e w10 h_ => ?_)
  clear h
  obtain ⟨r16, rfl, h⟩ := h_
  obtain ⟨hsm4, h⟩ := h
  replace hB := Boxes.sameS hB hsm4 (by simp)
  refine ⟨_, rfl, ?_⟩
  refine LW.rd hL rfl (Wants.free rfl) rfl (Rd.assign (v := .bool r16) rfl) ?_
  refine LW.nil hL rfl ?_
  refine NW.then ?_
  refine CW.seq ?_
  refine CW.seq ?_
  refine CW.region fun L hL => ?_
  refine LW.rd hL rfl (Wants.free rfl) rfl (Rd.move (v := .int .i64 r15) rfl) ?_
  refine LW.rd hL rfl (Wants.free rfl) rfl (Rd.bin (v := .bool (r15 == 0)) rfl rfl (fun w => by kernel_rfl)) ?_
  refine LW.rd hL rfl (Wants.free rfl) rfl (Rd.move (v := .bool r16) rfl) ?_
  refine LW.rd hL rfl (Wants.free rfl) rfl (Rd.bin (v := .bool (!((r15 == 0) == r16))) rfl rfl (fun w => by kernel_rfl)) ?_
  refine LW.rd hL rfl (Wants.free rfl) rfl (Rd.move (v := .bool (!((r15 == 0) == r16))) rfl) ?_
  obtain ⟨J1, hJ1, h1_J1, h0_J1⟩ := h
  suffices K1 : ∀ (b5 : Bool) (w11 : World), Boxes w11 [(b3, [.int .i64 0, .int .i64 0, .int .i64 0, .slice none 0 0, .slice none 0 0], 43), (b2, [.int .i64 a1, .int .i64 a2, .int .i64 a3, .int .i64 a4, .int .u32 a5, .slice a6 a6n a6c], 79), (b1, [.int .i64 g1, .int .i64 g2, .int .i64 g3, .slice g4 g4n g4c, .slice g5 g5n g5c], 43)] → J1 b5 w11 → L 15 [(0, .pointer f1), (4, .pointer (some (⟨b1, 0, none⟩ : Addr))), (5, .pointer (some (⟨b2, 0, none⟩ : Addr))), (6, .pointer (some (⟨b3, 0, none⟩ : Addr))), (7, .bool false), (11, .int .u32 r14), (12, .int .i64 r15), (13, .bool r16), (68, .bool b5)] w11 by
   rcases Bool.eq_false_or_eq_true (!((r15 == 0) == r16)) with hb2 | hb2
   ·have h := h0_J1 hb2
    refine LW.skip hL rfl (Skips.on rfl rfl rfl rfl rfl hb2) rfl ?_
    refine LW.skip hL rfl (Skips.on rfl rfl rfl rfl rfl hb2) rfl ?_
    refine LW.skip hL rfl (Skips.un rfl rfl rfl rfl rfl) rfl ?_
    refine LW.skip hL rfl (Skips.un rfl rfl rfl rfl rfl) rfl ?_
    refine LW.skip hL rfl (Skips.un rfl rfl rfl rfl rfl) rfl ?_
    refine LW.skip hL rfl (Skips.un rfl rfl rfl rfl rfl) rfl ?_
    refine LW.skip hL rfl (Skips.un rfl rfl rfl rfl rfl) rfl ?_
    refine LW.skip hL rfl (Skips.un rfl rfl rfl rfl rfl) rfl ?_
    refine LW.skip hL rfl (Skips.on rfl rfl rfl rfl rfl hb2) rfl ?_
    refine LW.rd hL rfl (Wants.free rfl) rfl (Rd.pickT rfl hb2 rfl) ?_
    exact LW.sub hL (by exact ⟨rfl, rfl, rfl, rfl, rfl, rfl, rfl, rfl, rfl, trivial⟩) (K1 true w10 (by exact hB) h)
   ·have h := h1_J1 hb2
    refine LW.rd hL rfl (Wants.on rfl rfl rfl rfl rfl hb2) rfl (Rd.move (v := .bool r16) rfl) ?_
    refine LW.rd hL rfl (Wants.on rfl rfl rfl rfl rfl hb2) rfl (Rd.move (v := .bool r16) rfl) ?_
    obtain ⟨J2, hJ2, h1_J2, h0_J2⟩ := h
    suffices K2 : ∀ (b6 : Bool) (w12 : World), Boxes w12 [(b3, [.int .i64 0, .int .i64 0, .int .i64 0, .slice none 0 0, .slice none 0 0], 43), (b2, [.int .i64 a1, .int .i64 a2, .int .i64 a3, .int .i64 a4, .int .u32 a5, .slice a6 a6n a6c], 79), (b1, [.int .i64 g1, .int .i64 g2, .int .i64 g3, .slice g4 g4n g4c, .slice g5 g5n g5c], 43)] → J2 b6 w12 → L 14 [(0, .pointer f1), (4, .pointer (some (⟨b1, 0, none⟩ : Addr))), (5, .pointer (some (⟨b2, 0, none⟩ : Addr))), (6, .pointer (some (⟨b3, 0, none⟩ : Addr))), (7, .bool false), (11, .int .u32 r14), (12, .int .i64 r15), (13, .bool r16), (58, .bool (!((r15 == 0) == r16))), (67, .bool b6)] w12 by
     rcases Bool.eq_false_or_eq_true r16 with hb3 | hb3
     ·have h := h1_J2 hb3
      refine LW.rd hL rfl (Wants.on rfl rfl rfl rfl rfl hb3) rfl (Rd.move (v := .int .u32 r14) rfl) ?_
      refine LW.rd hL rfl (Wants.on rfl rfl rfl rfl rfl hb3) rfl (Rd.ldN (cs := [.int .i64 g1, .int .i64 g2, .int .i64 g3, .slice g4 g4n g4c, .slice g5 g5n g5c]) rfl (by kernel_rfl) (by kernel_rfl) (cellsS (box_cells (hB.at (i := 2) rfl) rfl))) ?_
      refine LW.rd hL rfl (Wants.on rfl rfl rfl rfl rfl hb3) rfl (Rd.fa (v := .pointer (some (⟨b2, 5, none⟩ : Addr))) rfl (fun _ => by kernel_rfl)) ?_
      refine LW.rd hL rfl (Wants.on rfl rfl rfl rfl rfl hb3) rfl (Rd.ld (v := .slice a6 a6n a6c) rfl (by kernel_rfl) (eqs (box_cell (hB.at (i := 1) rfl) rfl))) ?_
      refine LW.call hL rfl (Wants.on rfl rfl rfl rfl rfl hb3) rfl (Cl.fn (f := 51) rfl Tryz.func51 (by kernel_rfl) rfl) h (fun e w13 h_ => ?_)
      clear h
      obtain ⟨r17, rfl, h⟩ := h_
      obtain ⟨hsm5, h⟩ := h
      replace hB := Boxes.sameS hB hsm5 (by simp)
      refine ⟨_, rfl, ?_⟩
      refine LW.rd hL rfl (Wants.on rfl rfl rfl rfl rfl hb3) rfl (Rd.bin (v := .bool (!(r14 == r17))) rfl rfl (fun w => by kernel_rfl)) ?_
      refine LW.rd hL rfl (Wants.on rfl rfl rfl rfl rfl hb2) rfl (Rd.pickT rfl hb3 rfl) ?_
      exact LW.sub hL (by exact ⟨rfl, rfl, rfl, rfl, rfl, rfl, rfl, rfl, rfl, rfl, trivial⟩) (K2 (!(r14 == r17)) w13 (by exact hB) h)
     ·have h := h0_J2 hb3
      refine LW.skip hL rfl (Skips.on rfl rfl rfl rfl rfl hb3) rfl ?_
      refine LW.skip hL rfl (Skips.on rfl rfl rfl rfl rfl hb3) rfl ?_
      refine LW.skip hL rfl (Skips.on rfl rfl rfl rfl rfl hb3) rfl ?_
      refine LW.skip hL rfl (Skips.on rfl rfl rfl rfl rfl hb3) rfl ?_
      refine LW.skip hL rfl (Skips.on rfl rfl rfl rfl rfl hb3) rfl ?_
      refine LW.skip hL rfl (Skips.on rfl rfl rfl rfl rfl hb3) rfl ?_
      refine LW.rd hL rfl (Wants.on rfl rfl rfl rfl rfl hb2) rfl (Rd.pickF rfl hb3 rfl) ?_
      exact LW.sub hL (by exact ⟨rfl, rfl, rfl, rfl, rfl, rfl, rfl, rfl, rfl, rfl, trivial⟩) (K2 false w10 (by exact hB) h)
    intro b6 w12 hB h_
    have h := hJ2 b6 w12 h_; clear h_
    refine LW.rd hL rfl (Wants.free rfl) rfl (Rd.pickF rfl hb2 rfl) ?_
    exact LW.sub hL (by exact ⟨rfl, rfl, rfl, rfl, rfl, rfl, rfl, rfl, rfl, trivial⟩) (K1 b6 w12 (by exact hB) h)
  intro b5 w11 hB h_
  have h := hJ1 b5 w11 h_; clear h_
  refine LW.rd hL rfl (Wants.free rfl) rfl (Rd.move (v := .bool b5) rfl) ?_
  suffices K3 : L 27 [(0, .pointer f1), (4, .pointer (some (⟨b1, 0, none⟩ : Addr))), (5, .pointer (some (⟨b2, 0, none⟩ : Addr))), (6, .pointer (some (⟨b3, 0, none⟩ : Addr))), (7, .bool false), (80, .bool (b5 || (!r16 && (!(r14 == 0) || !(r15 == 2)))))] w11 by
   rcases Bool.eq_false_or_eq_true b5 with hb5 | hb5
   ·skip
    refine LW.skip hL rfl (Skips.on rfl rfl rfl rfl rfl hb5) rfl ?_
    refine LW.skip hL rfl (Skips.on rfl rfl rfl rfl rfl hb5) rfl ?_
    refine LW.skip hL rfl (Skips.on rfl rfl rfl rfl rfl hb5) rfl ?_
    refine LW.skip hL rfl (Skips.un rfl rfl rfl rfl rfl) rfl ?_
    refine LW.skip hL rfl (Skips.un rfl rfl rfl rfl rfl) rfl ?_
    refine LW.skip hL rfl (Skips.un rfl rfl rfl rfl rfl) rfl ?_
    refine LW.skip hL rfl (Skips.un rfl rfl rfl rfl rfl) rfl ?_
    refine LW.skip hL rfl (Skips.un rfl rfl rfl rfl rfl) rfl ?_
    refine LW.skip hL rfl (Skips.un rfl rfl rfl rfl rfl) rfl ?_
    refine LW.skip hL rfl (Skips.on rfl rfl rfl rfl rfl hb5) rfl ?_
    refine LW.rd hL rfl (Wants.free rfl) rfl (Rd.pickT rfl hb5 rfl) ?_
    exact LW.sub hL (by exact ⟨rfl, rfl, rfl, rfl, rfl, (by rw [hb5]; rfl), trivial⟩) K3
   ·skip
    refine LW.rd hL rfl (Wants.on rfl rfl rfl rfl rfl hb5) rfl (Rd.move (v := .bool r16) rfl) ?_
    refine LW.rd hL rfl (Wants.on rfl rfl rfl rfl rfl hb5) rfl (Rd.un (v := .bool (!r16)) rfl (fun _ => by kernel_rfl)) ?_
    refine LW.rd hL rfl (Wants.on rfl rfl rfl rfl rfl hb5) rfl (Rd.move (v := .bool (!r16)) rfl) ?_
    suffices K4 : L 26 [(0, .pointer f1), (4, .pointer (some (⟨b1, 0, none⟩ : Addr))), (5, .pointer (some (⟨b2, 0, none⟩ : Addr))), (6, .pointer (some (⟨b3, 0, none⟩ : Addr))), (7, .bool false), (69, .bool b5), (79, .bool (!r16 && (!(r14 == 0) || !(r15 == 2))))] w11 by
     rcases Bool.eq_false_or_eq_true (!r16) with hb7 | hb7
     ·skip
      refine LW.rd hL rfl (Wants.on rfl rfl rfl rfl rfl hb7) rfl (Rd.move (v := .int .u32 r14) rfl) ?_
      refine LW.rd hL rfl (Wants.on rfl rfl rfl rfl rfl hb7) rfl (Rd.bin (v := .bool (!(r14 == 0))) rfl rfl (fun w => by kernel_rfl)) ?_
      refine LW.rd hL rfl (Wants.on rfl rfl rfl rfl rfl hb7) rfl (Rd.move (v := .bool (!(r14 == 0))) rfl) ?_
      suffices K5 : L 25 [(0, .pointer f1), (4, .pointer (some (⟨b1, 0, none⟩ : Addr))), (5, .pointer (some (⟨b2, 0, none⟩ : Addr))), (6, .pointer (some (⟨b3, 0, none⟩ : Addr))), (7, .bool false), (69, .bool b5), (72, .bool (!r16)), (78, .bool (!(r14 == 0) || !(r15 == 2)))] w11 by
       rcases Bool.eq_false_or_eq_true (!(r14 == 0)) with hb9 | hb9
       ·skip
        refine LW.skip hL rfl (Skips.on rfl rfl rfl rfl rfl hb9) rfl ?_
        refine LW.skip hL rfl (Skips.on rfl rfl rfl rfl rfl hb9) rfl ?_
        refine LW.rd hL rfl (Wants.on rfl rfl rfl rfl rfl hb7) rfl (Rd.pickT rfl hb9 rfl) ?_
        exact LW.sub hL (by exact ⟨rfl, rfl, rfl, rfl, rfl, rfl, rfl, (by rw [hb9]; rfl), trivial⟩) K5
       ·skip
        refine LW.rd hL rfl (Wants.on rfl rfl rfl rfl rfl hb9) rfl (Rd.move (v := .int .i64 r15) rfl) ?_
        refine LW.rd hL rfl (Wants.on rfl rfl rfl rfl rfl hb9) rfl (Rd.bin (v := .bool (!(r15 == 2))) rfl rfl (fun w => by kernel_rfl)) ?_
        refine LW.rd hL rfl (Wants.on rfl rfl rfl rfl rfl hb7) rfl (Rd.pickF rfl hb9 rfl) ?_
        exact LW.sub hL (by exact ⟨rfl, rfl, rfl, rfl, rfl, rfl, rfl, (by rw [hb9]; rfl), trivial⟩) K5
      refine LW.rd hL rfl (Wants.on rfl rfl rfl rfl rfl hb5) rfl (Rd.pickT rfl hb7 rfl) ?_
      exact LW.sub hL (by exact ⟨rfl, rfl, rfl, rfl, rfl, rfl, (by rw [hb7]; rfl), trivial⟩) K4
     ·skip
      refine LW.skip hL rfl (Skips.on rfl rfl rfl rfl rfl hb7) rfl ?_
      refine LW.skip hL rfl (Skips.on rfl rfl rfl rfl rfl hb7) rfl ?_
      refine LW.skip hL rfl (Skips.on rfl rfl rfl rfl rfl hb7) rfl ?_
      refine LW.skip hL rfl (Skips.un rfl rfl rfl rfl rfl) rfl ?_
      refine LW.skip hL rfl (Skips.un rfl rfl rfl rfl rfl) rfl ?_
      refine LW.skip hL rfl (Skips.on rfl rfl rfl rfl rfl hb7) rfl ?_
      refine LW.rd hL rfl (Wants.on rfl rfl rfl rfl rfl hb5) rfl (Rd.pickF rfl hb7 rfl) ?_
      exact LW.sub hL (by exact ⟨rfl, rfl, rfl, rfl, rfl, rfl, (by rw [hb7]; rfl), trivial⟩) K4
    refine LW.rd hL rfl (Wants.free rfl) rfl (Rd.pickF rfl hb5 rfl) ?_
    exact LW.sub hL (by exact ⟨rfl, rfl, rfl, rfl, rfl, (by rw [hb5]; rfl), trivial⟩) K3
  refine LW.nil hL rfl ?_
  refine NW.then ?_
  refine CW.cond rfl (fun hb10 => ?_) (fun hb10 => ?_)
  ·replace h := h.1 hb10
   refine CW.seq ?_
   refine CW.region fun L hL => ?_
   refine LW.rd hL rfl (Wants.free rfl) rfl (Rd.ldN (cs := [.int .i64 g1, .int .i64 g2, .int .i64 g3, .slice g4 g4n g4c, .slice g5 g5n g5c]) rfl (by kernel_rfl) (by kernel_rfl) (cellsS (box_cells (hB.at (i := 2) rfl) rfl))) ?_
   obtain ⟨w14, hw_w14⟩ : ∃ x, x = setCells w11 (⟨b3, 0, none⟩ : Addr) 0 [.int .i64 g1, .int .i64 g2, .int .i64 g3, .slice g4 g4n g4c, .slice g5 g5n g5c] := ⟨_, rfl⟩
   refine LW.eff hL rfl (Wants.free rfl) rfl (stNE hw_w14 (Ef.stN (cs := [.int .i64 g1, .int .i64 g2, .int .i64 g3, .slice g4 g4n g4c, .slice g5 g5n g5c]) rfl rfl (by kernel_rfl) (List.forall_mem_cons.2 ⟨rfl, (List.forall_mem_cons.2 ⟨rfl, (List.forall_mem_cons.2 ⟨rfl, (List.forall_mem_cons.2 ⟨rfl, (List.forall_mem_cons.2 ⟨rfl, (List.forall_mem_nil _)⟩)⟩)⟩)⟩)⟩) (has_of (hB.at (i := 0) rfl) (by simp)) (free_of' (hB.at (i := 0) rfl)))) ?_
   replace hB : Boxes w14 [(b3, [.int .i64 g1, .int .i64 g2, .int .i64 g3, .slice g4 g4n g4c, .slice g5 g5n g5c], 43), (b2, [.int .i64 a1, .int .i64 a2, .int .i64 a3, .int .i64 a4, .int .u32 a5, .slice a6 a6n a6c], 79), (b1, [.int .i64 g1, .int .i64 g2, .int .i64 g3, .slice g4 g4n g4c, .slice g5 g5n g5c], 43)] := Boxes.store (vs := [.int .i64 g1, .int .i64 g2, .int .i64 g3, .slice g4 g4n g4c, .slice g5 g5n g5c]) (i := 0) (o := 0) hB rfl rfl rfl rfl hw_w14
   have hc_w14 : Chg [b3] w11 w14 := sil_more (Chg.refl [] w11) (sil_cN hw_w14)
   refine LW.rd hL rfl (Wants.free rfl) rfl (Rd.assign (v := .bool false) rfl) ?_
   refine LW.nil hL rfl ?_
   refine NW.then ?_
   replace h := h  w14  hc_w14
   refine CW.ret ?_
   refine RW.then ?_
   exact resN (vs := [.agg #[.int .i64 g1, .int .i64 g2, .int .i64 g3, .slice g4 g4n g4c, .slice g5 g5n g5c], .bool false]) (ResOK.c rfl (lvN (cs := [.int .i64 g1, .int .i64 g2, .int .i64 g3, .slice g4 g4n g4c, .slice g5 g5n g5c]) (by kernel_rfl) (by kernel_rfl) (cellsAt_get (box_cells (hB.at (i := 0) rfl) rfl))) (ResOK.t rfl ResOK.nil)) rfl ⟨g1, g2, g3, g4, g4n, g4c, g5, g5n, g5c, false, rfl, h⟩
  ·replace h := h.2 hb10
   refine CW.skip ?_
   refine NW.then ?_
   refine CW.seq ?_
   refine CW.region fun L hL => ?_
   refine LW.rd hL rfl (Wants.free rfl) rfl (Rd.move (v := .pointer f1) rfl) ?_
   refine LW.rd hL rfl (Wants.free rfl) rfl (Rd.fa (v := .pointer (some (⟨b2, 5, none⟩ : Addr))) rfl (fun _ => by kernel_rfl)) ?_
   refine LW.rd hL rfl (Wants.free rfl) rfl (Rd.ld (v := .slice a6 a6n a6c) rfl (by kernel_rfl) (eqs (box_cell (hB.at (i := 1) rfl) rfl))) ?_
   refine LW.call hL rfl (Wants.free rfl) rfl (Cl.fn (f := 32) rfl Tryz.func32 (by kernel_rfl) rfl) h (fun e w15 h_ => ?_)
   clear h
   obtain ⟨r18, rfl, h⟩ := h_
   obtain ⟨hsm6, h⟩ := h
   replace hB := Boxes.sameS hB hsm6 (by simp)
   refine ⟨_, rfl, ?_⟩
   refine LW.rd hL rfl (Wants.free rfl) rfl (Rd.assign (v := .int .i64 r18) rfl) ?_
   refine LW.nil hL rfl ?_
   refine NW.then ?_
   refine CW.seq ?_
   refine CW.region fun L hL => ?_
   refine LW.rd hL rfl (Wants.free rfl) rfl (Rd.ldN (cs := [.int .i64 g1, .int .i64 g2, .int .i64 g3, .slice g4 g4n g4c, .slice g5 g5n g5c]) rfl (by kernel_rfl) (by kernel_rfl) (cellsS (box_cells (hB.at (i := 2) rfl) rfl))) ?_
   refine LW.rd hL rfl (Wants.free rfl) rfl (Rd.fa (v := .pointer (some (⟨b2, 5, none⟩ : Addr))) rfl (fun _ => by kernel_rfl)) ?_
   refine LW.rd hL rfl (Wants.free rfl) rfl (Rd.ld (v := .slice a6 a6n a6c) rfl (by kernel_rfl) (eqs (box_cell (hB.at (i := 1) rfl) rfl))) ?_
   refine LW.call hL rfl (Wants.free rfl) rfl (Cl.fn (f := 62) rfl Tryz.func62 (by kernel_rfl) rfl) h (fun e w16 h_ => ?_)
   clear h
   obtain ⟨r19, r20, r21, r22, r22n, r22c, r23, r23n, r23c, r24, rfl, h⟩ := h_
   obtain ⟨hsm7, h⟩ := h
   replace hB := Boxes.sameS (hB.sel [0] (by decide) rfl) hsm7 (by simp)
   refine ⟨_, rfl, ?_⟩
   refine LW.rd hL rfl (Wants.free rfl) rfl (Rd.move (v := .tuple #[.agg #[.int .i64 r19, .int .i64 r20, .int .i64 r21, .slice r22 r22n r22c, .slice r23 r23n r23c], .int .i64 r24]) rfl) ?_
   refine LW.rd hL rfl (Wants.free rfl) rfl (Rd.extract (v := .agg #[.int .i64 r19, .int .i64 r20, .int .i64 r21, .slice r22 r22n r22c, .slice r23 r23n r23c]) rfl rfl) ?_
   refine LW.rd hL rfl (Wants.free rfl) rfl (Rd.extract (v := .int .i64 r24) rfl rfl) ?_
   obtain ⟨b7, hb_b7⟩ : ∃ b7, b7 = World.size w16 := ⟨_, rfl⟩
   obtain ⟨w17, hw_w17⟩ : ∃ w17, w17 = World.alloc w16 (.cells #[.int .i64 0, .int .i64 0, .int .i64 0, .slice none 0 0, .slice none 0 0] 43) := ⟨_, rfl⟩
   refine LW.val hL rfl (Wants.free rfl) rfl (boxE hb_b7 hw_w17 (Vl.alloc (z := .agg #[.int .i64 0, .int .i64 0, .int .i64 0, .slice none 0 0, .slice none 0 0]) (by kernel_rfl))) ?_
   replace hB := Boxes.alloc (cs := [.int .i64 0, .int .i64 0, .int .i64 0, .slice none 0 0, .slice none 0 0]) (T := 43) hB hb_b7 hw_w17
   have hlo_b7 := sil_lo (Chg.refl [] w16) hb_b7
   have hc_w17 := sil_alloc (Chg.refl [] w16) hw_w17
   obtain ⟨w18, hw_w18⟩ : ∃ x, x = setCells w17 (⟨b7, 0, none⟩ : Addr) 0 [.int .i64 r19, .int .i64 r20, .int .i64 r21, .slice r22 r22n r22c, .slice r23 r23n r23c] := ⟨_, rfl⟩
   refine LW.eff hL rfl (Wants.free rfl) rfl (stNE hw_w18 (Ef.stN (cs := [.int .i64 r19, .int .i64 r20, .int .i64 r21, .slice r22 r22n r22c, .slice r23 r23n r23c]) rfl rfl (by kernel_rfl) (List.forall_mem_cons.2 ⟨rfl, (List.forall_mem_cons.2 ⟨rfl, (List.forall_mem_cons.2 ⟨rfl, (List.forall_mem_cons.2 ⟨rfl, (List.forall_mem_cons.2 ⟨rfl, (List.forall_mem_nil _)⟩)⟩)⟩)⟩)⟩) (has_of (hB.at (i := 0) rfl) (by simp)) (free_of' (hB.at (i := 0) rfl)))) ?_
   replace hB : Boxes w18 [(b7, [.int .i64 r19, .int .i64 r20, .int .i64 r21, .slice r22 r22n r22c, .slice r23 r23n r23c], 43), (b3, [.int .i64 0, .int .i64 0, .int .i64 0, .slice none 0 0, .slice none 0 0], 43)] := Boxes.store (vs := [.int .i64 r19, .int .i64 r20, .int .i64 r21, .slice r22 r22n r22c, .slice r23 r23n r23c]) (i := 0) (o := 0) hB rfl rfl rfl rfl hw_w18
   have hc_w18 := sil_new hc_w17 (sil_cN hw_w18) hlo_b7
   refine LW.rd hL rfl (Wants.free rfl) rfl (Rd.assign (v := .int .i64 r24) rfl) ?_
   refine LW.nil hL rfl ?_
   refine NW.then ?_
   refine CW.seq ?_
   refine CW.region fun L hL => ?_
   refine LW.rd hL rfl (Wants.free rfl) rfl (Rd.ldN (cs := [.int .i64 r19, .int .i64 r20, .int .i64 r21, .slice r22 r22n r22c, .slice r23 r23n r23c]) rfl (by kernel_rfl) (by kernel_rfl) (cellsS (box_cells (hB.at (i := 0) rfl) rfl))) ?_
   refine LW.rd hL rfl (Wants.free rfl) rfl (Rd.move (v := .int .i64 r18) rfl) ?_
   refine LW.rd hL rfl (Wants.free rfl) rfl (Rd.move (v := .int .i64 r24) rfl) ?_
   refine LW.rd hL rfl (Wants.free rfl) rfl (Rd.bin (v := .bool (r18 == r24)) rfl rfl (fun w => by kernel_rfl)) ?_
   obtain ⟨w19, hw_w19⟩ : ∃ x, x = setCells w18 (⟨b3, 0, none⟩ : Addr) 0 [.int .i64 r19, .int .i64 r20, .int .i64 r21, .slice r22 r22n r22c, .slice r23 r23n r23c] := ⟨_, rfl⟩
   refine LW.eff hL rfl (Wants.free rfl) rfl (stNE hw_w19 (Ef.stN (cs := [.int .i64 r19, .int .i64 r20, .int .i64 r21, .slice r22 r22n r22c, .slice r23 r23n r23c]) rfl rfl (by kernel_rfl) (List.forall_mem_cons.2 ⟨rfl, (List.forall_mem_cons.2 ⟨rfl, (List.forall_mem_cons.2 ⟨rfl, (List.forall_mem_cons.2 ⟨rfl, (List.forall_mem_cons.2 ⟨rfl, (List.forall_mem_nil _)⟩)⟩)⟩)⟩)⟩) (has_of (hB.at (i := 1) rfl) (by simp)) (free_of' (hB.at (i := 1) rfl)))) ?_
   replace hB : Boxes w19 [(b7, [.int .i64 r19, .int .i64 r20, .int .i64 r21, .slice r22 r22n r22c, .slice r23 r23n r23c], 43), (b3, [.int .i64 r19, .int .i64 r20, .int .i64 r21, .slice r22 r22n r22c, .slice r23 r23n r23c], 43)] := Boxes.store (vs := [.int .i64 r19, .int .i64 r20, .int .i64 r21, .slice r22 r22n r22c, .slice r23 r23n r23c]) (i := 1) (o := 0) hB rfl rfl rfl rfl hw_w19
   have hc_w19 : Chg [b3] w16 w19 := sil_more hc_w18 (sil_cN hw_w19)
   refine LW.rd hL rfl (Wants.free rfl) rfl (Rd.assign (v := .bool (r18 == r24)) rfl) ?_
   refine LW.nil hL rfl ?_
   refine NW.then ?_
   replace h := h b7 w19 ⟨hlo_b7, lt_of_heap (hB.at (i := 0) rfl)⟩ hc_w19
   refine CW.ret ?_
   exact resN (vs := [.agg #[.int .i64 r19, .int .i64 r20, .int .i64 r21, .slice r22 r22n r22c, .slice r23 r23n r23c], .bool (r18 == r24)]) (ResOK.c rfl (lvN (cs := [.int .i64 r19, .int .i64 r20, .int .i64 r21, .slice r22 r22n r22c, .slice r23 r23n r23c]) (by kernel_rfl) (by kernel_rfl) (cellsAt_get (box_cells (hB.at (i := 1) rfl) rfl))) (ResOK.t rfl ResOK.nil)) rfl ⟨r19, r20, r21, r22, r22n, r22c, r23, r23n, r23c, r18 == r24, rfl, h⟩
end Go.Proofs.YtfcfkhbkkfpehaaGreat
end
section
/- What one act answers, on both flows. -/
namespace Go.Proofs.YtfcfkhbkkfpehaaGreat
open Go Go.RowKit Go.X
theorem FlowAt.out {w : World} {b : Nat} {F : Fl} {fp : List Nat} (h : FlowAt w b F fp) (p : Int × Int) (hm : ¬ mayP F.fr F.se p) : F.g p = 0 := by
 obtain ⟨T, m, d, r, l, fpT, fpm, fpd, gm, gd, h1, h2, h3, h4, h5, h6, h7, h8, h9, _⟩ := h.there
 obtain ⟨k, n⟩ := p
 unfold mayP boundP at hm
 simp only [] at hm
 by_cases e1 : k = 10
 ·subst e1; rw [h6]; exact h3.out (by simp at hm; omega)
 by_cases e2 : k = 12
 ·subst e2; rw [h7]; exact h4.out (by simp at hm; omega)
 rw [h8 _ e1 e2]
 cases hk : lookK (k, n) l with
 | none => rfl
 | some v =>
  have := (h9 _ (lookK_mem hk)).2.2.1
  unfold mayP boundP at this
  simp only [] at this
  exact absurd this hm
def tame (a : ActV) : Prop := ¬ ((200 < a.n ∧ a.n ≤ 65536) ∨ broadT a.ts)
theorem stepR_shape (R : Rf) (a : ActV) : (stepR R a).fr = R.fr ∧ (stepR R a).se = R.se ∧ (stepR R a).most = R.most := by
 unfold stepR
 split
 ·exact refMark_shape _ _ _ _
 ·unfold refApply; split <;> exact ⟨rfl, rfl, rfl⟩
theorem stepR_len {R : Rf} {a : ActV} (ha : tame a) (hne : R.sets ≠ []) : (stepR R a).pairs.length ≤ R.pairs.length + 220 ∧ (stepR R a).sets.length ≤ R.sets.length + 20 ∧ (stepR R a).sets ≠ [] := by
 unfold tame broadT at ha
 unfold stepR
 split
 ·have h1 := refMark_ne hne a.p a.n a.set
  unfold refMark
  split
  ·rename_i h0
   unfold refMarkE at h0
   have hn : a.n ≤ 65536 := by
    split at h0
    ·omega
    split at h0
    ·omega
    ·omega
   have := refFill_length a.p a.set R.pairs a.n.toNat
   have h2 : (keepS R.most R.sets a.set).length ≤ R.sets.length + 1 := by
    unfold keepS; split
    ·omega
    ·simp
   exact ⟨by simp only []; omega, by simp only []; omega, keepS_ne hne _⟩
  ·exact ⟨by omega, by omega, hne⟩
 ·unfold refApply
  split
  ·have h1 := keepAll_len R.most (lookPr R.pairs) a.ts R.sets
   have h2 := putAll_len (lookPr R.pairs) a.ts R.pairs
   refine ⟨?_, by simp only []; omega, h1.2 hne⟩
   simp only []
   split <;> omega
  ·exact ⟨by omega, by omega, hne⟩
theorem does_ok {w : World} {b : Nat} {F : Fl} {fp : List Nat} (hF : FlowAt w b F fp) {R : Rf} {p4 p5 : Option Addr} {n4 c4 n5 c5 : Nat} (hR : RefAt w R p4 n4 c4 p5 n5 c5) (hrel : RelF F R) (hdis : ∀ i ∈ rowB p4 ++ rowB p5, i ∉ fp)
  (hn4 : R.sets.length ≤ 100000) (hn5 : R.pairs.length ≤ 90000000) (hne : R.sets ≠ []) {S : Nat → Prop} {q : Option Addr} {qn qc : Nat} {a : ActV} (hA : ActAt w S q qn qc a) (hS : ∀ i ∈ fp, ¬ S i) (ht : tame a) :
  Calls Tryz.prog 30 #[.pointer (some ⟨b, 0, none⟩), .agg #[.int .i64 R.fr, .int .i64 R.se, .int .i64 R.most, .slice p4 n4 c4, .slice p5 n5 c5], .agg #[.int .i64 a.kind, .int .i64 a.n, .int .i64 a.p.1, .int .i64 a.p.2, .int .u32 a.set, .slice q qn qc]] w fun e w' =>
   ∃ (r1 : Int) (r2 : Int) (r3 : Int) (r4 : Option Addr) (r4n : Nat) (r4c : Nat) (r5 : Option Addr) (r5n : Nat) (r5c : Nat) (r6 : Bool), e = .returned (.tuple #[.agg #[.int .i64 r1, .int .i64 r2, .int .i64 r3, .slice r4 r4n r4c, .slice r5 r5n r5c], .bool r6]) ∧
   (r1 = R.fr ∧ r2 = R.se ∧ r3 = R.most ∧ r6 = true ∧ RefAt w' (stepR R a) r4 r4n r4c r5 r5n r5c ∧ ∃ fp', FlowAt w' b (stepF F a) fp' ∧ Chg fp w w' ∧ (∀ i ∈ fp', i ∈ fp ∨ w.heap.size ≤ i) ∧
    (∀ i ∈ rowB r4 ++ rowB r5, i ∈ rowB p4 ++ rowB p5 ∨ w.heap.size ≤ i) ∧ ∀ i ∈ rowB r4 ++ rowB r5, i ∉ fp') := by
 have hlt := hF.lt
 have hwide := hF.wide
 have hw' : i64s (64 * R.fr) ∧ i64s (64 * R.se) := by rw [hrel.fr, hrel.se]; unfold i64s; omega
 have hw1 : 1 ≤ R.fr ∧ R.fr ≤ 32 ∧ 1 ≤ R.se ∧ R.se ≤ 32 := by rw [hrel.fr, hrel.se]; exact hwide
 have hu : ∀ q, u16 (lookPr R.pairs q) := fun q => by rw [hrel.look]; exact hF.each q
 have hrlt : ∀ i ∈ rowB p4 ++ rowB p5, i < w.heap.size := fun i hi => (List.mem_append.1 hi).elim (hR.sets.lt i) (hR.pairs.lt i)
 have hn4' := hR.n4
 have hn5' := hR.n5
 have hqn := hA.qn
 have hlen := hA.ts.length
 simp only [maxLen] at hqn
 have hin : ∀ t ∈ a.ts, t.2.length ≤ 9223372036854775807 := fun t h => by have := hA.inner t h; simp only [maxLen] at this; omega
 have htame := ht
 unfold tame broadT at htame
 refine go_pomanderlaw12_does _ _ _ _ _ _ _ _ _ _ _ _ _ _ _ _ _ _ _ _ ?_
 unfold W_pomanderlaw12_does
 intro b3 b2 b1 w3 l3 l2 l1 c3
 have hnb : ∀ {x : Nat}, w.heap.size ≤ x → x ∉ fp := fun hx hm => by have := hlt _ hm; omega
 refine ⟨fun hk => ?_, fun hk => ?_⟩
 ·have hk' : a.kind = 1 := by simpa using hk
  refine (flow_mark (hF.chg c3 (by simp)) (p1 := a.p.1) (p2 := a.p.2) (n := a.n) (set := a.set) hA.p.2 hA.set.1).mono ?_
  rintro _ w4 ⟨_, rfl, rfl, fp4, hF4, d4, hf4⟩
  have s3 := c3.size
  have s4 := d4.size
  have c04 : Chg fp w w4 := c3.nil.trans d4 (fun i hi _ => hi)
  refine ⟨_, rfl, Same.of d4 (by simp; exact ⟨⟨by omega, hnb (by omega)⟩, ⟨by omega, hnb (by omega)⟩, by omega, hnb (by omega)⟩), ?_⟩
  refine (ref_mark (hR.chg c04 (fun i hi => hdis i (List.mem_append_left _ hi)) (fun i hi => hdis i (List.mem_append_right _ hi))) (by omega) (by omega) hne hw1 (p1 := a.p.1) (p2 := a.p.2) (n := a.n) (set := a.set) hA.set.1).mono ?_
  rintro _ w5 ⟨_, _, _, r4, r4n, r4c, r5, r5n, r5c, _, rfl, rfl, rfl, rfl, rfl, hR5, d5, hf5⟩
  have s5 := d5.size
  refine ⟨_, _, _, _, _, _, _, _, _, _, rfl, Same.chg d5 (by simp; omega), ?_⟩
  intro b4 w8 l4 d8
  have hlt4 := hF4.lt
  have hR5lt : ∀ i ∈ rowB r4 ++ rowB r5, i < w5.heap.size := fun i hi => (List.mem_append.1 hi).elim (hR5.sets.lt i) (hR5.pairs.lt i)
  have hb3 : ∀ i ∈ rowB r4 ++ rowB r5, i ∉ [b3] := fun i hi hm => by
   simp at hm; subst hm
   rcases hf5 _ hi with h | h
   ·have := hrlt _ h; omega
   ·omega
  have eR : stepR R a = refMark R (a.p.1, a.p.2) a.n a.set := by unfold stepR; rw [if_pos hk']
  have eF : stepF F a = markF F (a.p.1, a.p.2) a.n a.set := by unfold stepF; rw [if_pos hk']
  rw [eR, eF]
  have hF5 := (hF4.chg d5 (by simp)).chg d8 (f := [b3]) (fun i hi hm => by
   simp at hm; subst hm
   rcases hf4 _ hi with h | h
   ·have := hlt _ h; omega
   ·omega)
  refine ⟨rfl, rfl, rfl, ?_, hR5.chg d8 (fun i hi => hb3 i (List.mem_append_left _ hi)) (fun i hi => hb3 i (List.mem_append_right _ hi)), fp4, hF5, ?_, fun i hi => ?_, fun i hi => ?_, fun i hi hm => ?_⟩
  ·rw [hrel.markE]; simp
  ·exact (c04.trans d5 (by simp)).trans d8 (fun i hi hlt' => by simp at hi; omega)
  ·rcases hf4 i hi with h | h
   ·exact .inl h
   ·exact .inr (by omega)
  ·rcases hf5 i hi with h | h
   ·exact .inl h
   ·exact .inr (by omega)
  ·rcases hf5 i hi with h | h
   ·rcases hf4 i hm with h' | h'
    ·exact hdis i h h'
    ·have := hrlt i h; omega
   ·have := hlt4 i hm; omega
 ·have hk' : a.kind ≠ 1 := by simpa using hk
  have eR : stepR R a = refApply R a.ts := by unfold stepR; rw [if_neg hk']
  have eF : stepF F a = applyF F a.ts := by unfold stepF; rw [if_neg hk']
  have s3 := c3.size
  refine (flow_decides (c := qc) (hF.chg c3 (by simp)) (hA.ts.chg c3 (by simp)) (by omega) hin).mono ?_
  rintro _ w9 ⟨r14, r15, rfl, c9, hr9⟩
  have s9 := c9.size
  have c09 := c3.trans0 c9
  refine ⟨_, _, rfl, Same.chg c9 (by simp; omega), ?_⟩
  refine (ref_mayAll (p4 := p4) (n4 := n4) (c4 := c4) (p5 := p5) (n5 := n5) (c5 := c5) (c := qc) hw' (hA.ts.chg c09 (by simp)) (by omega) hin).mono ?_
  rintro _ w10 ⟨_, rfl, rfl, c10⟩
  have s10 := c10.size
  have c010 := c09.trans0 c10
  have hright : (∀ t ∈ a.ts, rightT F.fr F.se t) ↔ rightAll R.fr R.se a.ts := by unfold rightAll; rw [hrel.fr, hrel.se]
  refine ⟨_, rfl, Same.chg c10 (by simp; omega), fun b w' => b = false ∧ Chg [] w w' ∧ w10.heap.size ≤ w'.heap.size, ?_, ?_, ?_⟩
  ·rintro _ w11 ⟨rfl, c11, s11⟩
   have hcond : (false || (!decide (rightAll R.fr R.se a.ts) && (!(r14 == 0) || !(r15 == 2)))) = false := by
    by_cases hr : rightAll R.fr R.se a.ts
    ·simp [hr]
    ·rw [if_neg (fun h => hr (hright.1 h))] at hr9
     rw [hr9.1, hr9.2]; simp
   refine ⟨fun h => (by rw [hcond] at h; cases h), fun _ => ?_⟩
   refine (flow_apply (c := qc) (hF.chg c11 (by simp)) (hA.ts.chg c11 (by simp)) hS (by omega) hin).mono ?_
   rintro _ w15 ⟨_, rfl, rfl, fp15, hF15, d15, hf15⟩
   have s15 := d15.size
   have c015 : Chg fp w w15 := c11.nil.trans d15 (fun i hi _ => hi)
   have hlt15 := hF15.lt
   refine ⟨_, rfl, Same.of d15 (by simp; exact ⟨⟨by omega, hnb (by omega)⟩, ⟨by omega, hnb (by omega)⟩, by omega, hnb (by omega)⟩), ?_⟩
   refine (ref_apply (c := qc) (hR.chg c015 (fun i hi => hdis i (List.mem_append_left _ hi)) (fun i hi => hdis i (List.mem_append_right _ hi))) (by omega) (by omega) hne hw' hu (hA.ts.chg c015 hS) (by omega) hin).mono ?_
   rintro _ w16 ⟨_, _, _, r4, r4n, r4c, r5, r5n, r5c, _, rfl, rfl, rfl, rfl, rfl, hR16, d16, hf16⟩
   have s16 := d16.size
   refine ⟨_, _, _, _, _, _, _, _, _, _, rfl, Same.chg d16 (by simp; omega), ?_⟩
   intro b7 w19 l7 d19
   have hb3 : ∀ i ∈ rowB r4 ++ rowB r5, i ∉ [b3] := fun i hi hm => by
    simp at hm; subst hm
    rcases hf16 _ hi with h | h
    ·have := hrlt _ h; omega
    ·omega
   rw [eR, eF]
   have hF19 := (hF15.chg d16 (by simp)).chg d19 (f := [b3]) (fun i hi hm => by
    simp at hm; subst hm
    rcases hf15 _ hi with h | h
    ·have := hlt _ h; omega
    ·omega)
   refine ⟨rfl, rfl, rfl, ?_, hR16.chg d19 (fun i hi => hb3 i (List.mem_append_left _ hi)) (fun i hi => hb3 i (List.mem_append_right _ hi)), fp15, hF19, ?_, fun i hi => ?_, fun i hi => ?_, fun i hi hm => ?_⟩
   ·rw [hrel.applyE]; simp
   ·exact (c015.trans d16 (by simp)).trans d19 (fun i hi hlt' => by simp at hi; omega)
   ·rcases hf15 i hi with h | h
    ·exact .inl h
    ·exact .inr (by have := c11.size; omega)
   ·rcases hf16 i hi with h | h
    ·exact .inl h
    ·exact .inr (by omega)
   ·rcases hf16 i hi with h | h
    ·rcases hf15 i hm with h' | h'
     ·exact hdis i h h'
     ·have := hrlt i h; have := c11.size; omega
    ·have := hlt15 i hm; omega
  ·intro _
   refine ⟨fun b w' => b = false ∧ Chg [] w w' ∧ w10.heap.size ≤ w'.heap.size, fun b w' h => h, fun hr => ?_, fun hr => ?_⟩
   ·have hr' : rightAll R.fr R.se a.ts := by simpa using hr
    rw [if_pos (hright.2 hr')] at hr9
    refine (ref_decides (c := qc) (hR.chg c010 (by simp) (by simp)) (by omega) hu (hA.ts.chg c010 (by simp)) (by omega) hin).mono ?_
    rintro _ w13 ⟨_, rfl, rfl, c13⟩
    have s13 := c13.size
    refine ⟨_, rfl, Same.chg c13 (by simp; omega), ?_, c010.trans0 c13, by omega⟩
    rw [hr9.1, hrel.g]; simp
   ·exact ⟨rfl, c010, Nat.le_refl _⟩
  ·intro hh
   exfalso
   by_cases hr : rightAll R.fr R.se a.ts
   ·rw [if_pos (hright.2 hr)] at hr9
    simp [hr, hr9.2] at hh
   ·rw [if_neg (fun h => hr (hright.1 h))] at hr9
    simp [hr, hr9.2] at hh
end Go.Proofs.YtfcfkhbkkfpehaaGreat
end
section
/- The document's pairs: rising, none empty, all of places that may be; two such lists that say the same are the same. -/
namespace Go.Proofs.YtfcfkhbkkfpehaaGreat
open Go Go.RowKit Go.X
theorem ahead_trans {a b c : Int × Int} (h : aheadP a b) (k : aheadP b c) : aheadP a c := by unfold aheadP at *; omega
theorem ahead_irrefl (a : Int × Int) : ¬ aheadP a a := by unfold aheadP; omega
theorem ahead_tri {a b : Int × Int} (h : ¬ aheadP a b) (k : b ≠ a) : aheadP b a := by
 unfold aheadP at *
 by_cases e : a.1 = b.1
 ·by_cases e2 : a.2 = b.2
  ·exact absurd (Prod.ext e.symm e2.symm) k
  ·omega
 ·omega
theorem eq_of_rising : ∀ {l m : List (Int × Int)}, l.Pairwise aheadP → m.Pairwise aheadP → (∀ p, p ∈ l ↔ p ∈ m) → l = m
 | [], [], _, _, _ => rfl
 | [], b :: m, _, _, h => by have := (h b).2 (by simp); simp at this
 | a :: l, [], _, _, h => by have := (h a).1 (by simp); simp at this
 | a :: l, b :: m, hl, hm, h => by
  rw [List.pairwise_cons] at hl hm
  have hab : a = b := by
   by_cases e : a = b
   ·exact e
   ·exfalso
    have h1 : a ∈ m := by have := (h a).1 (by simp); simp [e] at this; exact this
    have h2 : b ∈ l := by have := (h b).2 (by simp); simp [Ne.symm e] at this; exact this
    exact ahead_irrefl _ (ahead_trans (hl.1 b h2) (hm.1 a h1))
  subst hab
  rw [eq_of_rising hl.2 hm.2 fun p => ?_]
  constructor
  ·intro hp
   rcases List.mem_cons.1 ((h p).1 (by simp [hp])) with e | e
   ·subst e; exact absurd (hl.1 _ hp) (ahead_irrefl _)
   ·exact e
  ·intro hp
   rcases List.mem_cons.1 ((h p).2 (by simp [hp])) with e | e
   ·subst e; exact absurd (hm.1 _ hp) (ahead_irrefl _)
   ·exact e
structure Good (fr se : Int) (l : List Pr) : Prop where
 rise : (l.map Prod.fst).Pairwise aheadP
 each : ∀ x ∈ l, x.2 ≠ 0 ∧ mayP fr se x.1
theorem Good.nil (fr se : Int) : Good fr se [] := ⟨by simp, by simp⟩
structure PutG (p : Int × Int) (set : Int) (l : List Pr) (s : List Pr × Bool) : Prop where
 rise : (s.1.map Prod.fst).Pairwise aheadP
 keys : ∀ x ∈ s.1, x ∈ l ∨ (x = (p, set) ∧ set ≠ 0 ∧ ∃ y ∈ l, p = y.1 ∨ aheadP p y.1)
 off : s.2 = false → set ≠ 0 ∧ (∀ y ∈ l, aheadP y.1 p) ∧ ∀ x ∈ s.1, aheadP x.1 p
theorem rise_snoc {l : List Pr} {x : Pr} (h : (l.map Prod.fst).Pairwise aheadP) (hx : ∀ y ∈ l, aheadP y.1 x.1) : ((l ++ [x]).map Prod.fst).Pairwise aheadP := by
 rw [List.map_append, List.pairwise_append]
 refine ⟨h, by simp, fun a ha b hb => ?_⟩
 obtain ⟨y, hy, rfl⟩ := List.mem_map.1 ha
 simp at hb; subst hb
 exact hx y hy
theorem putG_step {p : Int × Int} {set : Int} {l : List Pr} {s : List Pr × Bool} (h : PutG p set l s) {x : Pr} (hx : ∀ y ∈ l, aheadP y.1 x.1) : PutG p set (l ++ [x]) (stepPut p set s x) := by
 have hs : ∀ y ∈ s.1, aheadP y.1 x.1 := fun y hy => by
  rcases h.keys y hy with k | ⟨rfl, _, z, hz, k⟩
  ·exact hx y k
  ·rcases k with k | k
   ·simp only []; rw [k]; exact hx z hz
   ·exact ahead_trans k (hx z hz)
 have up : ∀ y ∈ s.1, y ∈ l ++ [x] ∨ (y = (p, set) ∧ set ≠ 0 ∧ ∃ z ∈ l ++ [x], p = z.1 ∨ aheadP p z.1) := fun y hy => by
  rcases h.keys y hy with k | ⟨k1, k0, z, hz, k2⟩
  ·exact .inl (by simp [k])
  ·exact .inr ⟨k1, k0, z, by simp [hz], k2⟩
 unfold stepPut
 cases hf : s.2 with
 | true =>
  simp only [Bool.not_true, Bool.false_and, Bool.false_eq_true, if_false, hf, and_false, reduceCtorEq]
  by_cases hxp : x.1 = p
  ·rw [if_pos hxp]
   exact ⟨h.rise, up, fun h => by cases h⟩
  ·rw [if_neg hxp]
   refine ⟨rise_snoc h.rise hs, fun y hy => ?_, fun h => by cases h⟩
   rcases List.mem_append.1 hy with hy | hy
   ·exact up y hy
   ·exact .inl (by simp at hy; simp [hy])
 | false =>
  obtain ⟨h0, h1, h2⟩ := h.off hf
  by_cases ha : aheadP p x.1
  ·have hxp : x.1 ≠ p := fun e => ahead_irrefl p (by rw [e] at ha; exact ha)
   simp only [Bool.not_false, Bool.true_and, ha, decide_true, if_true, hxp, if_false, false_and]
   refine ⟨rise_snoc (rise_snoc h.rise h2) fun y hy => ?_, fun y hy => ?_, fun h => by cases h⟩
   ·rcases List.mem_append.1 hy with hy | hy
    ·exact hs y hy
    ·simp at hy; subst hy; exact ha
   ·rcases List.mem_append.1 hy with hy | hy
    ·rcases List.mem_append.1 hy with hy | hy
     ·exact up y hy
     ·simp at hy; exact .inr ⟨hy, h0, x, by simp, .inr ha⟩
    ·exact .inl (by simp at hy; simp [hy])
  ·simp only [Bool.not_false, Bool.true_and, ha, decide_false, Bool.false_eq_true, if_false, hf, and_true]
   by_cases hxp : x.1 = p
   ·simp only [hxp, if_true]
    refine ⟨rise_snoc h.rise h2, fun y hy => ?_, fun h => by cases h⟩
    rcases List.mem_append.1 hy with hy | hy
    ·exact up y hy
    ·simp at hy; exact .inr ⟨hy, h0, x, by simp, .inl hxp.symm⟩
   ·simp only [hxp, if_false]
    have hxa : aheadP x.1 p := ahead_tri ha hxp
    refine ⟨rise_snoc h.rise hs, fun y hy => ?_, fun _ => ⟨h0, fun y hy => ?_, fun y hy => ?_⟩⟩
    ·rcases List.mem_append.1 hy with hy | hy
     ·exact up y hy
     ·exact .inl (by simp at hy; simp [hy])
    ·rcases List.mem_append.1 hy with hy | hy
     ·exact h1 y hy
     ·simp at hy; subst hy; exact hxa
    ·rcases List.mem_append.1 hy with hy | hy
     ·exact h2 y hy
     ·simp at hy; subst hy; exact hxa
theorem putG_fold (p : Int × Int) (set : Int) : ∀ (n : Nat) (l : List Pr), l.length = n → (l.map Prod.fst).Pairwise aheadP → PutG p set l (foldPut p set l)
 | 0, l, hl, _ => by
  obtain rfl := List.eq_nil_of_length_eq_zero hl
  exact ⟨by simp [foldPut], by simp [foldPut], fun h => ⟨by simpa [foldPut] using h, by simp, by simp [foldPut]⟩⟩
 | n + 1, l, hl, hr => by
  have hne : l ≠ [] := fun e => by subst e; simp at hl
  obtain ⟨l', x, rfl⟩ : ∃ l' x, l = l' ++ [x] := ⟨l.dropLast, l.getLast hne, (List.dropLast_concat_getLast hne).symm⟩
  rw [List.map_append, List.pairwise_append] at hr
  rw [foldPut_snoc]
  refine putG_step (putG_fold p set n l' (by simpa using hl) hr.1) fun y hy => ?_
  exact hr.2.2 y.1 (List.mem_map.2 ⟨y, hy, rfl⟩) x.1 (by simp)
theorem Good.put {fr se : Int} {l : List Pr} (h : Good fr se l) {p : Int × Int} {set : Int} (hp : mayP fr se p) : Good fr se (refPut p set l) := by
 have hg := putG_fold p set _ l rfl h.rise
 have hk : ∀ x ∈ (foldPut p set l).1, x.2 ≠ 0 ∧ mayP fr se x.1 := fun x hx => by
  rcases hg.keys x hx with k | ⟨rfl, k0, _⟩
  ·exact h.each x k
  ·exact ⟨k0, hp⟩
 unfold refPut
 simp only []
 cases hf : (foldPut p set l).2 with
 | true => exact ⟨by simpa using hg.rise, by simpa using hk⟩
 | false =>
  obtain ⟨h0, h1, h2⟩ := hg.off hf
  simp only [Bool.false_eq_true, if_false]
  refine ⟨rise_snoc hg.rise h2, fun x hx => ?_⟩
  rcases List.mem_append.1 hx with hx | hx
  ·exact hk x hx
  ·simp at hx; subst hx; exact ⟨h0, hp⟩
theorem Good.fill {fr se : Int} {p : Int × Int} {set : Int} {l : List Pr} (h : Good fr se l) : ∀ (n : Nat), (∀ i : Nat, i < n → mayP fr se (p.1, p.2 + i)) → Good fr se (refFill p set l n)
 | 0, _ => h
 | n + 1, hp => (Good.fill h n fun i hi => hp i (by omega)).put (hp n (by omega))
theorem Good.all {fr se : Int} {g : Int × Int → Int} : ∀ (ts : List Tch) {l : List Pr}, Good fr se l → rightAll fr se ts → Good fr se (putAll g ts l)
 | [], _, h, _ => h
 | t :: ts, l, h, hr => by
  show Good fr se (putAll g ts (putStep g l t))
  refine Good.all ts ?_ fun u hu => hr u (by simp [hu])
  unfold putStep
  split
  ·exact h
  ·rename_i hne
   exact h.put ((hr t (by simp)).1.resolve_left hne)
theorem Good.step {R : Rf} (h : Good R.fr R.se R.pairs) (a : ActV) : Good (stepR R a).fr (stepR R a).se (stepR R a).pairs := by
 unfold stepR
 split
 ·unfold refMark
  split
  ·rename_i he
   refine h.fill _ fun i hi => ?_
   unfold refMarkE at he
   split at he
   ·cases he
   ·rename_i k1
    split at he
    ·cases he
    ·rename_i k2
     have m1 : mayP R.fr R.se a.p := by
      apply Classical.byContradiction; intro k; exact k1 (.inl k)
     have m2 : mayP R.fr R.se (a.p.1, a.p.2 + a.n - 1) := by
      apply Classical.byContradiction; intro k; exact k2 (.inr (.inr ⟨by omega, k⟩))
     obtain ⟨q1, q2, q3, q4⟩ := m1
     obtain ⟨_, _, _, q5⟩ := m2
     simp only [] at q5
     exact ⟨q1, q2, by simp only []; omega, by simp only []; omega⟩
  ·exact h
 ·unfold refApply
  split
  ·rename_i hr
   simp only []
   split
   ·exact h.all _ hr
   ·exact h
  ·exact h
theorem Good.look {fr se : Int} {l : List Pr} (h : Good fr se l) (p : Int × Int) : p ∈ l.map Prod.fst ↔ lookPr l p ≠ 0 := by
 unfold lookPr
 cases hl : lookK p l with
 | none =>
  simp only [Option.getD_none, ne_eq, not_true, iff_false]
  intro hm
  obtain ⟨x, hx, e⟩ := List.mem_map.1 hm
  exact lookK_none.1 hl x hx e
 | some v =>
  have hm := lookK_mem hl
  simp only [Option.getD_some]
  exact ⟨fun _ => (h.each _ hm).1, fun _ => List.mem_map.2 ⟨_, hm, rfl⟩⟩
theorem Good.nodup {fr se : Int} {l : List Pr} (h : Good fr se l) : (l.map Prod.fst).Nodup := List.Pairwise.imp (R := aheadP) (S := (· ≠ ·)) (fun {a b} hab e => by subst e; exact ahead_irrefl a hab) h.rise
theorem Good.eq {fr se : Int} {l : List Pr} (h : Good fr se l) : l = (l.map Prod.fst).map fun p => (p, lookPr l p) := by
 rw [List.map_map]
 refine (List.map_id l).symm.trans (List.map_congr_left fun x hx => ?_)
 have := (lookK_iff h.nodup).2 (show (x.1, x.2) ∈ l from hx)
 simp only [Function.comp, id_eq, lookPr, this, Option.getD_some]
end Go.Proofs.YtfcfkhbkkfpehaaGreat
end
section
/- Flows behind several acts: the flow's, the document's. -/
namespace Go.Proofs.YtfcfkhbkkfpehaaGreat
open Go Go.RowKit Go.X
def playF (F : Fl) (acts : List ActV) : Fl := acts.foldl stepF F
def playR (R : Rf) (acts : List ActV) : Rf := acts.foldl stepR R
theorem playF_snoc (F : Fl) (acts : List ActV) (a : ActV) : playF F (acts ++ [a]) = stepF (playF F acts) a := by simp [playF]
theorem playR_snoc (R : Rf) (acts : List ActV) (a : ActV) : playR R (acts ++ [a]) = stepR (playR R acts) a := by simp [playR]
theorem playR_len {R : Rf} (hne : R.sets ≠ []) : ∀ {acts : List ActV}, (∀ a ∈ acts, tame a) → (playR R acts).pairs.length ≤ R.pairs.length + 220 * acts.length ∧ (playR R acts).sets.length ≤ R.sets.length + 20 * acts.length ∧ (playR R acts).sets ≠ [] := by
 intro acts
 induction acts generalizing R with
 | nil => intro _; exact ⟨by simp [playR], by simp [playR], hne⟩
 | cons a acts ih =>
  intro h
  have h2 := stepR_len (h a (.head _)) hne
  have h1 := ih h2.2.2 (fun b hb => h b (.tail _ hb))
  simp only [List.length_cons]
  refine ⟨?_, ?_, h1.2.2⟩
  ·show (playR (stepR R a) acts).pairs.length ≤ _
   omega
  ·show (playR (stepR R a) acts).sets.length ≤ _
   omega
theorem vast_tame {acts : List ActV} (h : ¬ vastA acts) : acts.length ≤ 30 ∧ ∀ a ∈ acts, tame a := by
 unfold vastA at h
 refine ⟨?_, fun a ha hb => h (.inr ⟨a, ha, hb⟩)⟩
 by_cases h1 : acts.length ≤ 30
 ·exact h1
 ·exact absurd (.inl (by omega)) h
structure BothAt (w0 w : World) (bf : Nat) (F : Fl) (R : Rf) (p4 : Option Addr) (n4 c4 : Nat) (p5 : Option Addr) (n5 c5 : Nat) (fp : List Nat) : Prop where
 flow : FlowAt w bf F fp
 ref : RefAt w R p4 n4 c4 p5 n5 c5
 rel : RelF F R
 chg : Chg [] w0 w
 fresh : ∀ i ∈ fp, w0.heap.size ≤ i
 rows : ∀ i ∈ rowB p4 ++ rowB p5, i ∉ fp
end Go.Proofs.YtfcfkhbkkfpehaaGreat
end
