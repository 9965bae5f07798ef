/- Texts of the claim, merged: XFt1 XFlow2 XFlow3 XRef1 XRef2 XRef3 XRef4 XOpen XOpen2 XPol1 XPol2 XEq66. -/
import Derived.Test.YtfcfkhbkkfpehaaGreatXMpj2
import Derived.Test.YtfcfkhbkkfpehaaGreatProg
import Derived.WalkKit
import Derived.ProofKit
import Derived.OpenShut
import Derived.ChangeOld
import Derived.Carry
import Derived.ChangeKeysEq
set_option linter.unusedSectionVars false
set_option linter.unusedSimpArgs false
set_option linter.unusedVariables false
set_option maxRecDepth 100000
section
namespace Go.Proofs.YtfcfkhbkkfpehaaGreat
open Go.X
/- pomander/pomanderlaw13.broad -/
def V_pomanderlaw13_broad (m1 : Option Addr) (m1n : Nat) (m1c : Nat) (l1 : Option Addr) (l1n : Nat) (l1c : Nat) (w : World) (R : Bool → World → Prop) : Prop :=
 ((decide ((m1n : Int) > 30) || decide ((l1n : Int) > 20)) = true → R true w) ∧ ((decide ((m1n : Int) > 30) || decide ((l1n : Int) > 20)) = false → ∃ (I1 : Bool × Int → World → Prop) (m2 : Bool × Int → World → Nat), I1 (false, 0) w ∧ ∀ (s1 : Bool × Int) (w1 : World), I1 s1 w1 → ((decide (s1.2 < (l1n : Int))) = true → ∃ a1 : Addr, l1 = some a1 ∧ (0 : Int) ≤ s1.2 ∧ s1.2 < (l1n : Int) ∧ (∃ (t1 : Option Addr) (t1n : Nat) (t1c : Nat), w1.cell? ((a1.add (Int.toNat s1.2 * 3)).add 2) = some (.slice t1 t1n t1c) ∧ (((decide ((t1n : Int) > 20)) = true → R true w1) ∧ ((decide ((t1n : Int) > 20)) = false → (I1 (s1.1, IntKind.wrap .i64 (s1.2 + 1)) w1 ∧ m2 (s1.1, IntKind.wrap .i64 (s1.2 + 1)) w1 < m2 s1 w1))))) ∧ ((decide (s1.2 < (l1n : Int))) = false → R false w1))
set_option maxRecDepth 100000 in
theorem ok_pomanderlaw13_broad (m1 : Option Addr) (m1n : Nat) (m1c : Nat) (l1 : Option Addr) (l1n : Nat) (l1c : Nat) (w : World) (R : Bool → World → Prop) (h : V_pomanderlaw13_broad m1 m1n m1c l1 l1n l1c w R) : Calls Tryz.prog 10 #[.slice m1 m1n m1c, .slice l1 l1n l1c] w (fun e w' => ∃ (r1 : Bool), e = .returned (.bool r1) ∧ R r1 w') := by
 unfold V_pomanderlaw13_broad at h
 refine enter (N := 27) Tryz.func10 rfl rfl ?_
 refine CW.seq ?_
 refine CW.region fun L hL => ?_
 refine LW.rd hL rfl (Wants.free rfl) rfl (Rd.assign (v := .bool false) rfl) ?_
 refine LW.nil hL rfl ?_
 refine NW.then ?_
 refine CW.seq ?_
 refine CW.seq ?_
 refine CW.region fun L hL => ?_
 refine LW.rd hL rfl (Wants.free rfl) rfl (Rd.move (v := .slice m1 m1n m1c) rfl) ?_
 refine LW.rd hL rfl (Wants.free rfl) rfl (Rd.builtin (v := .int .i64 (m1n : Int)) rfl (fun _ _ => by kernel_rfl)) ?_
 refine LW.rd hL rfl (Wants.free rfl) rfl (Rd.bin (v := .bool (decide ((m1n : Int) > 30))) rfl rfl (fun w => by kernel_rfl)) ?_
 refine LW.rd hL rfl (Wants.free rfl) rfl (Rd.move (v := .bool (decide ((m1n : Int) > 30))) rfl) ?_
 suffices K1 : L 8 [(1, .slice l1 l1n l1c), (4, .bool false), (13, .bool (decide ((m1n : Int) > 30) || decide ((l1n : Int) > 20)))] w by
  rcases Bool.eq_false_or_eq_true (decide ((m1n : Int) > 30)) with hb2 | hb2
  ·skip
   refine LW.skip hL rfl (Skips.on rfl rfl rfl rfl rfl hb2) rfl ?_
   refine LW.skip hL rfl (Skips.on rfl rfl rfl rfl rfl hb2) rfl ?_
   refine LW.skip hL rfl (Skips.on rfl rfl rfl rfl rfl hb2) rfl ?_
   refine LW.rd hL rfl (Wants.free rfl) rfl (Rd.pickT rfl hb2 rfl) ?_
   exact LW.sub hL (by exact ⟨rfl, rfl, (by rw [hb2]; rfl), trivial⟩) K1
  ·skip
   refine LW.rd hL rfl (Wants.on rfl rfl rfl rfl rfl hb2) rfl (Rd.move (v := .slice l1 l1n l1c) rfl) ?_
   refine LW.rd hL rfl (Wants.on rfl rfl rfl rfl rfl hb2) rfl (Rd.builtin (v := .int .i64 (l1n : Int)) rfl (fun _ _ => by kernel_rfl)) ?_
   refine LW.rd hL rfl (Wants.on rfl rfl rfl rfl rfl hb2) rfl (Rd.bin (v := .bool (decide ((l1n : Int) > 20))) rfl rfl (fun w => by kernel_rfl)) ?_
   refine LW.rd hL rfl (Wants.free rfl) rfl (Rd.pickF rfl hb2 rfl) ?_
   exact LW.sub hL (by exact ⟨rfl, rfl, (by rw [hb2]; rfl), trivial⟩) K1
 refine LW.nil hL rfl ?_
 refine NW.then ?_
 refine CW.cond rfl (fun hb3 => ?_) (fun hb3 => ?_)
 ·replace h := h.1 hb3
  refine CW.seq ?_
  refine CW.region fun L hL => ?_
  refine LW.rd hL rfl (Wants.free rfl) rfl (Rd.assign (v := .bool true) rfl) ?_
  refine LW.nil hL rfl ?_
  refine NW.then ?_
  refine CW.ret ?_
  refine RW.then ?_
  exact res1 rfl rfl ⟨true, rfl, h⟩
 ·replace h := h.2 hb3
  refine CW.skip ?_
  refine NW.then ?_
  refine CW.seq ?_
  refine CW.seq ?_
  refine CW.region fun L hL => ?_
  refine LW.rd hL rfl (Wants.free rfl) rfl (Rd.assign (v := .int .i64 0) rfl) ?_
  refine LW.nil hL rfl ?_
  refine NW.then ?_
  refine CW.block ?_
  obtain ⟨I1, m2, hI1, h⟩ := h
  refine CW.loop (S := Bool × Int) (fun s1 => [(1, .slice l1 l1n l1c), (4, .bool s1.1), (5, .int .i64 s1.2)]) I1 m2 (false, 0) (by exact ⟨rfl, rfl, rfl, trivial⟩) hI1 (fun s1 w1 hI1 => ?_)
  replace h := h s1 w1 hI1
  refine CW.seq ?_
  refine CW.seq ?_
  refine CW.region fun L hL => ?_
  refine LW.rd hL rfl (Wants.free rfl) rfl (Rd.move (v := .int .i64 s1.2) rfl) ?_
  refine LW.rd hL rfl (Wants.free rfl) rfl (Rd.move (v := .slice l1 l1n l1c) rfl) ?_
  refine LW.rd hL rfl (Wants.free rfl) rfl (Rd.builtin (v := .int .i64 (l1n : Int)) rfl (fun _ _ => by kernel_rfl)) ?_
  refine LW.rd hL rfl (Wants.free rfl) rfl (Rd.bin (v := .bool (decide (s1.2 < (l1n : Int)))) rfl rfl (fun w => by kernel_rfl)) ?_
  refine LW.nil hL rfl ?_
  refine NW.then ?_
  refine CW.cond rfl (fun hb4 => ?_) (fun hb4 => ?_)
  ·replace h := h.1 hb4
   refine CW.skip ?_
   refine NW.then ?_
   refine CW.seq ?_
   refine CW.block ?_
   refine CW.seq ?_
   refine CW.region fun L hL => ?_
   refine LW.rd hL rfl (Wants.free rfl) rfl (Rd.move (v := .slice l1 l1n l1c) rfl) ?_
   refine LW.rd hL rfl (Wants.free rfl) rfl (Rd.move (v := .int .i64 s1.2) rfl) ?_
   obtain ⟨a1, he1, hi1, hi2, h⟩ := h
   refine LW.rd hL rfl (Wants.free rfl) rfl (Rd.iaS (q := a1) (sz := 3) (by rw [← he1]; rfl) rfl Tryz.underlying27 (by kernel_rfl) hi1 hi2) ?_
   refine LW.rd hL rfl (Wants.free rfl) rfl (Rd.fa (v := .pointer (some ((a1.add (Int.toNat s1.2 * 3)).add 2))) rfl (fun _ => by kernel_rfl)) ?_
   obtain ⟨t1, t1n, t1c, hc1, h⟩ := h
   refine LW.rd hL rfl (Wants.free rfl) rfl (Rd.ld (v := .slice t1 t1n t1c) rfl (by kernel_rfl) (eqs hc1)) ?_
   refine LW.rd hL rfl (Wants.free rfl) rfl (Rd.builtin (v := .int .i64 (t1n : Int)) rfl (fun _ _ => by kernel_rfl)) ?_
   refine LW.rd hL rfl (Wants.free rfl) rfl (Rd.bin (v := .bool (decide ((t1n : Int) > 20))) rfl rfl (fun w => by kernel_rfl)) ?_
   refine LW.nil hL rfl ?_
   refine NW.then ?_
   refine CW.cond rfl (fun hb5 => ?_) (fun hb5 => ?_)
   ·replace h := h.1 hb5
    refine CW.seq ?_
    refine CW.region fun L hL => ?_
    refine LW.rd hL rfl (Wants.free rfl) rfl (Rd.assign (v := .bool true) rfl) ?_
    refine LW.nil hL rfl ?_
    refine NW.then ?_
    refine CW.ret ?_
    refine RW.block ?_
    refine RW.then ?_
    refine RW.then ?_
    refine RW.block ?_
    refine RW.then ?_
    exact res1 rfl rfl ⟨true, rfl, h⟩
   ·replace h := h.2 hb5
    refine CW.skip ?_
    refine NW.block ?_
    refine NW.then ?_
    refine CW.region fun L hL => ?_
    refine LW.rd hL rfl (Wants.free rfl) rfl (Rd.move (v := .int .i64 s1.2) rfl) ?_
    refine LW.rd hL rfl (Wants.free rfl) rfl (Rd.bin (v := .int .i64 (IntKind.wrap .i64 (s1.2 + 1))) rfl rfl (fun w => by kernel_rfl)) ?_
    refine LW.rd hL rfl (Wants.free rfl) rfl (Rd.assign (v := .int .i64 (IntKind.wrap .i64 (s1.2 + 1))) rfl) ?_
    refine LW.nil hL rfl ?_
    exact NW.loop (S := Bool × Int) (Ek := fun s1 => [(1, .slice l1 l1n l1c), (4, .bool s1.1), (5, .int .i64 s1.2)]) (s1.1, IntKind.wrap .i64 (s1.2 + 1)) (by exact ⟨rfl, rfl, rfl, trivial⟩) h
  ·replace h := h.2 hb4
   refine CW.exit ?_
   refine XW.then ?_
   refine XW.then ?_
   refine XW.hit ?_
   refine NW.then ?_
   refine CW.seq ?_
   refine CW.region fun L hL => ?_
   refine LW.rd hL rfl (Wants.free rfl) rfl (Rd.assign (v := .bool false) rfl) ?_
   refine LW.nil hL rfl ?_
   refine NW.then ?_
   refine CW.ret ?_
   exact res1 rfl rfl ⟨false, rfl, h⟩
/- pomander/pomanderlaw13.known -/
def V_pomanderlaw13_known  (w : World) (R : Bool → World → Prop) : Prop :=
 Calls Tryz.prog 39 #[] w fun e w1 => ∃ (r2 : Option Addr), e = .returned (.pointer r2) ∧ (Calls Tryz.prog 40 #[.pointer r2, .int .u32 1] w1 fun e w2 => ∃ (r3 : Int), e = .returned (.int .i64 r3) ∧ (Calls Tryz.prog 26 #[.agg #[.int .i64 1, .int .i64 1], .int .i64 4] w2 fun e w3 => ∃ (r4 : Option Addr) (r5 : Int), e = .returned (.tuple #[.pointer r4, .int .i64 r5]) ∧ (∀ b1 : Nat, b1 = World.size w3 → ∀ w4 : World, w4 = World.alloc w3 (.cells #[.int .i64 0, .int .i64 0] 62) → (Has w4 (⟨b1, 0, none⟩ : Addr) 2 ∧ Free w4 (⟨b1, 0, none⟩ : Addr) 2 ∧ ∀ w5 : World, w5 = setCells w4 (⟨b1, 0, none⟩ : Addr) 0 [.int .i64 13, .int .i64 0] → (∃ (t1 : Int) (t2 : Int), CellsAt w5 (⟨b1, 0, none⟩ : Addr) 0 [.int .i64 t1, .int .i64 t2] ∧ (Calls Tryz.prog 31 #[.pointer r4, .agg #[.int .i64 t1, .int .i64 t2], .int .i64 1, .int .u32 1] w5 fun e w6 => ∃ (r6 : Int), e = .returned (.int .i64 r6) ∧ (∃ (t3 : Int) (t4 : Int), CellsAt w6 (⟨b1, 0, none⟩ : Addr) 0 [.int .i64 t3, .int .i64 t4] ∧ (∀ b2 : Nat, b2 = World.size w6 → ∀ w7 : World, w7 = World.alloc w6 (.cells #[.int .i64 t3, .int .i64 t4] 62) → (∀ b3 : Nat, b3 = World.size w7 → ∀ w8 : World, w8 = World.alloc w7 (.cells #[.int .i64 0, .int .i64 0, .slice (some (⟨b2, 0, none⟩ : Addr)) 1 1] 65) → (Calls Tryz.prog 16 #[.pointer r2, .pointer r4, .slice (some (⟨b3, 0, none⟩ : Addr)) 1 1] w8 fun e w9 => ∃ (r7 : Bool) (r8 : Int), e = .returned (.tuple #[.bool r7, .int .i64 r8]) ∧ (∃ (t5 : Int) (t6 : Int), CellsAt w9 (⟨b1, 0, none⟩ : Addr) 0 [.int .i64 t5, .int .i64 t6] ∧ (∃ (t7 : Int) (t8 : Int), CellsAt w9 (⟨b1, 0, none⟩ : Addr) 0 [.int .i64 t7, .int .i64 t8] ∧ (∀ b4 : Nat, b4 = World.size w9 → ∀ w10 : World, w10 = World.alloc w9 (.cells #[.int .i64 t7, .int .i64 t8] 62) → (∀ b5 : Nat, b5 = World.size w10 → ∀ w11 : World, w11 = World.alloc w10 (.cells #[.int .i64 t5, .int .i64 t6, .slice (some (⟨b4, 0, none⟩ : Addr)) 1 1] 65) → (Calls Tryz.prog 16 #[.pointer r2, .pointer r4, .slice (some (⟨b5, 0, none⟩ : Addr)) 1 1] w11 fun e w12 => ∃ (r9 : Bool) (r10 : Int), e = .returned (.tuple #[.bool r9, .int .i64 r10]) ∧ (R ((((r3 == 0 && r7) && r8 == 0) && !r9) && r10 == 0) w12))))))))))))))))
set_option maxRecDepth 100000 in
theorem ok_pomanderlaw13_known  (w : World) (R : Bool → World → Prop) (h : V_pomanderlaw13_known  w R) : Calls Tryz.prog 11 #[] w (fun e w' => ∃ (r1 : Bool), e = .returned (.bool r1) ∧ R r1 w') := by
 unfold V_pomanderlaw13_known at h
 refine enter (N := 60) Tryz.func11 rfl rfl ?_
 refine CW.seq ?_
 refine CW.region fun L hL => ?_
 refine LW.rd hL rfl (Wants.free rfl) rfl (Rd.assign (v := .bool false) rfl) ?_
 refine LW.nil hL rfl ?_
 refine NW.then ?_
 refine CW.seq ?_
 refine CW.region fun L hL => ?_
 refine LW.call hL rfl (Wants.free rfl) rfl (Cl.fn (f := 39) rfl Tryz.func39 (by kernel_rfl) rfl) h (fun e w1 h_ => ?_)
 clear h
 obtain ⟨r2, rfl, h⟩ := h_
 refine ⟨_, rfl, ?_⟩
 refine LW.rd hL rfl (Wants.free rfl) rfl (Rd.assign (v := .pointer r2) rfl) ?_
 refine LW.nil hL rfl ?_
 refine NW.then ?_
 refine CW.seq ?_
 refine CW.region fun L hL => ?_
 refine LW.rd hL rfl (Wants.free rfl) rfl (Rd.move (v := .pointer r2) rfl) ?_
 refine LW.call hL rfl (Wants.free rfl) rfl (Cl.fn (f := 40) rfl Tryz.func40 (by kernel_rfl) rfl) h (fun e w2 h_ => ?_)
 clear h
 obtain ⟨r3, rfl, h⟩ := h_
 refine ⟨_, rfl, ?_⟩
 refine LW.rd hL rfl (Wants.free rfl) rfl (Rd.assign (v := .int .i64 r3) rfl) ?_
 refine LW.nil hL rfl ?_
 refine NW.then ?_
 refine CW.seq ?_
 refine CW.region fun L hL => ?_
 refine LW.rd hL rfl (Wants.free rfl) rfl (Rd.build (v := .agg #[.int .i64 1, .int .i64 1]) rfl (fun _ => by kernel_rfl)) ?_
 refine LW.call hL rfl (Wants.free rfl) rfl (Cl.fn (f := 26) rfl Tryz.func26 (by kernel_rfl) rfl) h (fun e w3 h_ => ?_)
 clear h
 obtain ⟨r4, r5, rfl, h⟩ := h_
 refine ⟨_, rfl, ?_⟩
 refine LW.rd hL rfl (Wants.free rfl) rfl (Rd.move (v := .tuple #[.pointer r4, .int .i64 r5]) rfl) ?_
 refine LW.rd hL rfl (Wants.free rfl) rfl (Rd.extract (v := .pointer r4) rfl rfl) ?_
 refine LW.rd hL rfl (Wants.free rfl) rfl (Rd.extract (v := .int .i64 r5) rfl rfl) ?_
 refine LW.rd hL rfl (Wants.free rfl) rfl (Rd.assign (v := .pointer r4) rfl) ?_
 refine LW.rd hL rfl (Wants.free rfl) rfl (Rd.assign (v := .int .i64 r5) rfl) ?_
 refine LW.nil hL rfl ?_
 refine NW.then ?_
 refine CW.seq ?_
 refine CW.region fun L hL => ?_
 refine LW.rd hL rfl (Wants.free rfl) rfl (Rd.build (v := .agg #[.int .i64 13, .int .i64 0]) rfl (fun _ => by kernel_rfl)) ?_
 obtain ⟨b1, hb_b1⟩ : ∃ b1, b1 = World.size w3 := ⟨_, rfl⟩
 obtain ⟨w4, hw_w4⟩ : ∃ w4, w4 = World.alloc w3 (.cells #[.int .i64 0, .int .i64 0] 62) := ⟨_, rfl⟩
 replace h := h b1 hb_b1 w4 hw_w4
 refine LW.val hL rfl (Wants.free rfl) rfl (boxE hb_b1 hw_w4 (Vl.alloc (z := .agg #[.int .i64 0, .int .i64 0]) (by kernel_rfl))) ?_
 obtain ⟨ho1, hf1, h⟩ := h
 obtain ⟨w5, hw_w5⟩ : ∃ w5, w5 = setCells w4 (⟨b1, 0, none⟩ : Addr) 0 [.int .i64 13, .int .i64 0] := ⟨_, rfl⟩
 replace h := h w5 hw_w5
 refine LW.eff hL rfl (Wants.free rfl) rfl (stNE hw_w5 (Ef.stN (cs := [.int .i64 13, .int .i64 0]) rfl rfl (by kernel_rfl) (List.forall_mem_cons.2 ⟨rfl, (List.forall_mem_cons.2 ⟨rfl, (List.forall_mem_nil _)⟩)⟩) ho1 hf1)) ?_
 refine LW.nil hL rfl ?_
 refine NW.then ?_
 refine CW.seq ?_
 refine CW.region fun L hL => ?_
 refine LW.rd hL rfl (Wants.free rfl) rfl (Rd.move (v := .pointer r4) rfl) ?_
 obtain ⟨t1, t2, hc1, h⟩ := h
 refine LW.rd hL rfl (Wants.free rfl) rfl (Rd.ldN (cs := [.int .i64 t1, .int .i64 t2]) rfl (by kernel_rfl) (by kernel_rfl) (cellsS hc1)) ?_
 refine LW.call hL rfl (Wants.free rfl) rfl (Cl.fn (f := 31) rfl Tryz.func31 (by kernel_rfl) rfl) h (fun e w6 h_ => ?_)
 clear h
 obtain ⟨r6, rfl, h⟩ := h_
 refine ⟨_, rfl, ?_⟩
 refine LW.nil hL rfl ?_
 refine NW.then ?_
 refine CW.seq ?_
 refine CW.region fun L hL => ?_
 refine LW.rd hL rfl (Wants.free rfl) rfl (Rd.move (v := .pointer r2) rfl) ?_
 refine LW.rd hL rfl (Wants.free rfl) rfl (Rd.move (v := .pointer r4) rfl) ?_
 obtain ⟨t3, t4, hc2, h⟩ := h
 refine LW.rd hL rfl (Wants.free rfl) rfl (Rd.ldN (cs := [.int .i64 t3, .int .i64 t4]) rfl (by kernel_rfl) (by kernel_rfl) (cellsS hc2)) ?_
 obtain ⟨b2, hb_b2⟩ : ∃ b2, b2 = World.size w6 := ⟨_, rfl⟩
 obtain ⟨w7, hw_w7⟩ : ∃ w7, w7 = World.alloc w6 (.cells #[.int .i64 t3, .int .i64 t4] 62) := ⟨_, rfl⟩
 replace h := h b2 hb_b2 w7 hw_w7
 refine LW.val hL rfl (Wants.free rfl) rfl (sliceE (n := 1) hb_b2 hw_w7 (fun w => Vl.buildSlice (vs := [(0, .agg #[.int .i64 t3, .int .i64 t4])]) rfl (by kernel_rfl))) ?_
 refine LW.rd hL rfl (Wants.free rfl) rfl (Rd.build (v := .agg #[.int .i64 0, .int .i64 0, .slice (some (⟨b2, 0, none⟩ : Addr)) 1 1]) rfl (fun _ => by kernel_rfl)) ?_
 obtain ⟨b3, hb_b3⟩ : ∃ b3, b3 = World.size w7 := ⟨_, rfl⟩
 obtain ⟨w8, hw_w8⟩ : ∃ w8, w8 = World.alloc w7 (.cells #[.int .i64 0, .int .i64 0, .slice (some (⟨b2, 0, none⟩ : Addr)) 1 1] 65) := ⟨_, rfl⟩
 replace h := h b3 hb_b3 w8 hw_w8
 refine LW.val hL rfl (Wants.free rfl) rfl (sliceE (n := 1) hb_b3 hw_w8 (fun w => Vl.buildSlice (vs := [(0, .agg #[.int .i64 0, .int .i64 0, .slice (some (⟨b2, 0, none⟩ : Addr)) 1 1])]) rfl (by kernel_rfl))) ?_
 refine LW.call hL rfl (Wants.free rfl) rfl (Cl.fn (f := 16) rfl Tryz.func16 (by kernel_rfl) rfl) h (fun e w9 h_ => ?_)
 clear h
 obtain ⟨r7, r8, rfl, h⟩ := h_
 refine ⟨_, rfl, ?_⟩
 refine LW.rd hL rfl (Wants.free rfl) rfl (Rd.move (v := .tuple #[.bool r7, .int .i64 r8]) rfl) ?_
 refine LW.rd hL rfl (Wants.free rfl) rfl (Rd.extract (v := .bool r7) rfl rfl) ?_
 refine LW.rd hL rfl (Wants.free rfl) rfl (Rd.extract (v := .int .i64 r8) rfl rfl) ?_
 refine LW.rd hL rfl (Wants.free rfl) rfl (Rd.assign (v := .bool r7) rfl) ?_
 refine LW.rd hL rfl (Wants.free rfl) rfl (Rd.assign (v := .int .i64 r8) rfl) ?_
 refine LW.nil hL rfl ?_
 refine NW.then ?_
 refine CW.seq ?_
 refine CW.region fun L hL => ?_
 refine LW.rd hL rfl (Wants.free rfl) rfl (Rd.move (v := .pointer r2) rfl) ?_
 refine LW.rd hL rfl (Wants.free rfl) rfl (Rd.move (v := .pointer r4) rfl) ?_
 obtain ⟨t5, t6, hc3, h⟩ := h
 refine LW.rd hL rfl (Wants.free rfl) rfl (Rd.ldN (cs := [.int .i64 t5, .int .i64 t6]) rfl (by kernel_rfl) (by kernel_rfl) (cellsS hc3)) ?_
 obtain ⟨t7, t8, hc4, h⟩ := h
 refine LW.rd hL rfl (Wants.free rfl) rfl (Rd.ldN (cs := [.int .i64 t7, .int .i64 t8]) rfl (by kernel_rfl) (by kernel_rfl) (cellsS hc4)) ?_
 obtain ⟨b4, hb_b4⟩ : ∃ b4, b4 = World.size w9 := ⟨_, rfl⟩
 obtain ⟨w10, hw_w10⟩ : ∃ w10, w10 = World.alloc w9 (.cells #[.int .i64 t7, .int .i64 t8] 62) := ⟨_, rfl⟩
 replace h := h b4 hb_b4 w10 hw_w10
 refine LW.val hL rfl (Wants.free rfl) rfl (sliceE (n := 1) hb_b4 hw_w10 (fun w => Vl.buildSlice (vs := [(0, .agg #[.int .i64 t7, .int .i64 t8])]) rfl (by kernel_rfl))) ?_
 refine LW.rd hL rfl (Wants.free rfl) rfl (Rd.build (v := .agg #[.int .i64 t5, .int .i64 t6, .slice (some (⟨b4, 0, none⟩ : Addr)) 1 1]) rfl (fun _ => by kernel_rfl)) ?_
 obtain ⟨b5, hb_b5⟩ : ∃ b5, b5 = World.size w10 := ⟨_, rfl⟩
 obtain ⟨w11, hw_w11⟩ : ∃ w11, w11 = World.alloc w10 (.cells #[.int .i64 t5, .int .i64 t6, .slice (some (⟨b4, 0, none⟩ : Addr)) 1 1] 65) := ⟨_, rfl⟩
 replace h := h b5 hb_b5 w11 hw_w11
 refine LW.val hL rfl (Wants.free rfl) rfl (sliceE (n := 1) hb_b5 hw_w11 (fun w => Vl.buildSlice (vs := [(0, .agg #[.int .i64 t5, .int .i64 t6, .slice (some (⟨b4, 0, none⟩ : Addr)) 1 1])]) rfl (by kernel_rfl))) ?_
 refine LW.call hL rfl (Wants.free rfl) rfl (Cl.fn (f := 16) rfl Tryz.func16 (by kernel_rfl) rfl) h (fun e w12 h_ => ?_)
 clear h
 obtain ⟨r9, r10, rfl, h⟩ := h_
 refine ⟨_, rfl, ?_⟩
 refine LW.rd hL rfl (Wants.free rfl) rfl (Rd.move (v := .tuple #[.bool r9, .int .i64 r10]) rfl) ?_
 refine LW.rd hL rfl (Wants.free rfl) rfl (Rd.extract (v := .bool r9) rfl rfl) ?_
 refine LW.rd hL rfl (Wants.free rfl) rfl (Rd.extract (v := .int .i64 r10) rfl rfl) ?_
 refine LW.rd hL rfl (Wants.free rfl) rfl (Rd.assign (v := .bool r9) rfl) ?_
 refine LW.rd hL rfl (Wants.free rfl) rfl (Rd.assign (v := .int .i64 r10) rfl) ?_
 refine LW.nil hL rfl ?_
 refine NW.then ?_
 refine CW.seq ?_
 refine CW.region fun L hL => ?_
 refine LW.rd hL rfl (Wants.free rfl) rfl (Rd.move (v := .int .i64 r3) rfl) ?_
 refine LW.rd hL rfl (Wants.free rfl) rfl (Rd.bin (v := .bool (r3 == 0)) rfl rfl (fun w => by kernel_rfl)) ?_
 refine LW.rd hL rfl (Wants.free rfl) rfl (Rd.move (v := .bool (r3 == 0)) rfl) ?_
 suffices K1 : L 5 [(0, .bool false), (7, .int .i64 r8), (8, .bool r9), (9, .int .i64 r10), (47, .bool (r3 == 0 && r7))] w12 by
  rcases Bool.eq_false_or_eq_true (r3 == 0) with hb2 | hb2
  ·skip
   refine LW.rd hL rfl (Wants.on rfl rfl rfl rfl rfl hb2) rfl (Rd.move (v := .bool r7) rfl) ?_
   refine LW.rd hL rfl (Wants.free rfl) rfl (Rd.pickT rfl hb2 rfl) ?_
   exact LW.sub hL (by exact ⟨rfl, rfl, rfl, rfl, (by rw [hb2]; rfl), trivial⟩) K1
  ·skip
   refine LW.skip hL rfl (Skips.on rfl rfl rfl rfl rfl hb2) rfl ?_
   refine LW.rd hL rfl (Wants.free rfl) rfl (Rd.pickF rfl hb2 rfl) ?_
   exact LW.sub hL (by exact ⟨rfl, rfl, rfl, rfl, (by rw [hb2]; rfl), trivial⟩) K1
 refine LW.rd hL rfl (Wants.free rfl) rfl (Rd.move (v := .bool (r3 == 0 && r7)) rfl) ?_
 suffices K2 : L 9 [(0, .bool false), (8, .bool r9), (9, .int .i64 r10), (51, .bool ((r3 == 0 && r7) && r8 == 0))] w12 by
  rcases Bool.eq_false_or_eq_true (r3 == 0 && r7) with hb4 | hb4
  ·skip
   refine LW.rd hL rfl (Wants.on rfl rfl rfl rfl rfl hb4) rfl (Rd.move (v := .int .i64 r8) rfl) ?_
   refine LW.rd hL rfl (Wants.on rfl rfl rfl rfl rfl hb4) rfl (Rd.bin (v := .bool (r8 == 0)) rfl rfl (fun w => by kernel_rfl)) ?_
   refine LW.rd hL rfl (Wants.free rfl) rfl (Rd.pickT rfl hb4 rfl) ?_
   exact LW.sub hL (by exact ⟨rfl, rfl, rfl, (by rw [hb4]; rfl), trivial⟩) K2
  ·skip
   refine LW.skip hL rfl (Skips.on rfl rfl rfl rfl rfl hb4) rfl ?_
   refine LW.skip hL rfl (Skips.on rfl rfl rfl rfl rfl hb4) rfl ?_
   refine LW.rd hL rfl (Wants.free rfl) rfl (Rd.pickF rfl hb4 rfl) ?_
   exact LW.sub hL (by exact ⟨rfl, rfl, rfl, (by rw [hb4]; rfl), trivial⟩) K2
 refine LW.rd hL rfl (Wants.free rfl) rfl (Rd.move (v := .bool ((r3 == 0 && r7) && r8 == 0)) rfl) ?_
 suffices K3 : L 13 [(0, .bool false), (9, .int .i64 r10), (55, .bool (((r3 == 0 && r7) && r8 == 0) && !r9))] w12 by
  rcases Bool.eq_false_or_eq_true ((r3 == 0 && r7) && r8 == 0) with hb6 | hb6
  ·skip
   refine LW.rd hL rfl (Wants.on rfl rfl rfl rfl rfl hb6) rfl (Rd.move (v := .bool r9) rfl) ?_
   refine LW.rd hL rfl (Wants.on rfl rfl rfl rfl rfl hb6) rfl (Rd.un (v := .bool (!r9)) rfl (fun _ => by kernel_rfl)) ?_
   refine LW.rd hL rfl (Wants.free rfl) rfl (Rd.pickT rfl hb6 rfl) ?_
   exact LW.sub hL (by exact ⟨rfl, rfl, (by rw [hb6]; rfl), trivial⟩) K3
  ·skip
   refine LW.skip hL rfl (Skips.on rfl rfl rfl rfl rfl hb6) rfl ?_
   refine LW.skip hL rfl (Skips.on rfl rfl rfl rfl rfl hb6) rfl ?_
   refine LW.rd hL rfl (Wants.free rfl) rfl (Rd.pickF rfl hb6 rfl) ?_
   exact LW.sub hL (by exact ⟨rfl, rfl, (by rw [hb6]; rfl), trivial⟩) K3
 refine LW.rd hL rfl (Wants.free rfl) rfl (Rd.move (v := .bool (((r3 == 0 && r7) && r8 == 0) && !r9)) rfl) ?_
 suffices K4 : L 17 [(0, .bool false), (59, .bool ((((r3 == 0 && r7) && r8 == 0) && !r9) && r10 == 0))] w12 by
  rcases Bool.eq_false_or_eq_true (((r3 == 0 && r7) && r8 == 0) && !r9) with hb8 | hb8
  ·skip
   refine LW.rd hL rfl (Wants.on rfl rfl rfl rfl rfl hb8) rfl (Rd.move (v := .int .i64 r10) rfl) ?_
   refine LW.rd hL rfl (Wants.on rfl rfl rfl rfl rfl hb8) rfl (Rd.bin (v := .bool (r10 == 0)) rfl rfl (fun w => by kernel_rfl)) ?_
   refine LW.rd hL rfl (Wants.free rfl) rfl (Rd.pickT rfl hb8 rfl) ?_
   exact LW.sub hL (by exact ⟨rfl, (by rw [hb8]; rfl), trivial⟩) K4
  ·skip
   refine LW.skip hL rfl (Skips.on rfl rfl rfl rfl rfl hb8) rfl ?_
   refine LW.skip hL rfl (Skips.on rfl rfl rfl rfl rfl hb8) rfl ?_
   refine LW.rd hL rfl (Wants.free rfl) rfl (Rd.pickF rfl hb8 rfl) ?_
   exact LW.sub hL (by exact ⟨rfl, (by rw [hb8]; rfl), trivial⟩) K4
 refine LW.rd hL rfl (Wants.free rfl) rfl (Rd.assign (v := .bool ((((r3 == 0 && r7) && r8 == 0) && !r9) && r10 == 0)) rfl) ?_
 refine LW.nil hL rfl ?_
 refine NW.then ?_
 refine CW.ret ?_
 exact res1 rfl rfl ⟨((((r3 == 0 && r7) && r8 == 0) && !r9) && r10 == 0), rfl, h⟩
/- pomander/pomanderlaw13.made -/
def V_pomanderlaw13_made (l1 : Option Addr) (l1n : Nat) (l1c : Nat) (w : World) (R : (Option Addr) → Int → Int → Int → (Option Addr) → Nat → Nat → (Option Addr) → Nat → Nat → World → Prop) : Prop :=
 ∀ b1 : Nat, b1 = World.size w → ∀ w1 : World, w1 = World.alloc w (.cells #[.int .i64 0, .int .i64 0, .int .i64 0, .slice none 0 0, .slice none 0 0] 43) → (∀ b2 : Nat, b2 = World.size w1 → ∀ w2 : World, w2 = World.alloc w1 (.cells #[.int .i64 0, .int .i64 0] 37) → (Has w2 (⟨b2, 0, none⟩ : Addr) 2 ∧ Free w2 (⟨b2, 0, none⟩ : Addr) 2 ∧ ∀ w3 : World, w3 = setCells w2 (⟨b2, 0, none⟩ : Addr) 0 [.int .i64 2, .int .i64 2] → (∃ (t1 : Int) (t2 : Int), CellsAt w3 (⟨b2, 0, none⟩ : Addr) 0 [.int .i64 t1, .int .i64 t2] ∧ (Calls Tryz.prog 26 #[.agg #[.int .i64 t1, .int .i64 t2], .int .i64 65536] w3 fun e w4 => ∃ (r7 : Option Addr) (r8 : Int), e = .returned (.tuple #[.pointer r7, .int .i64 r8]) ∧ (∃ (t3 : Int) (t4 : Int), CellsAt w4 (⟨b2, 0, none⟩ : Addr) 0 [.int .i64 t3, .int .i64 t4] ∧ (Calls Tryz.prog 28 #[.agg #[.int .i64 t3, .int .i64 t4], .int .i64 65536] w4 fun e w5 => ∃ (r9 : Int) (r10 : Int) (r11 : Int) (r12 : Option Addr) (r12n : Nat) (r12c : Nat) (r13 : Option Addr) (r13n : Nat) (r13c : Nat), e = .returned (.agg #[.int .i64 r9, .int .i64 r10, .int .i64 r11, .slice r12 r12n r12c, .slice r13 r13n r13c]) ∧ (∀ b3 : Nat, b3 = World.size w5 → ∀ w6 : World, w6 = World.alloc w5 (.cells #[.int .i64 0, .int .i64 0, .int .i64 0, .slice none 0 0, .slice none 0 0] 43) → (Has w6 (⟨b3, 0, none⟩ : Addr) 5 ∧ Free w6 (⟨b3, 0, none⟩ : Addr) 5 ∧ ∀ w7 : World, w7 = setCells w6 (⟨b3, 0, none⟩ : Addr) 0 [.int .i64 r9, .int .i64 r10, .int .i64 r11, .slice r12 r12n r12c, .slice r13 r13n r13c] → (∃ (I1 : Int → World → Prop) (m1 : Int → World → Nat), I1 0 w7 ∧ ∀ (s1 : Int) (w8 : World), I1 s1 w8 → ((decide (s1 < (l1n : Int))) = true → ∀ w9 : World, w9 = World.drew w8 → ∃ a1 : Addr, l1 = some a1 ∧ (0 : Int) ≤ s1 ∧ s1 < (l1n : Int) ∧ (∃ (t5 : Int) (t6 : Int), CellsAt w9 (a1.add (Int.toNat s1 * 3)) 0 [.int .i64 t5, .int .i64 t6] ∧ (∃ a2 : Addr, l1 = some a2 ∧ (0 : Int) ≤ s1 ∧ s1 < (l1n : Int) ∧ (∃ (t7 : Int), w9.cell? ((a2.add (Int.toNat s1 * 3)).add 2) = some (.int .u32 t7) ∧ (Calls Tryz.prog 31 #[.pointer r7, .agg #[.int .i64 t5, .int .i64 t6], .int .i64 1, .int .u32 t7] w9 fun e w10 => ∃ (r14 : Int), e = .returned (.int .i64 r14) ∧ (∀ w11 : World, w11 = World.drew w10 → ∃ (t8 : Int) (t9 : Int) (t10 : Int) (t11 : Option Addr) (t11n : Nat) (t11c : Nat) (t12 : Option Addr) (t12n : Nat) (t12c : Nat), CellsAt w11 (⟨b3, 0, none⟩ : Addr) 0 [.int .i64 t8, .int .i64 t9, .int .i64 t10, .slice t11 t11n t11c, .slice t12 t12n t12c] ∧ (∃ a3 : Addr, l1 = some a3 ∧ (0 : Int) ≤ s1 ∧ s1 < (l1n : Int) ∧ (∃ (t13 : Int) (t14 : Int), CellsAt w11 (a3.add (Int.toNat s1 * 3)) 0 [.int .i64 t13, .int .i64 t14] ∧ (∃ a4 : Addr, l1 = some a4 ∧ (0 : Int) ≤ s1 ∧ s1 < (l1n : Int) ∧ (∃ (t15 : Int), w11.cell? ((a4.add (Int.toNat s1 * 3)).add 2) = some (.int .u32 t15) ∧ (Calls Tryz.prog 42 #[.agg #[.int .i64 t8, .int .i64 t9, .int .i64 t10, .slice t11 t11n t11c, .slice t12 t12n t12c], .agg #[.int .i64 t13, .int .i64 t14], .int .i64 1, .int .u32 t15] w11 fun e w12 => ∃ (r15 : Int) (r16 : Int) (r17 : Int) (r18 : Option Addr) (r18n : Nat) (r18c : Nat) (r19 : Option Addr) (r19n : Nat) (r19c : Nat) (r20 : Int), e = .returned (.tuple #[.agg #[.int .i64 r15, .int .i64 r16, .int .i64 r17, .slice r18 r18n r18c, .slice r19 r19n r19c], .int .i64 r20]) ∧ ((CellsAt w12 (⟨b3, 0, none⟩ : Addr) 0 [.int .i64 t8, .int .i64 t9, .int .i64 t10, .slice t11 t11n t11c, .slice t12 t12n t12c] ∧ CellsAt w12 (a3.add (Int.toNat s1 * 3)) 0 [.int .i64 t13, .int .i64 t14] ∧ w12.cell? ((a4.add (Int.toNat s1 * 3)).add 2) = some (.int .u32 t15) ∧ True) ∧ (Has w12 (⟨b3, 0, none⟩ : Addr) 5 ∧ Free w12 (⟨b3, 0, none⟩ : Addr) 5 ∧ ∀ w13 : World, w13 = setCells w12 (⟨b3, 0, none⟩ : Addr) 0 [.int .i64 r15, .int .i64 r16, .int .i64 r17, .slice r18 r18n r18c, .slice r19 r19n r19c] → ((I1 (IntKind.wrap .i64 (s1 + 1)) w13 ∧ m1 (IntKind.wrap .i64 (s1 + 1)) w13 < m1 s1 w8))))))))))))))) ∧ ((decide (s1 < (l1n : Int))) = false → ∀ w14 : World, w14 = World.drew w8 → ∃ (t16 : Int) (t17 : Int) (t18 : Int) (t19 : Option Addr) (t19n : Nat) (t19c : Nat) (t20 : Option Addr) (t20n : Nat) (t20c : Nat), CellsAt w14 (⟨b3, 0, none⟩ : Addr) 0 [.int .i64 t16, .int .i64 t17, .int .i64 t18, .slice t19 t19n t19c, .slice t20 t20n t20c] ∧ (Has w14 (⟨b1, 0, none⟩ : Addr) 5 ∧ Free w14 (⟨b1, 0, none⟩ : Addr) 5 ∧ ∀ w15 : World, w15 = setCells w14 (⟨b1, 0, none⟩ : Addr) 0 [.int .i64 t16, .int .i64 t17, .int .i64 t18, .slice t19 t19n t19c, .slice t20 t20n t20c] → (∃ (r21 : Int) (r22 : Int) (r23 : Int) (r24 : Option Addr) (r24n : Nat) (r24c : Nat) (r25 : Option Addr) (r25n : Nat) (r25c : Nat), CellsAt w15 (⟨b1, 0, none⟩ : Addr) 0 [.int .i64 r21, .int .i64 r22, .int .i64 r23, .slice r24 r24n r24c, .slice r25 r25n r25c] ∧ R r7 r21 r22 r23 r24 r24n r24c r25 r25n r25c w15))))))))))))
set_option maxRecDepth 100000 in
theorem ok_pomanderlaw13_made (l1 : Option Addr) (l1n : Nat) (l1c : Nat) (w : World) (R : (Option Addr) → Int → Int → Int → (Option Addr) → Nat → Nat → (Option Addr) → Nat → Nat → World → Prop) (h : V_pomanderlaw13_made l1 l1n l1c w R) : Calls Tryz.prog 14 #[.slice l1 l1n l1c] w (fun e w' => ∃ (r1 : Option Addr) (r2 : Int) (r3 : Int) (r4 : Int) (r5 : Option Addr) (r5n : Nat) (r5c : Nat) (r6 : Option Addr) (r6n : Nat) (r6c : Nat), e = .returned (.tuple #[.pointer r1, .agg #[.int .i64 r2, .int .i64 r3, .int .i64 r4, .slice r5 r5n r5c, .slice r6 r6n r6c]]) ∧ R r1 r2 r3 r4 r5 r5n r5c r6 r6n r6c w') := by
 unfold V_pomanderlaw13_made at h
 refine enter (N := 52) Tryz.func14 rfl rfl ?_
 refine CW.seq ?_
 refine CW.region fun L hL => ?_
 refine LW.rd hL rfl (Wants.free rfl) rfl (Rd.assign (v := .pointer none) rfl) ?_
 obtain ⟨b1, hb_b1⟩ : ∃ b1, b1 = World.size w := ⟨_, rfl⟩
 obtain ⟨w1, hw_w1⟩ : ∃ w1, w1 = World.alloc w (.cells #[.int .i64 0, .int .i64 0, .int .i64 0, .slice none 0 0, .slice none 0 0] 43) := ⟨_, rfl⟩
 replace h := h b1 hb_b1 w1 hw_w1
 refine LW.val hL rfl (Wants.free rfl) rfl (boxE hb_b1 hw_w1 (Vl.alloc (z := .agg #[.int .i64 0, .int .i64 0, .int .i64 0, .slice none 0 0, .slice none 0 0]) (by kernel_rfl))) ?_
 refine LW.nil hL rfl ?_
 refine NW.then ?_
 refine CW.seq ?_
 refine CW.region fun L hL => ?_
 refine LW.rd hL rfl (Wants.free rfl) rfl (Rd.build (v := .agg #[.int .i64 2, .int .i64 2]) rfl (fun _ => by kernel_rfl)) ?_
 obtain ⟨b2, hb_b2⟩ : ∃ b2, b2 = World.size w1 := ⟨_, rfl⟩
 obtain ⟨w2, hw_w2⟩ : ∃ w2, w2 = World.alloc w1 (.cells #[.int .i64 0, .int .i64 0] 37) := ⟨_, rfl⟩
 replace h := h b2 hb_b2 w2 hw_w2
 refine LW.val hL rfl (Wants.free rfl) rfl (boxE hb_b2 hw_w2 (Vl.alloc (z := .agg #[.int .i64 0, .int .i64 0]) (by kernel_rfl))) ?_
 obtain ⟨ho1, hf1, h⟩ := h
 obtain ⟨w3, hw_w3⟩ : ∃ w3, w3 = setCells w2 (⟨b2, 0, none⟩ : Addr) 0 [.int .i64 2, .int .i64 2] := ⟨_, rfl⟩
 replace h := h w3 hw_w3
 refine LW.eff hL rfl (Wants.free rfl) rfl (stNE hw_w3 (Ef.stN (cs := [.int .i64 2, .int .i64 2]) rfl rfl (by kernel_rfl) (List.forall_mem_cons.2 ⟨rfl, (List.forall_mem_cons.2 ⟨rfl, (List.forall_mem_nil _)⟩)⟩) ho1 hf1)) ?_
 refine LW.nil hL rfl ?_
 refine NW.then ?_
 refine CW.seq ?_
 refine CW.region fun L hL => ?_
 obtain ⟨t1, t2, hc1, h⟩ := h
 refine LW.rd hL rfl (Wants.free rfl) rfl (Rd.ldN (cs := [.int .i64 t1, .int .i64 t2]) rfl (by kernel_rfl) (by kernel_rfl) (cellsS hc1)) ?_
 refine LW.call hL rfl (Wants.free rfl) rfl (Cl.fn (f := 26) rfl Tryz.func26 (by kernel_rfl) rfl) h (fun e w4 h_ => ?_)
 clear h
 obtain ⟨r7, r8, rfl, h⟩ := h_
 refine ⟨_, rfl, ?_⟩
 refine LW.rd hL rfl (Wants.free rfl) rfl (Rd.move (v := .tuple #[.pointer r7, .int .i64 r8]) rfl) ?_
 refine LW.rd hL rfl (Wants.free rfl) rfl (Rd.extract (v := .pointer r7) rfl rfl) ?_
 refine LW.rd hL rfl (Wants.free rfl) rfl (Rd.extract (v := .int .i64 r8) rfl rfl) ?_
 refine LW.rd hL rfl (Wants.free rfl) rfl (Rd.assign (v := .pointer r7) rfl) ?_
 refine LW.rd hL rfl (Wants.free rfl) rfl (Rd.assign (v := .int .i64 r8) rfl) ?_
 refine LW.nil hL rfl ?_
 refine NW.then ?_
 refine CW.seq ?_
 refine CW.region fun L hL => ?_
 obtain ⟨t3, t4, hc2, h⟩ := h
 refine LW.rd hL rfl (Wants.free rfl) rfl (Rd.ldN (cs := [.int .i64 t3, .int .i64 t4]) rfl (by kernel_rfl) (by kernel_rfl) (cellsS hc2)) ?_
 refine LW.call hL rfl (Wants.free rfl) rfl (Cl.fn (f := 28) rfl Tryz.func28 (by kernel_rfl) rfl) h (fun e w5 h_ => ?_)
 clear h
 obtain ⟨r9, r10, r11, r12, r12n, r12c, r13, r13n, r13c, rfl, h⟩ := h_
 refine ⟨_, rfl, ?_⟩
 obtain ⟨b3, hb_b3⟩ : ∃ b3, b3 = World.size w5 := ⟨_, rfl⟩
 obtain ⟨w6, hw_w6⟩ : ∃ w6, w6 = World.alloc w5 (.cells #[.int .i64 0, .int .i64 0, .int .i64 0, .slice none 0 0, .slice none 0 0] 43) := ⟨_, rfl⟩
 replace h := h b3 hb_b3 w6 hw_w6
 refine LW.val hL rfl (Wants.free rfl) rfl (boxE hb_b3 hw_w6 (Vl.alloc (z := .agg #[.int .i64 0, .int .i64 0, .int .i64 0, .slice none 0 0, .slice none 0 0]) (by kernel_rfl))) ?_
 obtain ⟨ho2, hf2, h⟩ := h
 obtain ⟨w7, hw_w7⟩ : ∃ w7, w7 = setCells w6 (⟨b3, 0, none⟩ : Addr) 0 [.int .i64 r9, .int .i64 r10, .int .i64 r11, .slice r12 r12n r12c, .slice r13 r13n r13c] := ⟨_, rfl⟩
 replace h := h w7 hw_w7
 refine LW.eff hL rfl (Wants.free rfl) rfl (stNE hw_w7 (Ef.stN (cs := [.int .i64 r9, .int .i64 r10, .int .i64 r11, .slice r12 r12n r12c, .slice r13 r13n r13c]) rfl rfl (by kernel_rfl) (List.forall_mem_cons.2 ⟨rfl, (List.forall_mem_cons.2 ⟨rfl, (List.forall_mem_cons.2 ⟨rfl, (List.forall_mem_cons.2 ⟨rfl, (List.forall_mem_cons.2 ⟨rfl, (List.forall_mem_nil _)⟩)⟩)⟩)⟩)⟩) ho2 hf2)) ?_
 refine LW.nil hL rfl ?_
 refine NW.then ?_
 refine CW.seq ?_
 refine CW.seq ?_
 refine CW.region fun L hL => ?_
 refine LW.rd hL rfl (Wants.free rfl) rfl (Rd.assign (v := .int .i64 0) rfl) ?_
 refine LW.nil hL rfl ?_
 refine NW.then ?_
 refine CW.block ?_
 obtain ⟨I1, m1, hI1, h⟩ := h
 refine CW.loop (S := Int) (fun s1 => [(0, .slice l1 l1n l1c), (2, .pointer none), (3, .pointer (some (⟨b1, 0, none⟩ : Addr))), (5, .pointer r7), (7, .pointer (some (⟨b3, 0, none⟩ : Addr))), (8, .int .i64 s1)]) I1 m1 0 (by exact ⟨rfl, rfl, rfl, rfl, rfl, rfl, trivial⟩) hI1 (fun s1 w8 hI1 => ?_)
 replace h := h s1 w8 hI1
 refine CW.seq ?_
 refine CW.seq ?_
 refine CW.region fun L hL => ?_
 refine LW.rd hL rfl (Wants.free rfl) rfl (Rd.move (v := .int .i64 s1) rfl) ?_
 refine LW.rd hL rfl (Wants.free rfl) rfl (Rd.move (v := .slice l1 l1n l1c) rfl) ?_
 refine LW.rd hL rfl (Wants.free rfl) rfl (Rd.builtin (v := .int .i64 (l1n : Int)) rfl (fun _ _ => by kernel_rfl)) ?_
 refine LW.rd hL rfl (Wants.free rfl) rfl (Rd.bin (v := .bool (decide (s1 < (l1n : Int)))) rfl rfl (fun w => by kernel_rfl)) ?_
 refine LW.nil hL rfl ?_
 refine NW.then ?_
 refine CW.cond rfl (fun hb1 => ?_) (fun hb1 => ?_)
 ·replace h := h.1 hb1
  refine CW.skip ?_
  refine NW.then ?_
  refine CW.seq ?_
  refine CW.block ?_
  refine CW.seq ?_
  replace h := h _ rfl
  refine CW.drawn (fun w => w = World.drew w8) 11 (by kernel_rfl) fun H hH => ?_
  generalize World.drew w8 = w9 at h hH ⊢
  refine HW.pure (i := 0) hH rfl (by kernel_rfl) (Wants.free rfl) rfl (fun _ => rfl) (Rd.move (v := .pointer r7) rfl) ?_
  refine HW.pure (i := 1) hH rfl (by kernel_rfl) (Wants.free rfl) rfl (fun _ => rfl) (Rd.move (v := .slice l1 l1n l1c) rfl) ?_
  refine HW.pure (i := 2) hH rfl (by kernel_rfl) (Wants.free rfl) rfl (fun _ => rfl) (Rd.move (v := .int .i64 s1) rfl) ?_
  obtain ⟨a1, he1, hi1, hi2, h⟩ := h
  refine HW.pure (i := 3) hH rfl (by kernel_rfl) (Wants.free rfl) rfl (fun _ => rfl) (Rd.iaS (q := a1) (sz := 3) (by rw [← he1]; rfl) rfl Tryz.underlying26 (by kernel_rfl) hi1 hi2) ?_
  refine HW.pure (i := 4) hH rfl (by kernel_rfl) (Wants.free rfl) rfl (fun _ => rfl) (Rd.fa (v := .pointer (some (a1.add (Int.toNat s1 * 3)))) rfl (fun _ => by kernel_rfl)) ?_
  obtain ⟨t5, t6, hc3, h⟩ := h
  refine HW.take (i := 5) hH rfl (by kernel_rfl) (by kernel_rfl) (Wants.free rfl) rfl (fun _ => rfl) (Rd.ldN (cs := [.int .i64 t5, .int .i64 t6]) rfl (by kernel_rfl) (by kernel_rfl) (cellsS hc3)) ?_
  refine HW.pure (i := 6) hH rfl (by kernel_rfl) (Wants.free rfl) rfl (fun _ => rfl) (Rd.move (v := .slice l1 l1n l1c) rfl) ?_
  refine HW.pure (i := 7) hH rfl (by kernel_rfl) (Wants.free rfl) rfl (fun _ => rfl) (Rd.move (v := .int .i64 s1) rfl) ?_
  obtain ⟨a2, he2, hi3, hi4, h⟩ := h
  refine HW.pure (i := 8) hH rfl (by kernel_rfl) (Wants.free rfl) rfl (fun _ => rfl) (Rd.iaS (q := a2) (sz := 3) (by rw [← he2]; rfl) rfl Tryz.underlying26 (by kernel_rfl) hi3 hi4) ?_
  refine HW.pure (i := 9) hH rfl (by kernel_rfl) (Wants.free rfl) rfl (fun _ => rfl) (Rd.fa (v := .pointer (some ((a2.add (Int.toNat s1 * 3)).add 2))) rfl (fun _ => by kernel_rfl)) ?_
  obtain ⟨t7, hc4, h⟩ := h
  refine HW.take (i := 10) hH rfl (by kernel_rfl) (by kernel_rfl) (Wants.free rfl) rfl (fun _ => rfl) (Rd.ld (v := .int .u32 t7) rfl (by kernel_rfl) (eqs hc4)) ?_
  refine HW.call (i := 11) hH (by kernel_rfl) rfl (Wants.free rfl) rfl (Cl.fn (f := 31) rfl Tryz.func31 (by kernel_rfl) rfl) h (fun e w10 h_ => ?_)
  clear h
  obtain ⟨r14, rfl, h⟩ := h_
  refine ⟨_, rfl, (fun hc => by cases hc), ?_⟩
  refine HW.done hH (by kernel_rfl) ?_
  refine NW.then ?_
  replace h := h _ rfl
  obtain ⟨t8, t9, t10, t11, t11n, t11c, t12, t12n, t12c, hc5, h⟩ := h
  obtain ⟨a3, he3, hi5, hi6, h⟩ := h
  obtain ⟨t13, t14, hc6, h⟩ := h
  obtain ⟨a4, he4, hi7, hi8, h⟩ := h
  obtain ⟨t15, hc7, h⟩ := h
  refine CW.drawn (fun w => CellsAt w (⟨b3, 0, none⟩ : Addr) 0 [.int .i64 t8, .int .i64 t9, .int .i64 t10, .slice t11 t11n t11c, .slice t12 t12n t12c] ∧ CellsAt w (a3.add (Int.toNat s1 * 3)) 0 [.int .i64 t13, .int .i64 t14] ∧ w.cell? ((a4.add (Int.toNat s1 * 3)).add 2) = some (.int .u32 t15) ∧ True) 15 (by kernel_rfl) fun H hH => ?_
  generalize World.drew _ = w11 at *
  have hS1 : CellsAt w11 (⟨b3, 0, none⟩ : Addr) 0 [.int .i64 t8, .int .i64 t9, .int .i64 t10, .slice t11 t11n t11c, .slice t12 t12n t12c] ∧ CellsAt w11 (a3.add (Int.toNat s1 * 3)) 0 [.int .i64 t13, .int .i64 t14] ∧ w11.cell? ((a4.add (Int.toNat s1 * 3)).add 2) = some (.int .u32 t15) ∧ True := ⟨hc5, hc6, hc7, trivial⟩
  refine HW.take (i := 0) hH rfl (by kernel_rfl) (by kernel_rfl) (Wants.free rfl) rfl (fun _ => hS1) (Rd.ldN (cs := [.int .i64 t8, .int .i64 t9, .int .i64 t10, .slice t11 t11n t11c, .slice t12 t12n t12c]) rfl (by kernel_rfl) (by kernel_rfl) (fun w h => cellsAt_get h.1)) ?_
  refine HW.pure (i := 1) hH rfl (by kernel_rfl) (Wants.free rfl) rfl (fun _ => hS1) (Rd.move (v := .slice l1 l1n l1c) rfl) ?_
  refine HW.pure (i := 2) hH rfl (by kernel_rfl) (Wants.free rfl) rfl (fun _ => hS1) (Rd.move (v := .int .i64 s1) rfl) ?_
  refine HW.pure (i := 3) hH rfl (by kernel_rfl) (Wants.free rfl) rfl (fun _ => hS1) (Rd.iaS (q := a3) (sz := 3) (by rw [← he3]; rfl) rfl Tryz.underlying26 (by kernel_rfl) hi5 hi6) ?_
  refine HW.pure (i := 4) hH rfl (by kernel_rfl) (Wants.free rfl) rfl (fun _ => hS1) (Rd.fa (v := .pointer (some (a3.add (Int.toNat s1 * 3)))) rfl (fun _ => by kernel_rfl)) ?_
  refine HW.take (i := 5) hH rfl (by kernel_rfl) (by kernel_rfl) (Wants.free rfl) rfl (fun _ => hS1) (Rd.ldN (cs := [.int .i64 t13, .int .i64 t14]) rfl (by kernel_rfl) (by kernel_rfl) (fun w h => cellsAt_get h.2.1)) ?_
  refine HW.pure (i := 6) hH rfl (by kernel_rfl) (Wants.free rfl) rfl (fun _ => hS1) (Rd.move (v := .slice l1 l1n l1c) rfl) ?_
  refine HW.pure (i := 7) hH rfl (by kernel_rfl) (Wants.free rfl) rfl (fun _ => hS1) (Rd.move (v := .int .i64 s1) rfl) ?_
  refine HW.pure (i := 8) hH rfl (by kernel_rfl) (Wants.free rfl) rfl (fun _ => hS1) (Rd.iaS (q := a4) (sz := 3) (by rw [← he4]; rfl) rfl Tryz.underlying26 (by kernel_rfl) hi7 hi8) ?_
  refine HW.pure (i := 9) hH rfl (by kernel_rfl) (Wants.free rfl) rfl (fun _ => hS1) (Rd.fa (v := .pointer (some ((a4.add (Int.toNat s1 * 3)).add 2))) rfl (fun _ => by kernel_rfl)) ?_
  refine HW.take (i := 10) hH rfl (by kernel_rfl) (by kernel_rfl) (Wants.free rfl) rfl (fun _ => hS1) (Rd.ld (v := .int .u32 t15) rfl (by kernel_rfl) (fun w h => h.2.2.1)) ?_
  refine HW.call (i := 11) hH (by kernel_rfl) rfl (Wants.free rfl) rfl (Cl.fn (f := 42) rfl Tryz.func42 (by kernel_rfl) rfl) h (fun e w12 h_ => ?_)
  clear h
  obtain ⟨r15, r16, r17, r18, r18n, r18c, r19, r19n, r19c, r20, rfl, hS2, h⟩ := h_
  refine ⟨_, rfl, (fun _ => hS2), ?_⟩
  refine HW.pure (i := 12) hH rfl (by kernel_rfl) (Wants.free rfl) rfl (fun _ => hS2) (Rd.move (v := .tuple #[.agg #[.int .i64 r15, .int .i64 r16, .int .i64 r17, .slice r18 r18n r18c, .slice r19 r19n r19c], .int .i64 r20]) rfl) ?_
  refine HW.pure (i := 13) hH rfl (by kernel_rfl) (Wants.free rfl) rfl (fun _ => hS2) (Rd.extract (v := .agg #[.int .i64 r15, .int .i64 r16, .int .i64 r17, .slice r18 r18n r18c, .slice r19 r19n r19c]) rfl rfl) ?_
  refine HW.pure (i := 14) hH rfl (by kernel_rfl) (Wants.free rfl) rfl (fun _ => hS2) (Rd.extract (v := .int .i64 r20) rfl rfl) ?_
  obtain ⟨ho3, hf3, h⟩ := h
  obtain ⟨w13, hw_w13⟩ : ∃ w13, w13 = setCells w12 (⟨b3, 0, none⟩ : Addr) 0 [.int .i64 r15, .int .i64 r16, .int .i64 r17, .slice r18 r18n r18c, .slice r19 r19n r19c] := ⟨_, rfl⟩
  replace h := h w13 hw_w13
  refine HW.eff (i := 15) hH (by kernel_rfl) rfl (Wants.free rfl) rfl (stNE hw_w13 (Ef.stN (cs := [.int .i64 r15, .int .i64 r16, .int .i64 r17, .slice r18 r18n r18c, .slice r19 r19n r19c]) rfl rfl (by kernel_rfl) (List.forall_mem_cons.2 ⟨rfl, (List.forall_mem_cons.2 ⟨rfl, (List.forall_mem_cons.2 ⟨rfl, (List.forall_mem_cons.2 ⟨rfl, (List.forall_mem_cons.2 ⟨rfl, (List.forall_mem_nil _)⟩)⟩)⟩)⟩)⟩) ho3 hf3)) (fun hc => by cases hc) ?_
  refine HW.done hH (by kernel_rfl) ?_
  refine NW.block ?_
  refine NW.then ?_
  refine CW.region fun L hL => ?_
  refine LW.rd hL rfl (Wants.free rfl) rfl (Rd.move (v := .int .i64 s1) rfl) ?_
  refine LW.rd hL rfl (Wants.free rfl) rfl (Rd.bin (v := .int .i64 (IntKind.wrap .i64 (s1 + 1))) rfl rfl (fun w => by kernel_rfl)) ?_
  refine LW.rd hL rfl (Wants.free rfl) rfl (Rd.assign (v := .int .i64 (IntKind.wrap .i64 (s1 + 1))) rfl) ?_
  refine LW.nil hL rfl ?_
  exact NW.loop (S := Int) (Ek := fun s1 => [(0, .slice l1 l1n l1c), (2, .pointer none), (3, .pointer (some (⟨b1, 0, none⟩ : Addr))), (5, .pointer r7), (7, .pointer (some (⟨b3, 0, none⟩ : Addr))), (8, .int .i64 s1)]) (IntKind.wrap .i64 (s1 + 1)) (by exact ⟨rfl, rfl, rfl, rfl, rfl, rfl, trivial⟩) h
 ·replace h := h.2 hb1
  refine CW.exit ?_
  refine XW.then ?_
  refine XW.then ?_
  refine XW.hit ?_
  refine NW.then ?_
  refine CW.seq ?_
  replace h := h _ rfl
  refine CW.drawn (fun w => w = World.drew w8) 3 (by kernel_rfl) fun H hH => ?_
  generalize World.drew w8 = w14 at h hH ⊢
  refine HW.pure (i := 0) hH rfl (by kernel_rfl) (Wants.free rfl) rfl (fun _ => rfl) (Rd.move (v := .pointer r7) rfl) ?_
  obtain ⟨t16, t17, t18, t19, t19n, t19c, t20, t20n, t20c, hc8, h⟩ := h
  refine HW.take (i := 1) hH rfl (by kernel_rfl) (by kernel_rfl) (Wants.free rfl) rfl (fun _ => rfl) (Rd.ldN (cs := [.int .i64 t16, .int .i64 t17, .int .i64 t18, .slice t19 t19n t19c, .slice t20 t20n t20c]) rfl (by kernel_rfl) (by kernel_rfl) (cellsS hc8)) ?_
  refine HW.pure (i := 2) hH rfl (by kernel_rfl) (Wants.free rfl) rfl (fun _ => rfl) (Rd.assign (v := .pointer r7) rfl) ?_
  obtain ⟨ho4, hf4, h⟩ := h
  obtain ⟨w15, hw_w15⟩ : ∃ w15, w15 = setCells w14 (⟨b1, 0, none⟩ : Addr) 0 [.int .i64 t16, .int .i64 t17, .int .i64 t18, .slice t19 t19n t19c, .slice t20 t20n t20c] := ⟨_, rfl⟩
  replace h := h w15 hw_w15
  refine HW.eff (i := 3) hH (by kernel_rfl) rfl (Wants.free rfl) rfl (stNE hw_w15 (Ef.stN (cs := [.int .i64 t16, .int .i64 t17, .int .i64 t18, .slice t19 t19n t19c, .slice t20 t20n t20c]) rfl rfl (by kernel_rfl) (List.forall_mem_cons.2 ⟨rfl, (List.forall_mem_cons.2 ⟨rfl, (List.forall_mem_cons.2 ⟨rfl, (List.forall_mem_cons.2 ⟨rfl, (List.forall_mem_cons.2 ⟨rfl, (List.forall_mem_nil _)⟩)⟩)⟩)⟩)⟩) ho4 hf4)) (fun hc => by cases hc) ?_
  refine HW.done hH (by kernel_rfl) ?_
  refine NW.then ?_
  refine CW.ret ?_
  obtain ⟨r21, r22, r23, r24, r24n, r24c, r25, r25n, r25c, hr1, h⟩ := h
  exact resN (vs := [.pointer r7, .agg #[.int .i64 r21, .int .i64 r22, .int .i64 r23, .slice r24 r24n r24c, .slice r25 r25n r25c]]) (ResOK.t rfl (ResOK.c rfl (lvN (cs := [.int .i64 r21, .int .i64 r22, .int .i64 r23, .slice r24 r24n r24c, .slice r25 r25n r25c]) (by kernel_rfl) (by kernel_rfl) (cellsAt_get hr1)) ResOK.nil)) rfl ⟨r7, r21, r22, r23, r24, r24n, r24c, r25, r25n, r25c, rfl, h⟩
/- pomander/policy.New -/
def V_policy_New  (w : World) (R : (Option Addr) → World → Prop) : Prop :=
 ∀ b1 : Nat, b1 = World.size w → ∀ w1 : World, w1 = World.alloc w (.cells #[.int .u32 0, .int .u32 0, .int .u32 0, .int .u32 0, .int .u32 0, .int .u32 0, .int .u32 0, .int .u32 0, .int .u32 0, .int .u32 0, .int .u32 0, .bool true] 109) → (R (some (⟨b1, 0, none⟩ : Addr)) w1)
set_option maxRecDepth 100000 in
theorem ok_policy_New  (w : World) (R : (Option Addr) → World → Prop) (h : V_policy_New  w R) : Calls Tryz.prog 39 #[] w (fun e w' => ∃ (r1 : Option Addr), e = .returned (.pointer r1) ∧ R r1 w') := by
 unfold V_policy_New at h
 refine enter (N := 3) Tryz.func39 rfl rfl ?_
 refine CW.seq ?_
 refine CW.region fun L hL => ?_
 refine LW.rd hL rfl (Wants.free rfl) rfl (Rd.assign (v := .pointer none) rfl) ?_
 refine LW.nil hL rfl ?_
 refine NW.then ?_
 refine CW.seq ?_
 refine CW.region fun L hL => ?_
 refine LW.rd hL rfl (Wants.free rfl) rfl (Rd.build (v := .agg #[.int .u32 0, .int .u32 0, .int .u32 0, .int .u32 0, .int .u32 0, .int .u32 0, .int .u32 0, .int .u32 0, .int .u32 0, .int .u32 0, .int .u32 0, .bool true]) rfl (fun _ => by kernel_rfl)) ?_
 obtain ⟨b1, hb_b1⟩ : ∃ b1, b1 = World.size w := ⟨_, rfl⟩
 obtain ⟨w1, hw_w1⟩ : ∃ w1, w1 = World.alloc w (.cells #[.int .u32 0, .int .u32 0, .int .u32 0, .int .u32 0, .int .u32 0, .int .u32 0, .int .u32 0, .int .u32 0, .int .u32 0, .int .u32 0, .int .u32 0, .bool true] 109) := ⟨_, rfl⟩
 replace h := h b1 hb_b1 w1 hw_w1
 refine LW.val hL rfl (Wants.free rfl) rfl (boxE hb_b1 hw_w1 (Vl.box (v := .agg #[.int .u32 0, .int .u32 0, .int .u32 0, .int .u32 0, .int .u32 0, .int .u32 0, .int .u32 0, .int .u32 0, .int .u32 0, .int .u32 0, .int .u32 0, .bool true]) rfl)) ?_
 refine LW.rd hL rfl (Wants.free rfl) rfl (Rd.assign (v := .pointer (some (⟨b1, 0, none⟩ : Addr))) rfl) ?_
 refine LW.nil hL rfl ?_
 refine NW.then ?_
 refine CW.ret ?_
 exact res1 rfl rfl ⟨some (⟨b1, 0, none⟩ : Addr), rfl, h⟩
/- (*pomander/policy.Policy).Stops -/
def V_policy_Policy_Stops (p1 : Option Addr) (f1 : Option Addr) (l1 : Option Addr) (l1n : Nat) (l1c : Nat) (w : World) (R : Bool → Int → World → Prop) : Prop :=
 Calls Tryz.prog 47 #[.pointer p1] w fun e w1 => ∃ (r3 : Bool), e = .returned (.bool r3) ∧ ((r3 = true → R false 1 w1) ∧ (r3 = false → Calls Tryz.prog 38 #[.pointer f1, .slice l1 l1n l1c] w1 fun e w2 => ∃ (r4 : Int) (r5 : Int), e = .returned (.tuple #[.int .u32 r4, .int .i64 r5]) ∧ (∃ a1 : Addr, p1 = some a1 ∧ (∃ (t1 : Int), w2.cell? (a1.add 10) = some (.int .u32 t1) ∧ (R (!((bits .and .u32 r4 t1) == 0)) r5 w2)))))
set_option maxRecDepth 100000 in
theorem ok_policy_Policy_Stops (p1 : Option Addr) (f1 : Option Addr) (l1 : Option Addr) (l1n : Nat) (l1c : Nat) (w : World) (R : Bool → Int → World → Prop) (h : V_policy_Policy_Stops p1 f1 l1 l1n l1c w R) : Calls Tryz.prog 16 #[.pointer p1, .pointer f1, .slice l1 l1n l1c] w (fun e w' => ∃ (r1 : Bool) (r2 : Int), e = .returned (.tuple #[.bool r1, .int .i64 r2]) ∧ R r1 r2 w') := by
 unfold V_policy_Policy_Stops at h
 refine enter (N := 27) Tryz.func16 rfl rfl ?_
 refine CW.seq ?_
 refine CW.region fun L hL => ?_
 refine LW.rd hL rfl (Wants.free rfl) rfl (Rd.assign (v := .bool false) rfl) ?_
 refine LW.rd hL rfl (Wants.free rfl) rfl (Rd.assign (v := .int .i64 0) rfl) ?_
 refine LW.nil hL rfl ?_
 refine NW.then ?_
 refine CW.seq ?_
 refine CW.seq ?_
 refine CW.region fun L hL => ?_
 refine LW.rd hL rfl (Wants.free rfl) rfl (Rd.move (v := .pointer p1) rfl) ?_
 refine LW.call hL rfl (Wants.free rfl) rfl (Cl.fn (f := 47) rfl Tryz.func47 (by kernel_rfl) rfl) h (fun e w1 h_ => ?_)
 clear h
 obtain ⟨r3, rfl, h⟩ := h_
 refine ⟨_, rfl, ?_⟩
 refine LW.nil hL rfl ?_
 refine NW.then ?_
 refine CW.cond rfl (fun hb1 => ?_) (fun hb1 => ?_)
 ·replace h := h.1 hb1
  refine CW.seq ?_
  refine CW.region fun L hL => ?_
  refine LW.rd hL rfl (Wants.free rfl) rfl (Rd.assign (v := .bool false) rfl) ?_
  refine LW.rd hL rfl (Wants.free rfl) rfl (Rd.assign (v := .int .i64 1) rfl) ?_
  refine LW.nil hL rfl ?_
  refine NW.then ?_
  refine CW.ret ?_
  refine RW.then ?_
  exact res2 rfl rfl rfl ⟨false, 1, rfl, h⟩
 ·replace h := h.2 hb1
  refine CW.skip ?_
  refine NW.then ?_
  refine CW.seq ?_
  refine CW.region fun L hL => ?_
  refine LW.rd hL rfl (Wants.free rfl) rfl (Rd.move (v := .pointer f1) rfl) ?_
  refine LW.rd hL rfl (Wants.free rfl) rfl (Rd.move (v := .slice l1 l1n l1c) rfl) ?_
  refine LW.call hL rfl (Wants.free rfl) rfl (Cl.fn (f := 38) rfl Tryz.func38 (by kernel_rfl) rfl) h (fun e w2 h_ => ?_)
  clear h
  obtain ⟨r4, r5, rfl, h⟩ := h_
  refine ⟨_, rfl, ?_⟩
  refine LW.rd hL rfl (Wants.free rfl) rfl (Rd.move (v := .tuple #[.int .u32 r4, .int .i64 r5]) rfl) ?_
  refine LW.rd hL rfl (Wants.free rfl) rfl (Rd.extract (v := .int .u32 r4) rfl rfl) ?_
  refine LW.rd hL rfl (Wants.free rfl) rfl (Rd.extract (v := .int .i64 r5) rfl rfl) ?_
  refine LW.rd hL rfl (Wants.free rfl) rfl (Rd.assign (v := .int .u32 r4) rfl) ?_
  refine LW.rd hL rfl (Wants.free rfl) rfl (Rd.assign (v := .int .i64 r5) rfl) ?_
  refine LW.nil hL rfl ?_
  refine NW.then ?_
  refine CW.seq ?_
  refine CW.region fun L hL => ?_
  refine LW.rd hL rfl (Wants.free rfl) rfl (Rd.move (v := .int .u32 r4) rfl) ?_
  refine LW.rd hL rfl (Wants.free rfl) rfl (Rd.move (v := .pointer p1) rfl) ?_
  obtain ⟨a1, ha1, h⟩ := h
  refine LW.rd hL rfl (Wants.free rfl) rfl (Rd.nil (q := a1) (by rw [← ha1]; rfl)) ?_
  refine LW.rd hL rfl (Wants.free rfl) rfl (Rd.fa (v := .pointer (some a1)) rfl (fun _ => by kernel_rfl)) ?_
  refine LW.rd hL rfl (Wants.free rfl) rfl (Rd.fa (v := .pointer (some (a1.add 10))) rfl (fun _ => by kernel_rfl)) ?_
  obtain ⟨t1, hc1, h⟩ := h
  refine LW.rd hL rfl (Wants.free rfl) rfl (Rd.ld (v := .int .u32 t1) rfl (by kernel_rfl) (eqs hc1)) ?_
  refine LW.rd hL rfl (Wants.free rfl) rfl (Rd.bin (v := .int .u32 (bits .and .u32 r4 t1)) rfl rfl (fun w => by kernel_rfl)) ?_
  refine LW.rd hL rfl (Wants.free rfl) rfl (Rd.bin (v := .bool (!((bits .and .u32 r4 t1) == 0))) rfl rfl (fun w => by kernel_rfl)) ?_
  refine LW.rd hL rfl (Wants.free rfl) rfl (Rd.move (v := .int .i64 r5) rfl) ?_
  refine LW.rd hL rfl (Wants.free rfl) rfl (Rd.assign (v := .bool (!((bits .and .u32 r4 t1) == 0))) rfl) ?_
  refine LW.rd hL rfl (Wants.free rfl) rfl (Rd.assign (v := .int .i64 r5) rfl) ?_
  refine LW.nil hL rfl ?_
  refine NW.then ?_
  refine CW.ret ?_
  exact res2 rfl rfl rfl ⟨!((bits .and .u32 r4 t1) == 0), r5, rfl, h⟩
/- (*pomander/policy.Policy).Strict -/
def V_policy_Policy_Strict (p1 : Option Addr) (n1 : Int) (w : World) (R : Int → World → Prop) : Prop :=
 Calls Tryz.prog 47 #[.pointer p1] w fun e w1 => ∃ (r2 : Bool), e = .returned (.bool r2) ∧ ((r2 = true → R 1 w1) ∧ (r2 = false → Calls Tryz.prog 41 #[.int .u32 n1] w1 fun e w2 => ∃ (r3 : Bool), e = .returned (.bool r3) ∧ (((!r3) = true → R 2 w2) ∧ ((!r3) = false → ∃ a1 : Addr, p1 = some a1 ∧ ((∃ o : Value, w2.cell? (a1.add 10) = some o) ∧ w2.frozen? (a1.add 10) = false ∧ ∀ w3 : World, w3 = World.setCell w2 (a1.add 10) (.int .u32 n1) → (R 0 w3))))))
set_option maxRecDepth 100000 in
theorem ok_policy_Policy_Strict (p1 : Option Addr) (n1 : Int) (w : World) (R : Int → World → Prop) (h : V_policy_Policy_Strict p1 n1 w R) : Calls Tryz.prog 40 #[.pointer p1, .int .u32 n1] w (fun e w' => ∃ (r1 : Int), e = .returned (.int .i64 r1) ∧ R r1 w') := by
 unfold V_policy_Policy_Strict at h
 refine enter (N := 17) Tryz.func40 rfl rfl ?_
 refine CW.seq ?_
 refine CW.region fun L hL => ?_
 refine LW.rd hL rfl (Wants.free rfl) rfl (Rd.assign (v := .int .i64 0) rfl) ?_
 refine LW.nil hL rfl ?_
 refine NW.then ?_
 refine CW.seq ?_
 refine CW.block ?_
 refine CW.seq ?_
 refine CW.region fun L hL => ?_
 refine LW.rd hL rfl (Wants.free rfl) rfl (Rd.move (v := .pointer p1) rfl) ?_
 refine LW.call hL rfl (Wants.free rfl) rfl (Cl.fn (f := 47) rfl Tryz.func47 (by kernel_rfl) rfl) h (fun e w1 h_ => ?_)
 clear h
 obtain ⟨r2, rfl, h⟩ := h_
 refine ⟨_, rfl, ?_⟩
 refine LW.rd hL rfl (Wants.free rfl) rfl (Rd.assign (v := .bool r2) rfl) ?_
 refine LW.nil hL rfl ?_
 refine NW.then ?_
 refine CW.cond rfl (fun hb1 => ?_) (fun hb1 => ?_)
 ·replace h := h.1 hb1
  refine CW.seq ?_
  refine CW.region fun L hL => ?_
  refine LW.rd hL rfl (Wants.free rfl) rfl (Rd.assign (v := .int .i64 1) rfl) ?_
  refine LW.nil hL rfl ?_
  refine NW.then ?_
  refine CW.ret ?_
  refine RW.block ?_
  refine RW.then ?_
  exact res1 rfl rfl ⟨1, rfl, h⟩
 ·replace h := h.2 hb1
  refine CW.seq ?_
  refine CW.region fun L hL => ?_
  refine LW.rd hL rfl (Wants.free rfl) rfl (Rd.move (v := .int .u32 n1) rfl) ?_
  refine LW.call hL rfl (Wants.free rfl) rfl (Cl.fn (f := 41) rfl Tryz.func41 (by kernel_rfl) rfl) h (fun e w2 h_ => ?_)
  clear h
  obtain ⟨r3, rfl, h⟩ := h_
  refine ⟨_, rfl, ?_⟩
  refine LW.rd hL rfl (Wants.free rfl) rfl (Rd.un (v := .bool (!r3)) rfl (fun _ => by kernel_rfl)) ?_
  refine LW.rd hL rfl (Wants.free rfl) rfl (Rd.assign (v := .bool (!r3)) rfl) ?_
  refine LW.nil hL rfl ?_
  refine NW.then ?_
  refine CW.cond rfl (fun hb2 => ?_) (fun hb2 => ?_)
  ·replace h := h.1 hb2
   refine CW.seq ?_
   refine CW.region fun L hL => ?_
   refine LW.rd hL rfl (Wants.free rfl) rfl (Rd.assign (v := .int .i64 2) rfl) ?_
   refine LW.nil hL rfl ?_
   refine NW.then ?_
   refine CW.ret ?_
   refine RW.block ?_
   refine RW.then ?_
   exact res1 rfl rfl ⟨2, rfl, h⟩
  ·replace h := h.2 hb2
   refine CW.skip ?_
   refine NW.block ?_
   refine NW.then ?_
   refine CW.seq ?_
   refine CW.region fun L hL => ?_
   refine LW.rd hL rfl (Wants.free rfl) rfl (Rd.move (v := .pointer p1) rfl) ?_
   refine LW.rd hL rfl (Wants.free rfl) rfl (Rd.move (v := .int .u32 n1) rfl) ?_
   obtain ⟨a1, ha1, h⟩ := h
   refine LW.rd hL rfl (Wants.free rfl) rfl (Rd.nil (q := a1) (by rw [← ha1]; rfl)) ?_
   refine LW.rd hL rfl (Wants.free rfl) rfl (Rd.fa (v := .pointer (some a1)) rfl (fun _ => by kernel_rfl)) ?_
   refine LW.rd hL rfl (Wants.free rfl) rfl (Rd.fa (v := .pointer (some (a1.add 10))) rfl (fun _ => by kernel_rfl)) ?_
   obtain ⟨⟨o_w3, ho1⟩, hf1, h⟩ := h
   obtain ⟨w3, hw_w3⟩ : ∃ w3, w3 = World.setCell w2 (a1.add 10) (.int .u32 n1) := ⟨_, rfl⟩
   replace h := h w3 hw_w3
   refine LW.eff hL rfl (Wants.free rfl) rfl (stE hw_w3 (Ef.st rfl rfl rfl (by kernel_rfl) ho1 hf1)) ?_
   refine LW.nil hL rfl ?_
   refine NW.then ?_
   refine CW.seq ?_
   refine CW.region fun L hL => ?_
   refine LW.rd hL rfl (Wants.free rfl) rfl (Rd.assign (v := .int .i64 0) rfl) ?_
   refine LW.nil hL rfl ?_
   refine NW.then ?_
   refine CW.ret ?_
   exact res1 rfl rfl ⟨0, rfl, h⟩
/- pomander/flow.New -/
def V_flow_New (form1 : Int) (form2 : Int) (most1 : Int) (w : World) (R : (Option Addr) → Int → World → Prop) : Prop :=
 ∀ b1 : Nat, b1 = World.size w → ∀ w1 : World, w1 = World.alloc w (.cells #[.int .i64 form1, .int .i64 form2] 37) → (Calls Tryz.prog 57 #[.int .i64 most1] w1 fun e w2 => ∃ (r3 : Option Addr) (r4 : Int), e = .returned (.tuple #[.pointer r3, .int .i64 r4]) ∧ (∃ (t1 : Int), w2.cell? (⟨b1, 0, none⟩ : Addr) = some (.int .i64 t1) ∧ (Calls Tryz.prog 58 #[.int .i64 t1] w2 fun e w3 => ∃ (r5 : Option Addr) (r6 : Int), e = .returned (.tuple #[.pointer r5, .int .i64 r6]) ∧ (∃ (t2 : Int), w3.cell? (⟨b1, 1, none⟩ : Addr) = some (.int .i64 t2) ∧ (Calls Tryz.prog 58 #[.int .i64 t2] w3 fun e w4 => ∃ (r7 : Option Addr) (r8 : Int), e = .returned (.tuple #[.pointer r7, .int .i64 r8]) ∧ ((((!(r4 == 0) || !(r6 == 0)) || !(r8 == 0)) = true → R none 2 w4) ∧ (((!(r4 == 0) || !(r6 == 0)) || !(r8 == 0)) = false → ∃ (t3 : Int) (t4 : Int), CellsAt w4 (⟨b1, 0, none⟩ : Addr) 0 [.int .i64 t3, .int .i64 t4] ∧ (∀ b2 : Nat, b2 = World.size w4 → ∀ w5 : World, w5 = World.alloc w4 (.map #[] 0) → (∀ b3 : Nat, b3 = World.size w5 → ∀ w6 : World, w6 = World.alloc w5 (.cells #[.int .i64 t3, .int .i64 t4, .pointer r3, .pointer r5, .pointer r7, .map (some b2)] 101) → (R (some (⟨b3, 0, none⟩ : Addr)) 0 w6))))))))))
set_option maxRecDepth 100000 in
theorem ok_flow_New (form1 : Int) (form2 : Int) (most1 : Int) (w : World) (R : (Option Addr) → Int → World → Prop) (h : V_flow_New form1 form2 most1 w R) : Calls Tryz.prog 26 #[.agg #[.int .i64 form1, .int .i64 form2], .int .i64 most1] w (fun e w' => ∃ (r1 : Option Addr) (r2 : Int), e = .returned (.tuple #[.pointer r1, .int .i64 r2]) ∧ R r1 r2 w') := by
 unfold V_flow_New at h
 refine enter (N := 46) Tryz.func26 rfl rfl ?_
 refine CW.seq ?_
 refine CW.region fun L hL => ?_
 obtain ⟨b1, hb_b1⟩ : ∃ b1, b1 = World.size w := ⟨_, rfl⟩
 obtain ⟨w1, hw_w1⟩ : ∃ w1, w1 = World.alloc w (.cells #[.int .i64 form1, .int .i64 form2] 37) := ⟨_, rfl⟩
 replace h := h b1 hb_b1 w1 hw_w1
 refine LW.val hL rfl (Wants.free rfl) rfl (boxE hb_b1 hw_w1 (Vl.box (v := .agg #[.int .i64 form1, .int .i64 form2]) rfl)) ?_
 refine LW.rd hL rfl (Wants.free rfl) rfl (Rd.assign (v := .pointer none) rfl) ?_
 refine LW.rd hL rfl (Wants.free rfl) rfl (Rd.assign (v := .int .i64 0) rfl) ?_
 refine LW.nil hL rfl ?_
 refine NW.then ?_
 refine CW.seq ?_
 refine CW.region fun L hL => ?_
 refine LW.rd hL rfl (Wants.free rfl) rfl (Rd.move (v := .int .i64 most1) rfl) ?_
 refine LW.call hL rfl (Wants.free rfl) rfl (Cl.fn (f := 57) rfl Tryz.func57 (by kernel_rfl) rfl) h (fun e w2 h_ => ?_)
 clear h
 obtain ⟨r3, r4, rfl, h⟩ := h_
 refine ⟨_, rfl, ?_⟩
 refine LW.rd hL rfl (Wants.free rfl) rfl (Rd.move (v := .tuple #[.pointer r3, .int .i64 r4]) rfl) ?_
 refine LW.rd hL rfl (Wants.free rfl) rfl (Rd.extract (v := .pointer r3) rfl rfl) ?_
 refine LW.rd hL rfl (Wants.free rfl) rfl (Rd.extract (v := .int .i64 r4) rfl rfl) ?_
 refine LW.rd hL rfl (Wants.free rfl) rfl (Rd.assign (v := .pointer r3) rfl) ?_
 refine LW.rd hL rfl (Wants.free rfl) rfl (Rd.assign (v := .int .i64 r4) rfl) ?_
 refine LW.nil hL rfl ?_
 refine NW.then ?_
 refine CW.seq ?_
 refine CW.region fun L hL => ?_
 refine LW.rd hL rfl (Wants.free rfl) rfl (Rd.fa (v := .pointer (some (⟨b1, 0, none⟩ : Addr))) rfl (fun _ => by kernel_rfl)) ?_
 obtain ⟨t1, hc1, h⟩ := h
 refine LW.rd hL rfl (Wants.free rfl) rfl (Rd.ld (v := .int .i64 t1) rfl (by kernel_rfl) (eqs hc1)) ?_
 refine LW.call hL rfl (Wants.free rfl) rfl (Cl.fn (f := 58) rfl Tryz.func58 (by kernel_rfl) rfl) h (fun e w3 h_ => ?_)
 clear h
 obtain ⟨r5, r6, rfl, h⟩ := h_
 refine ⟨_, rfl, ?_⟩
 refine LW.rd hL rfl (Wants.free rfl) rfl (Rd.move (v := .tuple #[.pointer r5, .int .i64 r6]) rfl) ?_
 refine LW.rd hL rfl (Wants.free rfl) rfl (Rd.extract (v := .pointer r5) rfl rfl) ?_
 refine LW.rd hL rfl (Wants.free rfl) rfl (Rd.extract (v := .int .i64 r6) rfl rfl) ?_
 refine LW.rd hL rfl (Wants.free rfl) rfl (Rd.assign (v := .pointer r5) rfl) ?_
 refine LW.rd hL rfl (Wants.free rfl) rfl (Rd.assign (v := .int .i64 r6) rfl) ?_
 refine LW.nil hL rfl ?_
 refine NW.then ?_
 refine CW.seq ?_
 refine CW.region fun L hL => ?_
 refine LW.rd hL rfl (Wants.free rfl) rfl (Rd.fa (v := .pointer (some (⟨b1, 1, none⟩ : Addr))) rfl (fun _ => by kernel_rfl)) ?_
 obtain ⟨t2, hc2, h⟩ := h
 refine LW.rd hL rfl (Wants.free rfl) rfl (Rd.ld (v := .int .i64 t2) rfl (by kernel_rfl) (eqs hc2)) ?_
 refine LW.call hL rfl (Wants.free rfl) rfl (Cl.fn (f := 58) rfl Tryz.func58 (by kernel_rfl) rfl) h (fun e w4 h_ => ?_)
 clear h
 obtain ⟨r7, r8, rfl, h⟩ := h_
 refine ⟨_, rfl, ?_⟩
 refine LW.rd hL rfl (Wants.free rfl) rfl (Rd.move (v := .tuple #[.pointer r7, .int .i64 r8]) rfl) ?_
 refine LW.rd hL rfl (Wants.free rfl) rfl (Rd.extract (v := .pointer r7) rfl rfl) ?_
 refine LW.rd hL rfl (Wants.free rfl) rfl (Rd.extract (v := .int .i64 r8) rfl rfl) ?_
 refine LW.rd hL rfl (Wants.free rfl) rfl (Rd.assign (v := .pointer r7) rfl) ?_
 refine LW.rd hL rfl (Wants.free rfl) rfl (Rd.assign (v := .int .i64 r8) rfl) ?_
 refine LW.nil hL rfl ?_
 refine NW.then ?_
 refine CW.seq ?_
 refine CW.seq ?_
 refine CW.region fun L hL => ?_
 refine LW.rd hL rfl (Wants.free rfl) rfl (Rd.move (v := .int .i64 r4) rfl) ?_
 refine LW.rd hL rfl (Wants.free rfl) rfl (Rd.bin (v := .bool (!(r4 == 0))) rfl rfl (fun w => by kernel_rfl)) ?_
 refine LW.rd hL rfl (Wants.free rfl) rfl (Rd.move (v := .bool (!(r4 == 0))) rfl) ?_
 suffices K1 : L 6 [(2, .pointer (some (⟨b1, 0, none⟩ : Addr))), (4, .pointer none), (5, .int .i64 0), (6, .pointer r3), (8, .pointer r5), (10, .pointer r7), (11, .int .i64 r8), (34, .bool (!(r4 == 0) || !(r6 == 0)))] w4 by
  rcases Bool.eq_false_or_eq_true (!(r4 == 0)) with hb2 | hb2
  ·skip
   refine LW.skip hL rfl (Skips.on rfl rfl rfl rfl rfl hb2) rfl ?_
   refine LW.skip hL rfl (Skips.on rfl rfl rfl rfl rfl hb2) rfl ?_
   refine LW.rd hL rfl (Wants.free rfl) rfl (Rd.pickT rfl hb2 rfl) ?_
   exact LW.sub hL (by exact ⟨rfl, rfl, rfl, rfl, rfl, rfl, rfl, (by rw [hb2]; rfl), trivial⟩) K1
  ·skip
   refine LW.rd hL rfl (Wants.on rfl rfl rfl rfl rfl hb2) rfl (Rd.move (v := .int .i64 r6) rfl) ?_
   refine LW.rd hL rfl (Wants.on rfl rfl rfl rfl rfl hb2) rfl (Rd.bin (v := .bool (!(r6 == 0))) rfl rfl (fun w => by kernel_rfl)) ?_
   refine LW.rd hL rfl (Wants.free rfl) rfl (Rd.pickF rfl hb2 rfl) ?_
   exact LW.sub hL (by exact ⟨rfl, rfl, rfl, rfl, rfl, rfl, rfl, (by rw [hb2]; rfl), trivial⟩) K1
 refine LW.rd hL rfl (Wants.free rfl) rfl (Rd.move (v := .bool (!(r4 == 0) || !(r6 == 0))) rfl) ?_
 suffices K2 : L 10 [(2, .pointer (some (⟨b1, 0, none⟩ : Addr))), (4, .pointer none), (5, .int .i64 0), (6, .pointer r3), (8, .pointer r5), (10, .pointer r7), (38, .bool ((!(r4 == 0) || !(r6 == 0)) || !(r8 == 0)))] w4 by
  rcases Bool.eq_false_or_eq_true (!(r4 == 0) || !(r6 == 0)) with hb4 | hb4
  ·skip
   refine LW.skip hL rfl (Skips.on rfl rfl rfl rfl rfl hb4) rfl ?_
   refine LW.skip hL rfl (Skips.on rfl rfl rfl rfl rfl hb4) rfl ?_
   refine LW.rd hL rfl (Wants.free rfl) rfl (Rd.pickT rfl hb4 rfl) ?_
   exact LW.sub hL (by exact ⟨rfl, rfl, rfl, rfl, rfl, rfl, (by rw [hb4]; rfl), trivial⟩) K2
  ·skip
   refine LW.rd hL rfl (Wants.on rfl rfl rfl rfl rfl hb4) rfl (Rd.move (v := .int .i64 r8) rfl) ?_
   refine LW.rd hL rfl (Wants.on rfl rfl rfl rfl rfl hb4) rfl (Rd.bin (v := .bool (!(r8 == 0))) rfl rfl (fun w => by kernel_rfl)) ?_
   refine LW.rd hL rfl (Wants.free rfl) rfl (Rd.pickF rfl hb4 rfl) ?_
   exact LW.sub hL (by exact ⟨rfl, rfl, rfl, rfl, rfl, rfl, (by rw [hb4]; rfl), trivial⟩) K2
 refine LW.nil hL rfl ?_
 refine NW.then ?_
 refine CW.cond rfl (fun hb5 => ?_) (fun hb5 => ?_)
 ·replace h := h.1 hb5
  refine CW.seq ?_
  refine CW.region fun L hL => ?_
  refine LW.rd hL rfl (Wants.free rfl) rfl (Rd.assign (v := .pointer none) rfl) ?_
  refine LW.rd hL rfl (Wants.free rfl) rfl (Rd.assign (v := .int .i64 2) rfl) ?_
  refine LW.nil hL rfl ?_
  refine NW.then ?_
  refine CW.ret ?_
  refine RW.then ?_
  exact res2 rfl rfl rfl ⟨none, 2, rfl, h⟩
 ·replace h := h.2 hb5
  refine CW.skip ?_
  refine NW.then ?_
  refine CW.seq ?_
  refine CW.region fun L hL => ?_
  obtain ⟨t3, t4, hc3, h⟩ := h
  refine LW.rd hL rfl (Wants.free rfl) rfl (Rd.ldN (cs := [.int .i64 t3, .int .i64 t4]) rfl (by kernel_rfl) (by kernel_rfl) (cellsS hc3)) ?_
  refine LW.rd hL rfl (Wants.free rfl) rfl (Rd.move (v := .pointer r3) rfl) ?_
  refine LW.rd hL rfl (Wants.free rfl) rfl (Rd.move (v := .pointer r5) rfl) ?_
  refine LW.rd hL rfl (Wants.free rfl) rfl (Rd.move (v := .pointer r7) rfl) ?_
  obtain ⟨b2, hb_b2⟩ : ∃ b2, b2 = World.size w4 := ⟨_, rfl⟩
  obtain ⟨w5, hw_w5⟩ : ∃ w5, w5 = World.alloc w4 (.map #[] 0) := ⟨_, rfl⟩
  replace h := h b2 hb_b2 w5 hw_w5
  refine LW.val hL rfl (Wants.free rfl) rfl (mapE hb_b2 hw_w5 Vl.makeMap) ?_
  refine LW.rd hL rfl (Wants.free rfl) rfl (Rd.build (v := .agg #[.int .i64 t3, .int .i64 t4, .pointer r3, .pointer r5, .pointer r7, .map (some b2)]) rfl (fun _ => by kernel_rfl)) ?_
  obtain ⟨b3, hb_b3⟩ : ∃ b3, b3 = World.size w5 := ⟨_, rfl⟩
  obtain ⟨w6, hw_w6⟩ : ∃ w6, w6 = World.alloc w5 (.cells #[.int .i64 t3, .int .i64 t4, .pointer r3, .pointer r5, .pointer r7, .map (some b2)] 101) := ⟨_, rfl⟩
  replace h := h b3 hb_b3 w6 hw_w6
  refine LW.val hL rfl (Wants.free rfl) rfl (boxE hb_b3 hw_w6 (Vl.box (v := .agg #[.int .i64 t3, .int .i64 t4, .pointer r3, .pointer r5, .pointer r7, .map (some b2)]) rfl)) ?_
  refine LW.rd hL rfl (Wants.free rfl) rfl (Rd.assign (v := .pointer (some (⟨b3, 0, none⟩ : Addr))) rfl) ?_
  refine LW.rd hL rfl (Wants.free rfl) rfl (Rd.assign (v := .int .i64 0) rfl) ?_
  refine LW.nil hL rfl ?_
  refine NW.then ?_
  refine CW.ret ?_
  exact res2 rfl rfl rfl ⟨some (⟨b3, 0, none⟩ : Addr), 0, rfl, h⟩
/- pomander/pomanderref12.New -/
def V_pomanderref12_New (f1 : Int) (f2 : Int) (most1 : Int) (w : World) (R : Int → Int → Int → (Option Addr) → Nat → Nat → (Option Addr) → Nat → Nat → World → Prop) : Prop :=
 ∀ b1 : Nat, b1 = World.size w → ∀ w1 : World, w1 = World.alloc w (.cells #[.int .i64 f1, .int .i64 f2] 37) → (∀ b2 : Nat, b2 = World.size w1 → ∀ w2 : World, w2 = World.alloc w1 (.cells #[.int .i64 0, .int .i64 0, .int .i64 0, .slice none 0 0, .slice none 0 0] 43) → (∀ w3 : World, w3 = World.drew w2 → ∃ (t1 : Int) (t2 : Int), CellsAt w3 (⟨b1, 0, none⟩ : Addr) 0 [.int .i64 t1, .int .i64 t2] ∧ (Calls Tryz.prog 59 #[.int .i64 most1] w3 fun e w4 => ∃ (r6 : Int) (r7 : Option Addr) (r7n : Nat) (r7c : Nat), e = .returned (.agg #[.int .i64 r6, .slice r7 r7n r7c]) ∧ ((CellsAt w4 (⟨b1, 0, none⟩ : Addr) 0 [.int .i64 t1, .int .i64 t2] ∧ True) ∧ (Has w4 (⟨b2, 0, none⟩ : Addr) 5 ∧ Free w4 (⟨b2, 0, none⟩ : Addr) 5 ∧ ∀ w5 : World, w5 = setCells w4 (⟨b2, 0, none⟩ : Addr) 0 [.int .i64 t1, .int .i64 t2, .int .i64 r6, .slice r7 r7n r7c, .slice none 0 0] → (∃ (r8 : Int) (r9 : Int) (r10 : Int) (r11 : Option Addr) (r11n : Nat) (r11c : Nat) (r12 : Option Addr) (r12n : Nat) (r12c : Nat), CellsAt w5 (⟨b2, 0, none⟩ : Addr) 0 [.int .i64 r8, .int .i64 r9, .int .i64 r10, .slice r11 r11n r11c, .slice r12 r12n r12c] ∧ R r8 r9 r10 r11 r11n r11c r12 r12n r12c w5))))))
set_option maxRecDepth 100000 in
theorem ok_pomanderref12_New (f1 : Int) (f2 : Int) (most1 : Int) (w : World) (R : Int → Int → Int → (Option Addr) → Nat → Nat → (Option Addr) → Nat → Nat → World → Prop) (h : V_pomanderref12_New f1 f2 most1 w R) : Calls Tryz.prog 28 #[.agg #[.int .i64 f1, .int .i64 f2], .int .i64 most1] w (fun e w' => ∃ (r1 : Int) (r2 : Int) (r3 : Int) (r4 : Option Addr) (r4n : Nat) (r4c : Nat) (r5 : Option Addr) (r5n : Nat) (r5c : Nat), e = .returned (.agg #[.int .i64 r1, .int .i64 r2, .int .i64 r3, .slice r4 r4n r4c, .slice r5 r5n r5c]) ∧ R r1 r2 r3 r4 r4n r4c r5 r5n r5c w') := by
 unfold V_pomanderref12_New at h
 refine enter (N := 9) Tryz.func28 rfl rfl ?_
 refine CW.seq ?_
 refine CW.region fun L hL => ?_
 obtain ⟨b1, hb_b1⟩ : ∃ b1, b1 = World.size w := ⟨_, rfl⟩
 obtain ⟨w1, hw_w1⟩ : ∃ w1, w1 = World.alloc w (.cells #[.int .i64 f1, .int .i64 f2] 37) := ⟨_, rfl⟩
 replace h := h b1 hb_b1 w1 hw_w1
 refine LW.val hL rfl (Wants.free rfl) rfl (boxE hb_b1 hw_w1 (Vl.box (v := .agg #[.int .i64 f1, .int .i64 f2]) rfl)) ?_
 obtain ⟨b2, hb_b2⟩ : ∃ b2, b2 = World.size w1 := ⟨_, rfl⟩
 obtain ⟨w2, hw_w2⟩ : ∃ w2, w2 = World.alloc w1 (.cells #[.int .i64 0, .int .i64 0, .int .i64 0, .slice none 0 0, .slice none 0 0] 43) := ⟨_, rfl⟩
 replace h := h b2 hb_b2 w2 hw_w2
 refine LW.val hL rfl (Wants.free rfl) rfl (boxE hb_b2 hw_w2 (Vl.alloc (z := .agg #[.int .i64 0, .int .i64 0, .int .i64 0, .slice none 0 0, .slice none 0 0]) (by kernel_rfl))) ?_
 refine LW.nil hL rfl ?_
 refine NW.then ?_
 refine CW.seq ?_
 replace h := h _ rfl
 obtain ⟨t1, t2, hc1, h⟩ := h
 refine CW.drawn (fun w => CellsAt w (⟨b1, 0, none⟩ : Addr) 0 [.int .i64 t1, .int .i64 t2] ∧ True) 4 (by kernel_rfl) fun H hH => ?_
 generalize World.drew _ = w3 at *
 have hS1 : CellsAt w3 (⟨b1, 0, none⟩ : Addr) 0 [.int .i64 t1, .int .i64 t2] ∧ True := ⟨hc1, trivial⟩
 refine HW.take (i := 0) hH rfl (by kernel_rfl) (by kernel_rfl) (Wants.free rfl) rfl (fun _ => hS1) (Rd.ldN (cs := [.int .i64 t1, .int .i64 t2]) rfl (by kernel_rfl) (by kernel_rfl) (fun w h => cellsAt_get h.1)) ?_
 refine HW.pure (i := 1) hH rfl (by kernel_rfl) (Wants.free rfl) rfl (fun _ => hS1) (Rd.move (v := .int .i64 most1) rfl) ?_
 refine HW.call (i := 2) hH (by kernel_rfl) rfl (Wants.free rfl) rfl (Cl.fn (f := 59) rfl Tryz.func59 (by kernel_rfl) rfl) h (fun e w4 h_ => ?_)
 clear h
 obtain ⟨r6, r7, r7n, r7c, rfl, hS2, h⟩ := h_
 refine ⟨_, rfl, (fun _ => hS2), ?_⟩
 refine HW.pure (i := 3) hH rfl (by kernel_rfl) (Wants.free rfl) rfl (fun _ => hS2) (Rd.build (v := .agg #[.int .i64 t1, .int .i64 t2, .int .i64 r6, .slice r7 r7n r7c, .slice none 0 0]) rfl (fun _ => by kernel_rfl)) ?_
 obtain ⟨ho1, hf1, h⟩ := h
 obtain ⟨w5, hw_w5⟩ : ∃ w5, w5 = setCells w4 (⟨b2, 0, none⟩ : Addr) 0 [.int .i64 t1, .int .i64 t2, .int .i64 r6, .slice r7 r7n r7c, .slice none 0 0] := ⟨_, rfl⟩
 replace h := h w5 hw_w5
 refine HW.eff (i := 4) hH (by kernel_rfl) rfl (Wants.free rfl) rfl (stNE hw_w5 (Ef.stN (cs := [.int .i64 t1, .int .i64 t2, .int .i64 r6, .slice r7 r7n r7c, .slice none 0 0]) rfl rfl (by kernel_rfl) (List.forall_mem_cons.2 ⟨rfl, (List.forall_mem_cons.2 ⟨rfl, (List.forall_mem_cons.2 ⟨rfl, (List.forall_mem_cons.2 ⟨rfl, (List.forall_mem_cons.2 ⟨rfl, (List.forall_mem_nil _)⟩)⟩)⟩)⟩)⟩) ho1 hf1)) (fun hc => by cases hc) ?_
 refine HW.done hH (by kernel_rfl) ?_
 refine NW.then ?_
 refine CW.ret ?_
 obtain ⟨r8, r9, r10, r11, r11n, r11c, r12, r12n, r12c, hr1, h⟩ := h
 exact resN (vs := [.agg #[.int .i64 r8, .int .i64 r9, .int .i64 r10, .slice r11 r11n r11c, .slice r12 r12n r12c]]) (ResOK.c rfl (lvN (cs := [.int .i64 r8, .int .i64 r9, .int .i64 r10, .slice r11 r11n r11c, .slice r12 r12n r12c]) (by kernel_rfl) (by kernel_rfl) (cellsAt_get hr1)) ResOK.nil) rfl ⟨r8, r9, r10, r11, r11n, r11c, r12, r12n, r12c, rfl, h⟩
/- (pomander/pomanderref12.Flow).May -/
def V_pomanderref12_Flow_May (f1 : Int) (f2 : Int) (f3 : Int) (f4 : Option Addr) (f4n : Nat) (f4c : Nat) (f5 : Option Addr) (f5n : Nat) (f5c : Nat) (p1 : Int) (p2 : Int) (w : World) (R : Bool → World → Prop) : Prop :=
 ∀ b1 : Nat, b1 = World.size w → ∀ w1 : World, w1 = World.alloc w (.cells #[.int .i64 f1, .int .i64 f2, .int .i64 f3, .slice f4 f4n f4c, .slice f5 f5n f5c] 43) → (∀ b2 : Nat, b2 = World.size w1 → ∀ w2 : World, w2 = World.alloc w1 (.cells #[.int .i64 p1, .int .i64 p2] 62) → (∃ (t1 : Int), w2.cell? (⟨b2, 0, none⟩ : Addr) = some (.int .i64 t1) ∧ (∃ J1 : Bool × Int → World → Prop, (∀ (s1 : Bool × Int) (w3 : World), J1 s1 w3 → ∃ (t2 : Int), w3.cell? (⟨b2, 1, none⟩ : Addr) = some (.int .i64 t2) ∧ (∃ J2 : Bool → World → Prop, (∀ (b3 : Bool) (w4 : World), J2 b3 w4 → R b3 w4) ∧ (((decide (t2 ≥ 0)) = true → ∃ (t3 : Int), w3.cell? (⟨b2, 1, none⟩ : Addr) = some (.int .i64 t3) ∧ (J2 (decide (t3 < s1.2)) w3)) ∧ ((decide (t2 ≥ 0)) = false → J2 false w3)))) ∧ (((decide (t1 < 1) || decide (t1 > 17)) = true → R false w2) ∧ ((decide (t1 < 1) || decide (t1 > 17)) = false → ((t1 == 1) = true → J1 (false, 8) w2) ∧ ((t1 == 1) = false → ((t1 == 10) = true → ∃ (t4 : Int), w2.cell? (⟨b1, 0, none⟩ : Addr) = some (.int .i64 t4) ∧ (J1 (false, IntKind.wrap .i64 (64 * t4)) w2)) ∧ ((t1 == 10) = false → ((t1 == 11) = true → J1 (false, 4) w2) ∧ ((t1 == 11) = false → ((t1 == 12) = true → ∃ (t5 : Int), w2.cell? (⟨b1, 1, none⟩ : Addr) = some (.int .i64 t5) ∧ (J1 (false, IntKind.wrap .i64 (64 * t5)) w2)) ∧ ((t1 == 12) = false → ((decide (t1 ≥ 13) && decide (t1 ≤ 16)) = true → J1 (false, 2147483648) w2) ∧ ((decide (t1 ≥ 13) && decide (t1 ≤ 16)) = false → ((t1 == 17) = true → J1 (false, 2) w2) ∧ ((t1 == 17) = false → J1 (false, 1) w2)))))))))))
set_option maxRecDepth 100000 in
theorem ok_pomanderref12_Flow_May (f1 : Int) (f2 : Int) (f3 : Int) (f4 : Option Addr) (f4n : Nat) (f4c : Nat) (f5 : Option Addr) (f5n : Nat) (f5c : Nat) (p1 : Int) (p2 : Int) (w : World) (R : Bool → World → Prop) (h : V_pomanderref12_Flow_May f1 f2 f3 f4 f4n f4c f5 f5n f5c p1 p2 w R) : Calls Tryz.prog 49 #[.agg #[.int .i64 f1, .int .i64 f2, .int .i64 f3, .slice f4 f4n f4c, .slice f5 f5n f5c], .agg #[.int .i64 p1, .int .i64 p2]] w (fun e w' => ∃ (r1 : Bool), e = .returned (.bool r1) ∧ R r1 w') := by
 unfold V_pomanderref12_Flow_May at h
 refine enter (N := 55) Tryz.func49 rfl rfl ?_
 refine CW.seq ?_
 refine CW.region fun L hL => ?_
 obtain ⟨b1, hb_b1⟩ : ∃ b1, b1 = World.size w := ⟨_, rfl⟩
 obtain ⟨w1, hw_w1⟩ : ∃ w1, w1 = World.alloc w (.cells #[.int .i64 f1, .int .i64 f2, .int .i64 f3, .slice f4 f4n f4c, .slice f5 f5n f5c] 43) := ⟨_, rfl⟩
 replace h := h b1 hb_b1 w1 hw_w1
 refine LW.val hL rfl (Wants.free rfl) rfl (boxE hb_b1 hw_w1 (Vl.box (v := .agg #[.int .i64 f1, .int .i64 f2, .int .i64 f3, .slice f4 f4n f4c, .slice f5 f5n f5c]) rfl)) ?_
 obtain ⟨b2, hb_b2⟩ : ∃ b2, b2 = World.size w1 := ⟨_, rfl⟩
 obtain ⟨w2, hw_w2⟩ : ∃ w2, w2 = World.alloc w1 (.cells #[.int .i64 p1, .int .i64 p2] 62) := ⟨_, rfl⟩
 replace h := h b2 hb_b2 w2 hw_w2
 refine LW.val hL rfl (Wants.free rfl) rfl (boxE hb_b2 hw_w2 (Vl.box (v := .agg #[.int .i64 p1, .int .i64 p2]) rfl)) ?_
 refine LW.rd hL rfl (Wants.free rfl) rfl (Rd.assign (v := .bool false) rfl) ?_
 refine LW.nil hL rfl ?_
 refine NW.then ?_
 refine CW.seq ?_
 refine CW.region fun L hL => ?_
 refine LW.rd hL rfl (Wants.free rfl) rfl (Rd.fa (v := .pointer (some (⟨b2, 0, none⟩ : Addr))) rfl (fun _ => by kernel_rfl)) ?_
 obtain ⟨t1, hc1, h⟩ := h
 refine LW.rd hL rfl (Wants.free rfl) rfl (Rd.ld (v := .int .i64 t1) rfl (by kernel_rfl) (eqs hc1)) ?_
 refine LW.rd hL rfl (Wants.free rfl) rfl (Rd.assign (v := .int .i64 t1) rfl) ?_
 refine LW.nil hL rfl ?_
 refine NW.then ?_
 refine CW.seq ?_
 refine CW.region fun L hL => ?_
 refine LW.rd hL rfl (Wants.free rfl) rfl (Rd.assign (v := .int .i64 1) rfl) ?_
 refine LW.nil hL rfl ?_
 refine NW.then ?_
 obtain ⟨J1, hJ1, h⟩ := h
 refine CW.cut (S := Bool × Int) (fun s1 => [(3, .pointer (some (⟨b2, 0, none⟩ : Addr))), (4, .bool s1.1), (6, .int .i64 s1.2)]) J1 (fun s1 w3 h_ => ?_) ?_
 ·replace h := hJ1 s1 w3 h_; clear h_
  refine CW.seq ?_
  refine CW.region fun L hL => ?_
  refine LW.rd hL rfl (Wants.free rfl) rfl (Rd.fa (v := .pointer (some (⟨b2, 1, none⟩ : Addr))) rfl (fun _ => by kernel_rfl)) ?_
  obtain ⟨t2, hc2, h⟩ := h
  refine LW.rd hL rfl (Wants.free rfl) rfl (Rd.ld (v := .int .i64 t2) rfl (by kernel_rfl) (eqs hc2)) ?_
  refine LW.rd hL rfl (Wants.free rfl) rfl (Rd.bin (v := .bool (decide (t2 ≥ 0))) rfl rfl (fun w => by kernel_rfl)) ?_
  refine LW.rd hL rfl (Wants.free rfl) rfl (Rd.move (v := .bool (decide (t2 ≥ 0))) rfl) ?_
  obtain ⟨J2, hJ2, h1_J2, h0_J2⟩ := h
  suffices K1 : ∀ (b3 : Bool) (w4 : World), J2 b3 w4 → L 9 [(4, .bool s1.1), (54, .bool b3)] w4 by
   rcases Bool.eq_false_or_eq_true (decide (t2 ≥ 0)) with hb1 | hb1
   ·have h := h1_J2 hb1
    refine LW.rd hL rfl (Wants.on rfl rfl rfl rfl rfl hb1) rfl (Rd.fa (v := .pointer (some (⟨b2, 1, none⟩ : Addr))) rfl (fun _ => by kernel_rfl)) ?_
    obtain ⟨t3, hc3, h⟩ := h
    refine LW.rd hL rfl (Wants.on rfl rfl rfl rfl rfl hb1) rfl (Rd.ld (v := .int .i64 t3) rfl (by kernel_rfl) (eqs hc3)) ?_
    refine LW.rd hL rfl (Wants.on rfl rfl rfl rfl rfl hb1) rfl (Rd.move (v := .int .i64 s1.2) rfl) ?_
    refine LW.rd hL rfl (Wants.on rfl rfl rfl rfl rfl hb1) rfl (Rd.bin (v := .bool (decide (t3 < s1.2))) rfl rfl (fun w => by kernel_rfl)) ?_
    refine LW.rd hL rfl (Wants.free rfl) rfl (Rd.pickT rfl hb1 rfl) ?_
    exact LW.sub hL (by exact ⟨rfl, rfl, trivial⟩) (K1 (decide (t3 < s1.2)) w3 h)
   ·have h := h0_J2 hb1
    refine LW.skip hL rfl (Skips.on rfl rfl rfl rfl rfl hb1) rfl ?_
    refine LW.skip hL rfl (Skips.on rfl rfl rfl rfl rfl hb1) rfl ?_
    refine LW.skip hL rfl (Skips.on rfl rfl rfl rfl rfl hb1) rfl ?_
    refine LW.skip hL rfl (Skips.on rfl rfl rfl rfl rfl hb1) rfl ?_
    refine LW.rd hL rfl (Wants.free rfl) rfl (Rd.pickF rfl hb1 rfl) ?_
    exact LW.sub hL (by exact ⟨rfl, rfl, trivial⟩) (K1 false w3 h)
  intro b3 w4 h_
  have h := hJ2 b3 w4 h_; clear h_
  refine LW.rd hL rfl (Wants.free rfl) rfl (Rd.assign (v := .bool b3) rfl) ?_
  refine LW.nil hL rfl ?_
  refine NW.then ?_
  refine CW.ret ?_
  exact res1 rfl rfl ⟨b3, rfl, h⟩
 ·skip
  refine CW.block ?_
  refine CW.seq ?_
  refine CW.region fun L hL => ?_
  refine LW.rd hL rfl (Wants.free rfl) rfl (Rd.move (v := .int .i64 t1) rfl) ?_
  refine LW.rd hL rfl (Wants.free rfl) rfl (Rd.bin (v := .bool (decide (t1 < 1))) rfl rfl (fun w => by kernel_rfl)) ?_
  refine LW.rd hL rfl (Wants.free rfl) rfl (Rd.move (v := .bool (decide (t1 < 1))) rfl) ?_
  suffices K2 : L 6 [(2, .pointer (some (⟨b1, 0, none⟩ : Addr))), (3, .pointer (some (⟨b2, 0, none⟩ : Addr))), (4, .bool false), (5, .int .i64 t1), (6, .int .i64 1), (15, .bool (decide (t1 < 1) || decide (t1 > 17)))] w2 by
   rcases Bool.eq_false_or_eq_true (decide (t1 < 1)) with hb3 | hb3
   ·skip
    refine LW.skip hL rfl (Skips.on rfl rfl rfl rfl rfl hb3) rfl ?_
    refine LW.skip hL rfl (Skips.on rfl rfl rfl rfl rfl hb3) rfl ?_
    refine LW.rd hL rfl (Wants.free rfl) rfl (Rd.pickT rfl hb3 rfl) ?_
    exact LW.sub hL (by exact ⟨rfl, rfl, rfl, rfl, rfl, (by rw [hb3]; rfl), trivial⟩) K2
   ·skip
    refine LW.rd hL rfl (Wants.on rfl rfl rfl rfl rfl hb3) rfl (Rd.move (v := .int .i64 t1) rfl) ?_
    refine LW.rd hL rfl (Wants.on rfl rfl rfl rfl rfl hb3) rfl (Rd.bin (v := .bool (decide (t1 > 17))) rfl rfl (fun w => by kernel_rfl)) ?_
    refine LW.rd hL rfl (Wants.free rfl) rfl (Rd.pickF rfl hb3 rfl) ?_
    exact LW.sub hL (by exact ⟨rfl, rfl, rfl, rfl, rfl, (by rw [hb3]; rfl), trivial⟩) K2
  refine LW.rd hL rfl (Wants.free rfl) rfl (Rd.assign (v := .bool (decide (t1 < 1) || decide (t1 > 17))) rfl) ?_
  refine LW.nil hL rfl ?_
  refine NW.then ?_
  refine CW.cond rfl (fun hb4 => ?_) (fun hb4 => ?_)
  ·replace h := h.1 hb4
   refine CW.seq ?_
   refine CW.region fun L hL => ?_
   refine LW.rd hL rfl (Wants.free rfl) rfl (Rd.assign (v := .bool false) rfl) ?_
   refine LW.nil hL rfl ?_
   refine NW.then ?_
   refine CW.ret ?_
   refine RW.block ?_
   refine RW.then ?_
   exact res1 rfl rfl ⟨false, rfl, h⟩
  ·replace h := h.2 hb4
   refine CW.seq ?_
   refine CW.region fun L hL => ?_
   refine LW.rd hL rfl (Wants.free rfl) rfl (Rd.move (v := .int .i64 t1) rfl) ?_
   refine LW.rd hL rfl (Wants.free rfl) rfl (Rd.bin (v := .bool (t1 == 1)) rfl rfl (fun w => by kernel_rfl)) ?_
   refine LW.rd hL rfl (Wants.free rfl) rfl (Rd.assign (v := .bool (t1 == 1)) rfl) ?_
   refine LW.nil hL rfl ?_
   refine NW.then ?_
   refine CW.cond rfl (fun hb5 => ?_) (fun hb5 => ?_)
   ·replace h := h.1 hb5
    refine CW.region fun L hL => ?_
    refine LW.rd hL rfl (Wants.free rfl) rfl (Rd.assign (v := .int .i64 8) rfl) ?_
    refine LW.nil hL rfl ?_
    refine NW.block ?_
    exact NW.cut (S := Bool × Int) (Ek := fun s1 => [(3, .pointer (some (⟨b2, 0, none⟩ : Addr))), (4, .bool s1.1), (6, .int .i64 s1.2)]) (false, 8) (by exact ⟨rfl, rfl, rfl, trivial⟩) h
   ·replace h := h.2 hb5
    refine CW.seq ?_
    refine CW.region fun L hL => ?_
    refine LW.rd hL rfl (Wants.free rfl) rfl (Rd.move (v := .int .i64 t1) rfl) ?_
    refine LW.rd hL rfl (Wants.free rfl) rfl (Rd.bin (v := .bool (t1 == 10)) rfl rfl (fun w => by kernel_rfl)) ?_
    refine LW.rd hL rfl (Wants.free rfl) rfl (Rd.assign (v := .bool (t1 == 10)) rfl) ?_
    refine LW.nil hL rfl ?_
    refine NW.then ?_
    refine CW.cond rfl (fun hb6 => ?_) (fun hb6 => ?_)
    ·replace h := h.1 hb6
     refine CW.region fun L hL => ?_
     refine LW.rd hL rfl (Wants.free rfl) rfl (Rd.fa (v := .pointer (some (⟨b1, 0, none⟩ : Addr))) rfl (fun _ => by kernel_rfl)) ?_
     refine LW.rd hL rfl (Wants.free rfl) rfl (Rd.fa (v := .pointer (some (⟨b1, 0, none⟩ : Addr))) rfl (fun _ => by kernel_rfl)) ?_
     obtain ⟨t4, hc4, h⟩ := h
     refine LW.rd hL rfl (Wants.free rfl) rfl (Rd.ld (v := .int .i64 t4) rfl (by kernel_rfl) (eqs hc4)) ?_
     refine LW.rd hL rfl (Wants.free rfl) rfl (Rd.bin (v := .int .i64 (IntKind.wrap .i64 (64 * t4))) rfl rfl (fun w => by kernel_rfl)) ?_
     refine LW.rd hL rfl (Wants.free rfl) rfl (Rd.assign (v := .int .i64 (IntKind.wrap .i64 (64 * t4))) rfl) ?_
     refine LW.nil hL rfl ?_
     refine NW.block ?_
     exact NW.cut (S := Bool × Int) (Ek := fun s1 => [(3, .pointer (some (⟨b2, 0, none⟩ : Addr))), (4, .bool s1.1), (6, .int .i64 s1.2)]) (false, IntKind.wrap .i64 (64 * t4)) (by exact ⟨rfl, rfl, rfl, trivial⟩) h
    ·replace h := h.2 hb6
     refine CW.seq ?_
     refine CW.region fun L hL => ?_
     refine LW.rd hL rfl (Wants.free rfl) rfl (Rd.move (v := .int .i64 t1) rfl) ?_
     refine LW.rd hL rfl (Wants.free rfl) rfl (Rd.bin (v := .bool (t1 == 11)) rfl rfl (fun w => by kernel_rfl)) ?_
     refine LW.rd hL rfl (Wants.free rfl) rfl (Rd.assign (v := .bool (t1 == 11)) rfl) ?_
     refine LW.nil hL rfl ?_
     refine NW.then ?_
     refine CW.cond rfl (fun hb7 => ?_) (fun hb7 => ?_)
     ·replace h := h.1 hb7
      refine CW.region fun L hL => ?_
      refine LW.rd hL rfl (Wants.free rfl) rfl (Rd.assign (v := .int .i64 4) rfl) ?_
      refine LW.nil hL rfl ?_
      refine NW.block ?_
      exact NW.cut (S := Bool × Int) (Ek := fun s1 => [(3, .pointer (some (⟨b2, 0, none⟩ : Addr))), (4, .bool s1.1), (6, .int .i64 s1.2)]) (false, 4) (by exact ⟨rfl, rfl, rfl, trivial⟩) h
     ·replace h := h.2 hb7
      refine CW.seq ?_
      refine CW.region fun L hL => ?_
      refine LW.rd hL rfl (Wants.free rfl) rfl (Rd.move (v := .int .i64 t1) rfl) ?_
      refine LW.rd hL rfl (Wants.free rfl) rfl (Rd.bin (v := .bool (t1 == 12)) rfl rfl (fun w => by kernel_rfl)) ?_
      refine LW.rd hL rfl (Wants.free rfl) rfl (Rd.assign (v := .bool (t1 == 12)) rfl) ?_
      refine LW.nil hL rfl ?_
      refine NW.then ?_
      refine CW.cond rfl (fun hb8 => ?_) (fun hb8 => ?_)
      ·replace h := h.1 hb8
       refine CW.region fun L hL => ?_
       refine LW.rd hL rfl (Wants.free rfl) rfl (Rd.fa (v := .pointer (some (⟨b1, 0, none⟩ : Addr))) rfl (fun _ => by kernel_rfl)) ?_
       refine LW.rd hL rfl (Wants.free rfl) rfl (Rd.fa (v := .pointer (some (⟨b1, 1, none⟩ : Addr))) rfl (fun _ => by kernel_rfl)) ?_
       obtain ⟨t5, hc5, h⟩ := h
       refine LW.rd hL rfl (Wants.free rfl) rfl (Rd.ld (v := .int .i64 t5) rfl (by kernel_rfl) (eqs hc5)) ?_
       refine LW.rd hL rfl (Wants.free rfl) rfl (Rd.bin (v := .int .i64 (IntKind.wrap .i64 (64 * t5))) rfl rfl (fun w => by kernel_rfl)) ?_
       refine LW.rd hL rfl (Wants.free rfl) rfl (Rd.assign (v := .int .i64 (IntKind.wrap .i64 (64 * t5))) rfl) ?_
       refine LW.nil hL rfl ?_
       refine NW.block ?_
       exact NW.cut (S := Bool × Int) (Ek := fun s1 => [(3, .pointer (some (⟨b2, 0, none⟩ : Addr))), (4, .bool s1.1), (6, .int .i64 s1.2)]) (false, IntKind.wrap .i64 (64 * t5)) (by exact ⟨rfl, rfl, rfl, trivial⟩) h
      ·replace h := h.2 hb8
       refine CW.seq ?_
       refine CW.region fun L hL => ?_
       refine LW.rd hL rfl (Wants.free rfl) rfl (Rd.move (v := .int .i64 t1) rfl) ?_
       refine LW.rd hL rfl (Wants.free rfl) rfl (Rd.bin (v := .bool (decide (t1 ≥ 13))) rfl rfl (fun w => by kernel_rfl)) ?_
       refine LW.rd hL rfl (Wants.free rfl) rfl (Rd.move (v := .bool (decide (t1 ≥ 13))) rfl) ?_
       suffices K3 : L 6 [(3, .pointer (some (⟨b2, 0, none⟩ : Addr))), (4, .bool false), (5, .int .i64 t1), (6, .int .i64 1), (42, .bool (decide (t1 ≥ 13) && decide (t1 ≤ 16)))] w2 by
        rcases Bool.eq_false_or_eq_true (decide (t1 ≥ 13)) with hb10 | hb10
        ·skip
         refine LW.rd hL rfl (Wants.on rfl rfl rfl rfl rfl hb10) rfl (Rd.move (v := .int .i64 t1) rfl) ?_
         refine LW.rd hL rfl (Wants.on rfl rfl rfl rfl rfl hb10) rfl (Rd.bin (v := .bool (decide (t1 ≤ 16))) rfl rfl (fun w => by kernel_rfl)) ?_
         refine LW.rd hL rfl (Wants.free rfl) rfl (Rd.pickT rfl hb10 rfl) ?_
         exact LW.sub hL (by exact ⟨rfl, rfl, rfl, rfl, (by rw [hb10]; rfl), trivial⟩) K3
        ·skip
         refine LW.skip hL rfl (Skips.on rfl rfl rfl rfl rfl hb10) rfl ?_
         refine LW.skip hL rfl (Skips.on rfl rfl rfl rfl rfl hb10) rfl ?_
         refine LW.rd hL rfl (Wants.free rfl) rfl (Rd.pickF rfl hb10 rfl) ?_
         exact LW.sub hL (by exact ⟨rfl, rfl, rfl, rfl, (by rw [hb10]; rfl), trivial⟩) K3
       refine LW.rd hL rfl (Wants.free rfl) rfl (Rd.assign (v := .bool (decide (t1 ≥ 13) && decide (t1 ≤ 16))) rfl) ?_
       refine LW.nil hL rfl ?_
       refine NW.then ?_
       refine CW.cond rfl (fun hb11 => ?_) (fun hb11 => ?_)
       ·replace h := h.1 hb11
        refine CW.region fun L hL => ?_
        refine LW.rd hL rfl (Wants.free rfl) rfl (Rd.assign (v := .int .i64 2147483648) rfl) ?_
        refine LW.nil hL rfl ?_
        refine NW.block ?_
        exact NW.cut (S := Bool × Int) (Ek := fun s1 => [(3, .pointer (some (⟨b2, 0, none⟩ : Addr))), (4, .bool s1.1), (6, .int .i64 s1.2)]) (false, 2147483648) (by exact ⟨rfl, rfl, rfl, trivial⟩) h
       ·replace h := h.2 hb11
        refine CW.seq ?_
        refine CW.region fun L hL => ?_
        refine LW.rd hL rfl (Wants.free rfl) rfl (Rd.move (v := .int .i64 t1) rfl) ?_
        refine LW.rd hL rfl (Wants.free rfl) rfl (Rd.bin (v := .bool (t1 == 17)) rfl rfl (fun w => by kernel_rfl)) ?_
        refine LW.rd hL rfl (Wants.free rfl) rfl (Rd.assign (v := .bool (t1 == 17)) rfl) ?_
        refine LW.nil hL rfl ?_
        refine NW.then ?_
        refine CW.cond rfl (fun hb12 => ?_) (fun hb12 => ?_)
        ·replace h := h.1 hb12
         refine CW.region fun L hL => ?_
         refine LW.rd hL rfl (Wants.free rfl) rfl (Rd.assign (v := .int .i64 2) rfl) ?_
         refine LW.nil hL rfl ?_
         refine NW.block ?_
         exact NW.cut (S := Bool × Int) (Ek := fun s1 => [(3, .pointer (some (⟨b2, 0, none⟩ : Addr))), (4, .bool s1.1), (6, .int .i64 s1.2)]) (false, 2) (by exact ⟨rfl, rfl, rfl, trivial⟩) h
        ·replace h := h.2 hb12
         refine CW.skip ?_
         refine NW.block ?_
         exact NW.cut (S := Bool × Int) (Ek := fun s1 => [(3, .pointer (some (⟨b2, 0, none⟩ : Addr))), (4, .bool s1.1), (6, .int .i64 s1.2)]) (false, 1) (by exact ⟨rfl, rfl, rfl, trivial⟩) h
/- pomander/policy.Of -/
def V_policy_Of (r1 : Int) (r2 : Int) (r3 : Int) (r4 : Int) (r5 : Int) (r6 : Int) (r7 : Int) (r8 : Int) (r9 : Int) (r10 : Int) (r11 : Int) (w : World) (R : (Option Addr) → Int → World → Prop) : Prop :=
 ∀ b1 : Nat, b1 = World.size w → ∀ w1 : World, w1 = World.alloc w (.cells #[.int .u32 r1, .int .u32 r2, .int .u32 r3, .int .u32 r4, .int .u32 r5, .int .u32 r6, .int .u32 r7, .int .u32 r8, .int .u32 r9, .int .u32 r10, .int .u32 r11] 25) → (∃ J1 : (Option Addr) × Int → World → Prop, (∀ (s1 : (Option Addr) × Int) (w2 : World), J1 s1 w2 → R none 2 w2) ∧ ((0 : Int) ≤ 0 ∧ (0 : Int) < 5 ∧ (∃ (t1 : Int), w1.cell? ((⟨b1, 0, none⟩ : Addr).add (Int.toNat 0 * 1)) = some (.int .u32 t1) ∧ (∃ J2 : Bool → World → Prop, (∀ (b2 : Bool) (w3 : World), J2 b2 w3 → ∃ J3 : Bool → World → Prop, (∀ (b3 : Bool) (w4 : World), J3 b3 w4 → (b3 = true → J1 (none, 0) w4) ∧ (b3 = false → ∃ (t4 : Int) (t5 : Int) (t6 : Int) (t7 : Int) (t8 : Int), CellsAt w4 (⟨b1, 0, none⟩ : Addr) 0 [.int .u32 t4, .int .u32 t5, .int .u32 t6, .int .u32 t7, .int .u32 t8] ∧ (∃ (t9 : Int) (t10 : Int) (t11 : Int) (t12 : Int) (t13 : Int), CellsAt w4 (⟨b1, 5, none⟩ : Addr) 0 [.int .u32 t9, .int .u32 t10, .int .u32 t11, .int .u32 t12, .int .u32 t13] ∧ (∃ (I1 : Int → World → Prop) (m1 : Int → World → Nat), I1 0 w4 ∧ ∀ (s2 : Int) (w6 : World), I1 s2 w6 → ((decide (s2 < 2)) = true → ∃ (x1 : Int) (x2 : Int) (x3 : Int) (x4 : Int) (x5 : Int), (∀ w : World, (Instr.index 107 (.agg #[.int .u32 t4, .int .u32 t5, .int .u32 t6, .int .u32 t7, .int .u32 t8, .int .u32 t9, .int .u32 t10, .int .u32 t11, .int .u32 t12, .int .u32 t13]) (.int .i64 s2)).run Tryz.prog w = .ok (.agg #[.int .u32 x1, .int .u32 x2, .int .u32 x3, .int .u32 x4, .int .u32 x5]) w) ∧ (∀ b4 : Nat, b4 = World.size w6 → ∀ w7 : World, w7 = World.alloc w6 (.cells #[.int .u32 0, .int .u32 0, .int .u32 0, .int .u32 0, .int .u32 0] 23) → (Has w7 (⟨b4, 0, none⟩ : Addr) 5 ∧ Free w7 (⟨b4, 0, none⟩ : Addr) 5 ∧ ∀ w8 : World, w8 = setCells w7 (⟨b4, 0, none⟩ : Addr) 0 [.int .u32 x1, .int .u32 x2, .int .u32 x3, .int .u32 x4, .int .u32 x5] → (∃ (t14 : Int) (t15 : Int) (t16 : Int) (t17 : Int) (t18 : Int), CellsAt w8 (⟨b4, 0, none⟩ : Addr) 0 [.int .u32 t14, .int .u32 t15, .int .u32 t16, .int .u32 t17, .int .u32 t18] ∧ (∃ (I2 : Int → World → Prop) (m2 : Int → World → Nat), I2 0 w8 ∧ ∀ (s3 : Int) (w9 : World), I2 s3 w9 → ((decide (s3 < 5)) = true → ∃ (x6 : Int), (∀ w : World, (Instr.index 23 (.agg #[.int .u32 t14, .int .u32 t15, .int .u32 t16, .int .u32 t17, .int .u32 t18]) (.int .i64 s3)).run Tryz.prog w = .ok (.int .u32 x6) w) ∧ (Calls Tryz.prog 41 #[.int .u32 x6] w9 fun e w10 => ∃ (r15 : Bool), e = .returned (.bool r15) ∧ (((!r15) = true → J1 (none, 0) w10) ∧ ((!r15) = false → (I2 (IntKind.wrap .i64 (s3 + 1)) w10 ∧ m2 (IntKind.wrap .i64 (s3 + 1)) w10 < m2 s3 w9))))) ∧ ((decide (s3 < 5)) = false → (I1 (IntKind.wrap .i64 (s2 + 1)) w9 ∧ m1 (IntKind.wrap .i64 (s2 + 1)) w9 < m1 s2 w6))))))) ∧ ((decide (s2 < 2)) = false → ∃ (t19 : Int) (t20 : Int) (t21 : Int) (t22 : Int) (t23 : Int) (t24 : Int) (t25 : Int) (t26 : Int) (t27 : Int) (t28 : Int) (t29 : Int), CellsAt w6 (⟨b1, 0, none⟩ : Addr) 0 [.int .u32 t19, .int .u32 t20, .int .u32 t21, .int .u32 t22, .int .u32 t23, .int .u32 t24, .int .u32 t25, .int .u32 t26, .int .u32 t27, .int .u32 t28, .int .u32 t29] ∧ (∀ b5 : Nat, b5 = World.size w6 → ∀ w11 : World, w11 = World.alloc w6 (.cells #[.int .u32 t19, .int .u32 t20, .int .u32 t21, .int .u32 t22, .int .u32 t23, .int .u32 t24, .int .u32 t25, .int .u32 t26, .int .u32 t27, .int .u32 t28, .int .u32 t29, .bool true] 109) → (R (some (⟨b5, 0, none⟩ : Addr)) 0 w11))))))) ∧ ((b2 = false → ∃ (t3 : Int), w3.cell? (⟨b1, 10, none⟩ : Addr) = some (.int .u32 t3) ∧ (Calls Tryz.prog 41 #[.int .u32 t3] w3 fun e w5 => ∃ (r14 : Bool), e = .returned (.bool r14) ∧ (J3 (!r14) w5))) ∧ (b2 = true → J3 true w3))) ∧ (((!(t1 == 0)) = false → (0 : Int) ≤ 0 ∧ (0 : Int) < 5 ∧ (∃ (t2 : Int), w1.cell? ((⟨b1, 5, none⟩ : Addr).add (Int.toNat 0 * 1)) = some (.int .u32 t2) ∧ (J2 (!(t2 == 0)) w1))) ∧ ((!(t1 == 0)) = true → J2 true w1))))))
set_option maxRecDepth 100000 in
theorem ok_policy_Of (r1 : Int) (r2 : Int) (r3 : Int) (r4 : Int) (r5 : Int) (r6 : Int) (r7 : Int) (r8 : Int) (r9 : Int) (r10 : Int) (r11 : Int) (w : World) (R : (Option Addr) → Int → World → Prop) (h : V_policy_Of r1 r2 r3 r4 r5 r6 r7 r8 r9 r10 r11 w R) : Calls Tryz.prog 12 #[.agg #[.int .u32 r1, .int .u32 r2, .int .u32 r3, .int .u32 r4, .int .u32 r5, .int .u32 r6, .int .u32 r7, .int .u32 r8, .int .u32 r9, .int .u32 r10, .int .u32 r11]] w (fun e w' => ∃ (r12 : Option Addr) (r13 : Int), e = .returned (.tuple #[.pointer r12, .int .i64 r13]) ∧ R r12 r13 w') := by
 unfold V_policy_Of at h
 refine enter (N := 44) Tryz.func12 rfl rfl ?_
 refine CW.seq ?_
 refine CW.region fun L hL => ?_
 obtain ⟨b1, hb_b1⟩ : ∃ b1, b1 = World.size w := ⟨_, rfl⟩
 obtain ⟨w1, hw_w1⟩ : ∃ w1, w1 = World.alloc w (.cells #[.int .u32 r1, .int .u32 r2, .int .u32 r3, .int .u32 r4, .int .u32 r5, .int .u32 r6, .int .u32 r7, .int .u32 r8, .int .u32 r9, .int .u32 r10, .int .u32 r11] 25) := ⟨_, rfl⟩
 replace h := h b1 hb_b1 w1 hw_w1
 refine LW.val hL rfl (Wants.free rfl) rfl (boxE hb_b1 hw_w1 (Vl.box (v := .agg #[.int .u32 r1, .int .u32 r2, .int .u32 r3, .int .u32 r4, .int .u32 r5, .int .u32 r6, .int .u32 r7, .int .u32 r8, .int .u32 r9, .int .u32 r10, .int .u32 r11]) rfl)) ?_
 refine LW.rd hL rfl (Wants.free rfl) rfl (Rd.assign (v := .pointer none) rfl) ?_
 refine LW.rd hL rfl (Wants.free rfl) rfl (Rd.assign (v := .int .i64 0) rfl) ?_
 refine LW.nil hL rfl ?_
 refine NW.then ?_
 obtain ⟨J1, hJ1, h⟩ := h
 refine CW.scope (S := (Option Addr) × Int) 0 (fun s1 => [(2, .pointer s1.1), (3, .int .i64 s1.2)]) J1 rfl (fun s1 w2 h_ => ?_) ?_
 ·replace h := hJ1 s1 w2 h_; clear h_
  refine CW.seq ?_
  refine CW.skip ?_
  refine NW.then ?_
  refine CW.seq ?_
  refine CW.region fun L hL => ?_
  refine LW.rd hL rfl (Wants.free rfl) rfl (Rd.assign (v := .pointer none) rfl) ?_
  refine LW.rd hL rfl (Wants.free rfl) rfl (Rd.assign (v := .int .i64 2) rfl) ?_
  refine LW.nil hL rfl ?_
  refine NW.then ?_
  refine CW.ret ?_
  refine RW.jump ?_
  exact res2 rfl rfl rfl ⟨none, 2, rfl, h⟩
 ·skip
  refine CW.seq ?_
  refine CW.seq ?_
  refine CW.region fun L hL => ?_
  refine LW.rd hL rfl (Wants.free rfl) rfl (Rd.fa (v := .pointer (some (⟨b1, 0, none⟩ : Addr))) rfl (fun _ => by kernel_rfl)) ?_
  obtain ⟨hi1, hi2, h⟩ := h
  refine LW.rd hL rfl (Wants.free rfl) rfl (Rd.iaA (sz := 1) rfl rfl Tryz.underlying23 (by kernel_rfl) hi1 hi2) ?_
  obtain ⟨t1, hc1, h⟩ := h
  refine LW.rd hL rfl (Wants.free rfl) rfl (Rd.ld (v := .int .u32 t1) rfl (by kernel_rfl) (eqs hc1)) ?_
  refine LW.rd hL rfl (Wants.free rfl) rfl (Rd.bin (v := .bool (!(t1 == 0))) rfl rfl (fun w => by kernel_rfl)) ?_
  refine LW.rd hL rfl (Wants.free rfl) rfl (Rd.move (v := .bool (!(t1 == 0))) rfl) ?_
  obtain ⟨J2, hJ2, h1_J2, h0_J2⟩ := h
  suffices K1 : ∀ (b2 : Bool) (w3 : World), J2 b2 w3 → L 10 [(1, .pointer (some (⟨b1, 0, none⟩ : Addr))), (2, .pointer none), (3, .int .i64 0), (17, .bool b2)] w3 by
   rcases Bool.eq_false_or_eq_true (!(t1 == 0)) with hb1 | hb1
   ·have h := h0_J2 hb1
    refine LW.skip hL rfl (Skips.on rfl rfl rfl rfl rfl hb1) rfl ?_
    refine LW.skip hL rfl (Skips.on rfl rfl rfl rfl rfl hb1) rfl ?_
    refine LW.skip hL rfl (Skips.on rfl rfl rfl rfl rfl hb1) rfl ?_
    refine LW.skip hL rfl (Skips.on rfl rfl rfl rfl rfl hb1) rfl ?_
    refine LW.rd hL rfl (Wants.free rfl) rfl (Rd.pickT rfl hb1 rfl) ?_
    exact LW.sub hL (by exact ⟨rfl, rfl, rfl, rfl, trivial⟩) (K1 true w1 h)
   ·have h := h1_J2 hb1
    refine LW.rd hL rfl (Wants.on rfl rfl rfl rfl rfl hb1) rfl (Rd.fa (v := .pointer (some (⟨b1, 5, none⟩ : Addr))) rfl (fun _ => by kernel_rfl)) ?_
    obtain ⟨hi3, hi4, h⟩ := h
    refine LW.rd hL rfl (Wants.on rfl rfl rfl rfl rfl hb1) rfl (Rd.iaA (sz := 1) rfl rfl Tryz.underlying23 (by kernel_rfl) hi3 hi4) ?_
    obtain ⟨t2, hc2, h⟩ := h
    refine LW.rd hL rfl (Wants.on rfl rfl rfl rfl rfl hb1) rfl (Rd.ld (v := .int .u32 t2) rfl (by kernel_rfl) (eqs hc2)) ?_
    refine LW.rd hL rfl (Wants.on rfl rfl rfl rfl rfl hb1) rfl (Rd.bin (v := .bool (!(t2 == 0))) rfl rfl (fun w => by kernel_rfl)) ?_
    refine LW.rd hL rfl (Wants.free rfl) rfl (Rd.pickF rfl hb1 rfl) ?_
    exact LW.sub hL (by exact ⟨rfl, rfl, rfl, rfl, trivial⟩) (K1 (!(t2 == 0)) w1 h)
  intro b2 w3 h_
  have h := hJ2 b2 w3 h_; clear h_
  refine LW.rd hL rfl (Wants.free rfl) rfl (Rd.move (v := .bool b2) rfl) ?_
  obtain ⟨J3, hJ3, h1_J3, h0_J3⟩ := h
  suffices K2 : ∀ (b3 : Bool) (w4 : World), J3 b3 w4 → L 16 [(1, .pointer (some (⟨b1, 0, none⟩ : Addr))), (2, .pointer none), (3, .int .i64 0), (23, .bool b3)] w4 by
   rcases Bool.eq_false_or_eq_true b2 with hb2 | hb2
   ·have h := h0_J3 hb2
    refine LW.skip hL rfl (Skips.on rfl rfl rfl rfl rfl hb2) rfl ?_
    refine LW.skip hL rfl (Skips.on rfl rfl rfl rfl rfl hb2) rfl ?_
    refine LW.skip hL rfl (Skips.on rfl rfl rfl rfl rfl hb2) rfl ?_
    refine LW.skip hL rfl (Skips.on rfl rfl rfl rfl rfl hb2) rfl ?_
    refine LW.rd hL rfl (Wants.free rfl) rfl (Rd.pickT rfl hb2 rfl) ?_
    exact LW.sub hL (by exact ⟨rfl, rfl, rfl, rfl, trivial⟩) (K2 true w3 h)
   ·have h := h1_J3 hb2
    refine LW.rd hL rfl (Wants.on rfl rfl rfl rfl rfl hb2) rfl (Rd.fa (v := .pointer (some (⟨b1, 10, none⟩ : Addr))) rfl (fun _ => by kernel_rfl)) ?_
    obtain ⟨t3, hc3, h⟩ := h
    refine LW.rd hL rfl (Wants.on rfl rfl rfl rfl rfl hb2) rfl (Rd.ld (v := .int .u32 t3) rfl (by kernel_rfl) (eqs hc3)) ?_
    refine LW.call hL rfl (Wants.on rfl rfl rfl rfl rfl hb2) rfl (Cl.fn (f := 41) rfl Tryz.func41 (by kernel_rfl) rfl) h (fun e w5 h_ => ?_)
    clear h
    obtain ⟨r14, rfl, h⟩ := h_
    refine ⟨_, rfl, ?_⟩
    refine LW.rd hL rfl (Wants.on rfl rfl rfl rfl rfl hb2) rfl (Rd.un (v := .bool (!r14)) rfl (fun _ => by kernel_rfl)) ?_
    refine LW.rd hL rfl (Wants.free rfl) rfl (Rd.pickF rfl hb2 rfl) ?_
    exact LW.sub hL (by exact ⟨rfl, rfl, rfl, rfl, trivial⟩) (K2 (!r14) w5 h)
  intro b3 w4 h_
  have h := hJ3 b3 w4 h_; clear h_
  refine LW.nil hL rfl ?_
  refine NW.then ?_
  refine CW.cond rfl (fun hb3 => ?_) (fun hb3 => ?_)
  ·replace h := h.1 hb3
   refine CW.goto ?_
   refine GW.then ?_
   exact GW.hit (S := (Option Addr) × Int) (Ek := fun s1 => [(2, .pointer s1.1), (3, .int .i64 s1.2)]) (none, 0) (by exact ⟨rfl, rfl, trivial⟩) h
  ·replace h := h.2 hb3
   refine CW.skip ?_
   refine NW.then ?_
   refine CW.seq ?_
   refine CW.seq ?_
   refine CW.region fun L hL => ?_
   refine LW.rd hL rfl (Wants.free rfl) rfl (Rd.fa (v := .pointer (some (⟨b1, 0, none⟩ : Addr))) rfl (fun _ => by kernel_rfl)) ?_
   obtain ⟨t4, t5, t6, t7, t8, hc4, h⟩ := h
   refine LW.rd hL rfl (Wants.free rfl) rfl (Rd.ldN (cs := [.int .u32 t4, .int .u32 t5, .int .u32 t6, .int .u32 t7, .int .u32 t8]) rfl (by kernel_rfl) (by kernel_rfl) (cellsS hc4)) ?_
   refine LW.rd hL rfl (Wants.free rfl) rfl (Rd.fa (v := .pointer (some (⟨b1, 5, none⟩ : Addr))) rfl (fun _ => by kernel_rfl)) ?_
   obtain ⟨t9, t10, t11, t12, t13, hc5, h⟩ := h
   refine LW.rd hL rfl (Wants.free rfl) rfl (Rd.ldN (cs := [.int .u32 t9, .int .u32 t10, .int .u32 t11, .int .u32 t12, .int .u32 t13]) rfl (by kernel_rfl) (by kernel_rfl) (cellsS hc5)) ?_
   refine LW.rd hL rfl (Wants.free rfl) rfl (Rd.build (v := .agg #[.int .u32 t4, .int .u32 t5, .int .u32 t6, .int .u32 t7, .int .u32 t8, .int .u32 t9, .int .u32 t10, .int .u32 t11, .int .u32 t12, .int .u32 t13]) rfl (fun _ => by kernel_rfl)) ?_
   refine LW.rd hL rfl (Wants.free rfl) rfl (Rd.move (v := .int .i64 0) rfl) ?_
   refine LW.nil hL rfl ?_
   refine NW.then ?_
   refine CW.block ?_
   obtain ⟨I1, m1, hI1, h⟩ := h
   refine CW.loop (S := Int) (fun s2 => [(1, .pointer (some (⟨b1, 0, none⟩ : Addr))), (2, .pointer none), (3, .int .i64 0), (28, .agg #[.int .u32 t4, .int .u32 t5, .int .u32 t6, .int .u32 t7, .int .u32 t8, .int .u32 t9, .int .u32 t10, .int .u32 t11, .int .u32 t12, .int .u32 t13]), (29, .int .i64 s2)]) I1 m1 0 (by exact ⟨rfl, rfl, rfl, rfl, rfl, trivial⟩) hI1 (fun s2 w6 hI1 => ?_)
   replace h := h s2 w6 hI1
   refine CW.seq ?_
   refine CW.region fun L hL => ?_
   refine LW.rd hL rfl (Wants.free rfl) rfl (Rd.bin (v := .bool (decide (s2 < 2))) rfl rfl (fun w => by kernel_rfl)) ?_
   refine LW.nil hL rfl ?_
   refine NW.then ?_
   refine CW.seq ?_
   refine CW.cond rfl (fun hb4 => ?_) (fun hb4 => ?_)
   ·replace h := h.1 hb4
    refine CW.skip ?_
    refine NW.then ?_
    refine CW.seq ?_
    refine CW.block ?_
    refine CW.seq ?_
    refine CW.region fun L hL => ?_
    obtain ⟨x1, x2, x3, x4, x5, hx1, h⟩ := h
    refine LW.rd hL rfl (Wants.free rfl) rfl (Rd.index (v := .agg #[.int .u32 x1, .int .u32 x2, .int .u32 x3, .int .u32 x4, .int .u32 x5]) rfl rfl hx1) ?_
    obtain ⟨b4, hb_b4⟩ : ∃ b4, b4 = World.size w6 := ⟨_, rfl⟩
    obtain ⟨w7, hw_w7⟩ : ∃ w7, w7 = World.alloc w6 (.cells #[.int .u32 0, .int .u32 0, .int .u32 0, .int .u32 0, .int .u32 0] 23) := ⟨_, rfl⟩
    replace h := h b4 hb_b4 w7 hw_w7
    refine LW.val hL rfl (Wants.free rfl) rfl (boxE hb_b4 hw_w7 (Vl.alloc (z := .agg #[.int .u32 0, .int .u32 0, .int .u32 0, .int .u32 0, .int .u32 0]) (by kernel_rfl))) ?_
    obtain ⟨ho1, hf1, h⟩ := h
    obtain ⟨w8, hw_w8⟩ : ∃ w8, w8 = setCells w7 (⟨b4, 0, none⟩ : Addr) 0 [.int .u32 x1, .int .u32 x2, .int .u32 x3, .int .u32 x4, .int .u32 x5] := ⟨_, rfl⟩
    replace h := h w8 hw_w8
    refine LW.eff hL rfl (Wants.free rfl) rfl (stNE hw_w8 (Ef.stN (cs := [.int .u32 x1, .int .u32 x2, .int .u32 x3, .int .u32 x4, .int .u32 x5]) rfl rfl (by kernel_rfl) (List.forall_mem_cons.2 ⟨rfl, (List.forall_mem_cons.2 ⟨rfl, (List.forall_mem_cons.2 ⟨rfl, (List.forall_mem_cons.2 ⟨rfl, (List.forall_mem_cons.2 ⟨rfl, (List.forall_mem_nil _)⟩)⟩)⟩)⟩)⟩) ho1 hf1)) ?_
    refine LW.nil hL rfl ?_
    refine NW.then ?_
    refine CW.seq ?_
    refine CW.region fun L hL => ?_
    obtain ⟨t14, t15, t16, t17, t18, hc6, h⟩ := h
    refine LW.rd hL rfl (Wants.free rfl) rfl (Rd.ldN (cs := [.int .u32 t14, .int .u32 t15, .int .u32 t16, .int .u32 t17, .int .u32 t18]) rfl (by kernel_rfl) (by kernel_rfl) (cellsS hc6)) ?_
    refine LW.rd hL rfl (Wants.free rfl) rfl (Rd.move (v := .int .i64 0) rfl) ?_
    refine LW.nil hL rfl ?_
    refine NW.then ?_
    refine CW.block ?_
    obtain ⟨I2, m2, hI2, h⟩ := h
    refine CW.loop (S := Int) (fun s3 => [(1, .pointer (some (⟨b1, 0, none⟩ : Addr))), (2, .pointer none), (3, .int .i64 0), (28, .agg #[.int .u32 t4, .int .u32 t5, .int .u32 t6, .int .u32 t7, .int .u32 t8, .int .u32 t9, .int .u32 t10, .int .u32 t11, .int .u32 t12, .int .u32 t13]), (29, .int .i64 s2), (32, .agg #[.int .u32 t14, .int .u32 t15, .int .u32 t16, .int .u32 t17, .int .u32 t18]), (33, .int .i64 s3)]) I2 m2 0 (by exact ⟨rfl, rfl, rfl, rfl, rfl, rfl, rfl, trivial⟩) hI2 (fun s3 w9 hI2 => ?_)
    replace h := h s3 w9 hI2
    refine CW.seq ?_
    refine CW.region fun L hL => ?_
    refine LW.rd hL rfl (Wants.free rfl) rfl (Rd.bin (v := .bool (decide (s3 < 5))) rfl rfl (fun w => by kernel_rfl)) ?_
    refine LW.nil hL rfl ?_
    refine NW.then ?_
    refine CW.seq ?_
    refine CW.cond rfl (fun hb5 => ?_) (fun hb5 => ?_)
    ·replace h := h.1 hb5
     refine CW.skip ?_
     refine NW.then ?_
     refine CW.seq ?_
     refine CW.block ?_
     refine CW.seq ?_
     refine CW.region fun L hL => ?_
     obtain ⟨x6, hx2, h⟩ := h
     refine LW.rd hL rfl (Wants.free rfl) rfl (Rd.index (v := .int .u32 x6) rfl rfl hx2) ?_
     refine LW.rd hL rfl (Wants.free rfl) rfl (Rd.assign (v := .int .u32 x6) rfl) ?_
     refine LW.nil hL rfl ?_
     refine NW.then ?_
     refine CW.seq ?_
     refine CW.region fun L hL => ?_
     refine LW.rd hL rfl (Wants.free rfl) rfl (Rd.move (v := .int .u32 x6) rfl) ?_
     refine LW.call hL rfl (Wants.free rfl) rfl (Cl.fn (f := 41) rfl Tryz.func41 (by kernel_rfl) rfl) h (fun e w10 h_ => ?_)
     clear h
     obtain ⟨r15, rfl, h⟩ := h_
     refine ⟨_, rfl, ?_⟩
     refine LW.rd hL rfl (Wants.free rfl) rfl (Rd.un (v := .bool (!r15)) rfl (fun _ => by kernel_rfl)) ?_
     refine LW.nil hL rfl ?_
     refine NW.then ?_
     refine CW.cond rfl (fun hb6 => ?_) (fun hb6 => ?_)
     ·replace h := h.1 hb6
      refine CW.goto ?_
      refine GW.block ?_
      refine GW.then ?_
      refine GW.then ?_
      refine GW.block ?_
      refine GW.block ?_
      refine GW.then ?_
      refine GW.then ?_
      refine GW.block ?_
      refine GW.then ?_
      exact GW.hit (S := (Option Addr) × Int) (Ek := fun s1 => [(2, .pointer s1.1), (3, .int .i64 s1.2)]) (none, 0) (by exact ⟨rfl, rfl, trivial⟩) h
     ·replace h := h.2 hb6
      refine CW.skip ?_
      refine NW.block ?_
      refine NW.then ?_
      refine CW.region fun L hL => ?_
      refine LW.rd hL rfl (Wants.free rfl) rfl (Rd.bin (v := .int .i64 (IntKind.wrap .i64 (s3 + 1))) rfl rfl (fun w => by kernel_rfl)) ?_
      refine LW.rd hL rfl (Wants.free rfl) rfl (Rd.move (v := .int .i64 (IntKind.wrap .i64 (s3 + 1))) rfl) ?_
      refine LW.nil hL rfl ?_
      exact NW.loop (S := Int) (Ek := fun s3 => [(1, .pointer (some (⟨b1, 0, none⟩ : Addr))), (2, .pointer none), (3, .int .i64 0), (28, .agg #[.int .u32 t4, .int .u32 t5, .int .u32 t6, .int .u32 t7, .int .u32 t8, .int .u32 t9, .int .u32 t10, .int .u32 t11, .int .u32 t12, .int .u32 t13]), (29, .int .i64 s2), (32, .agg #[.int .u32 t14, .int .u32 t15, .int .u32 t16, .int .u32 t17, .int .u32 t18]), (33, .int .i64 s3)]) (IntKind.wrap .i64 (s3 + 1)) (by exact ⟨rfl, rfl, rfl, rfl, rfl, rfl, rfl, trivial⟩) h
    ·replace h := h.2 hb5
     refine CW.exit ?_
     refine XW.then ?_
     refine XW.then ?_
     refine XW.hit ?_
     refine NW.block ?_
     refine NW.then ?_
     refine CW.region fun L hL => ?_
     refine LW.rd hL rfl (Wants.free rfl) rfl (Rd.bin (v := .int .i64 (IntKind.wrap .i64 (s2 + 1))) rfl rfl (fun w => by kernel_rfl)) ?_
     refine LW.rd hL rfl (Wants.free rfl) rfl (Rd.move (v := .int .i64 (IntKind.wrap .i64 (s2 + 1))) rfl) ?_
     refine LW.nil hL rfl ?_
     exact NW.loop (S := Int) (Ek := fun s2 => [(1, .pointer (some (⟨b1, 0, none⟩ : Addr))), (2, .pointer none), (3, .int .i64 0), (28, .agg #[.int .u32 t4, .int .u32 t5, .int .u32 t6, .int .u32 t7, .int .u32 t8, .int .u32 t9, .int .u32 t10, .int .u32 t11, .int .u32 t12, .int .u32 t13]), (29, .int .i64 s2)]) (IntKind.wrap .i64 (s2 + 1)) (by exact ⟨rfl, rfl, rfl, rfl, rfl, trivial⟩) h
   ·replace h := h.2 hb4
    refine CW.exit ?_
    refine XW.then ?_
    refine XW.then ?_
    refine XW.hit ?_
    refine NW.then ?_
    refine CW.seq ?_
    refine CW.seq ?_
    refine CW.region fun L hL => ?_
    obtain ⟨t19, t20, t21, t22, t23, t24, t25, t26, t27, t28, t29, hc7, h⟩ := h
    refine LW.rd hL rfl (Wants.free rfl) rfl (Rd.ldN (cs := [.int .u32 t19, .int .u32 t20, .int .u32 t21, .int .u32 t22, .int .u32 t23, .int .u32 t24, .int .u32 t25, .int .u32 t26, .int .u32 t27, .int .u32 t28, .int .u32 t29]) rfl (by kernel_rfl) (by kernel_rfl) (cellsS hc7)) ?_
    refine LW.rd hL rfl (Wants.free rfl) rfl (Rd.build (v := .agg #[.int .u32 t19, .int .u32 t20, .int .u32 t21, .int .u32 t22, .int .u32 t23, .int .u32 t24, .int .u32 t25, .int .u32 t26, .int .u32 t27, .int .u32 t28, .int .u32 t29, .bool true]) rfl (fun _ => by kernel_rfl)) ?_
    obtain ⟨b5, hb_b5⟩ : ∃ b5, b5 = World.size w6 := ⟨_, rfl⟩
    obtain ⟨w11, hw_w11⟩ : ∃ w11, w11 = World.alloc w6 (.cells #[.int .u32 t19, .int .u32 t20, .int .u32 t21, .int .u32 t22, .int .u32 t23, .int .u32 t24, .int .u32 t25, .int .u32 t26, .int .u32 t27, .int .u32 t28, .int .u32 t29, .bool true] 109) := ⟨_, rfl⟩
    replace h := h b5 hb_b5 w11 hw_w11
    refine LW.val hL rfl (Wants.free rfl) rfl (boxE hb_b5 hw_w11 (Vl.box (v := .agg #[.int .u32 t19, .int .u32 t20, .int .u32 t21, .int .u32 t22, .int .u32 t23, .int .u32 t24, .int .u32 t25, .int .u32 t26, .int .u32 t27, .int .u32 t28, .int .u32 t29, .bool true]) rfl)) ?_
    refine LW.rd hL rfl (Wants.free rfl) rfl (Rd.assign (v := .pointer (some (⟨b5, 0, none⟩ : Addr))) rfl) ?_
    refine LW.rd hL rfl (Wants.free rfl) rfl (Rd.assign (v := .int .i64 0) rfl) ?_
    refine LW.nil hL rfl ?_
    refine NW.then ?_
    refine CW.ret ?_
    refine RW.then ?_
    refine RW.jump ?_
    exact res2 rfl rfl rfl ⟨some (⟨b5, 0, none⟩ : Addr), 0, rfl, h⟩
/- (*pomander/policy.Policy).Rules -/
def V_policy_Policy_Rules (p1 : Option Addr) (w : World) (R : Int → Int → Int → Int → Int → Int → Int → Int → Int → Int → Int → World → Prop) : Prop :=
 ∀ b1 : Nat, b1 = World.size w → ∀ w1 : World, w1 = World.alloc w (.cells #[.int .u32 0, .int .u32 0, .int .u32 0, .int .u32 0, .int .u32 0, .int .u32 0, .int .u32 0, .int .u32 0, .int .u32 0, .int .u32 0, .int .u32 0] 25) → (Calls Tryz.prog 47 #[.pointer p1] w1 fun e w2 => ∃ (r12 : Bool), e = .returned (.bool r12) ∧ ((r12 = true → Has w2 (⟨b1, 0, none⟩ : Addr) 11 ∧ Free w2 (⟨b1, 0, none⟩ : Addr) 11 ∧ ∀ w3 : World, w3 = setCells w2 (⟨b1, 0, none⟩ : Addr) 0 [.int .u32 0, .int .u32 0, .int .u32 0, .int .u32 0, .int .u32 0, .int .u32 0, .int .u32 0, .int .u32 0, .int .u32 0, .int .u32 0, .int .u32 0] → (∃ (r13 : Int) (r14 : Int) (r15 : Int) (r16 : Int) (r17 : Int) (r18 : Int) (r19 : Int) (r20 : Int) (r21 : Int) (r22 : Int) (r23 : Int), CellsAt w3 (⟨b1, 0, none⟩ : Addr) 0 [.int .u32 r13, .int .u32 r14, .int .u32 r15, .int .u32 r16, .int .u32 r17, .int .u32 r18, .int .u32 r19, .int .u32 r20, .int .u32 r21, .int .u32 r22, .int .u32 r23] ∧ R r13 r14 r15 r16 r17 r18 r19 r20 r21 r22 r23 w3)) ∧ (r12 = false → ∃ a1 : Addr, p1 = some a1 ∧ (∃ (t1 : Int) (t2 : Int) (t3 : Int) (t4 : Int) (t5 : Int) (t6 : Int) (t7 : Int) (t8 : Int) (t9 : Int) (t10 : Int) (t11 : Int), CellsAt w2 a1 0 [.int .u32 t1, .int .u32 t2, .int .u32 t3, .int .u32 t4, .int .u32 t5, .int .u32 t6, .int .u32 t7, .int .u32 t8, .int .u32 t9, .int .u32 t10, .int .u32 t11] ∧ (Has w2 (⟨b1, 0, none⟩ : Addr) 11 ∧ Free w2 (⟨b1, 0, none⟩ : Addr) 11 ∧ ∀ w4 : World, w4 = setCells w2 (⟨b1, 0, none⟩ : Addr) 0 [.int .u32 t1, .int .u32 t2, .int .u32 t3, .int .u32 t4, .int .u32 t5, .int .u32 t6, .int .u32 t7, .int .u32 t8, .int .u32 t9, .int .u32 t10, .int .u32 t11] → (∃ (r24 : Int) (r25 : Int) (r26 : Int) (r27 : Int) (r28 : Int) (r29 : Int) (r30 : Int) (r31 : Int) (r32 : Int) (r33 : Int) (r34 : Int), CellsAt w4 (⟨b1, 0, none⟩ : Addr) 0 [.int .u32 r24, .int .u32 r25, .int .u32 r26, .int .u32 r27, .int .u32 r28, .int .u32 r29, .int .u32 r30, .int .u32 r31, .int .u32 r32, .int .u32 r33, .int .u32 r34] ∧ R r24 r25 r26 r27 r28 r29 r30 r31 r32 r33 r34 w4))))))
set_option maxRecDepth 100000 in
theorem ok_policy_Policy_Rules (p1 : Option Addr) (w : World) (R : Int → Int → Int → Int → Int → Int → Int → Int → Int → Int → Int → World → Prop) (h : V_policy_Policy_Rules p1 w R) : Calls Tryz.prog 22 #[.pointer p1] w (fun e w' => ∃ (r1 : Int) (r2 : Int) (r3 : Int) (r4 : Int) (r5 : Int) (r6 : Int) (r7 : Int) (r8 : Int) (r9 : Int) (r10 : Int) (r11 : Int), e = .returned (.agg #[.int .u32 r1, .int .u32 r2, .int .u32 r3, .int .u32 r4, .int .u32 r5, .int .u32 r6, .int .u32 r7, .int .u32 r8, .int .u32 r9, .int .u32 r10, .int .u32 r11]) ∧ R r1 r2 r3 r4 r5 r6 r7 r8 r9 r10 r11 w') := by
 unfold V_policy_Policy_Rules at h
 refine enter (N := 10) Tryz.func22 rfl rfl ?_
 refine CW.seq ?_
 refine CW.region fun L hL => ?_
 obtain ⟨b1, hb_b1⟩ : ∃ b1, b1 = World.size w := ⟨_, rfl⟩
 obtain ⟨w1, hw_w1⟩ : ∃ w1, w1 = World.alloc w (.cells #[.int .u32 0, .int .u32 0, .int .u32 0, .int .u32 0, .int .u32 0, .int .u32 0, .int .u32 0, .int .u32 0, .int .u32 0, .int .u32 0, .int .u32 0] 25) := ⟨_, rfl⟩
 replace h := h b1 hb_b1 w1 hw_w1
 refine LW.val hL rfl (Wants.free rfl) rfl (boxE hb_b1 hw_w1 (Vl.alloc (z := .agg #[.int .u32 0, .int .u32 0, .int .u32 0, .int .u32 0, .int .u32 0, .int .u32 0, .int .u32 0, .int .u32 0, .int .u32 0, .int .u32 0, .int .u32 0]) (by kernel_rfl))) ?_
 refine LW.nil hL rfl ?_
 refine NW.then ?_
 refine CW.seq ?_
 refine CW.seq ?_
 refine CW.region fun L hL => ?_
 refine LW.rd hL rfl (Wants.free rfl) rfl (Rd.move (v := .pointer p1) rfl) ?_
 refine LW.call hL rfl (Wants.free rfl) rfl (Cl.fn (f := 47) rfl Tryz.func47 (by kernel_rfl) rfl) h (fun e w2 h_ => ?_)
 clear h
 obtain ⟨r12, rfl, h⟩ := h_
 refine ⟨_, rfl, ?_⟩
 refine LW.nil hL rfl ?_
 refine NW.then ?_
 refine CW.cond rfl (fun hb1 => ?_) (fun hb1 => ?_)
 ·replace h := h.1 hb1
  refine CW.seq ?_
  refine CW.region fun L hL => ?_
  refine LW.rd hL rfl (Wants.free rfl) rfl (Rd.build (v := .agg #[.int .u32 0, .int .u32 0, .int .u32 0, .int .u32 0, .int .u32 0, .int .u32 0, .int .u32 0, .int .u32 0, .int .u32 0, .int .u32 0, .int .u32 0]) rfl (fun _ => by kernel_rfl)) ?_
  obtain ⟨ho1, hf1, h⟩ := h
  obtain ⟨w3, hw_w3⟩ : ∃ w3, w3 = setCells w2 (⟨b1, 0, none⟩ : Addr) 0 [.int .u32 0, .int .u32 0, .int .u32 0, .int .u32 0, .int .u32 0, .int .u32 0, .int .u32 0, .int .u32 0, .int .u32 0, .int .u32 0, .int .u32 0] := ⟨_, rfl⟩
  replace h := h w3 hw_w3
  refine LW.eff hL rfl (Wants.free rfl) rfl (stNE hw_w3 (Ef.stN (cs := [.int .u32 0, .int .u32 0, .int .u32 0, .int .u32 0, .int .u32 0, .int .u32 0, .int .u32 0, .int .u32 0, .int .u32 0, .int .u32 0, .int .u32 0]) rfl rfl (by kernel_rfl) (List.forall_mem_cons.2 ⟨rfl, (List.forall_mem_cons.2 ⟨rfl, (List.forall_mem_cons.2 ⟨rfl, (List.forall_mem_cons.2 ⟨rfl, (List.forall_mem_cons.2 ⟨rfl, (List.forall_mem_cons.2 ⟨rfl, (List.forall_mem_cons.2 ⟨rfl, (List.forall_mem_cons.2 ⟨rfl, (List.forall_mem_cons.2 ⟨rfl, (List.forall_mem_cons.2 ⟨rfl, (List.forall_mem_cons.2 ⟨rfl, (List.forall_mem_nil _)⟩)⟩)⟩)⟩)⟩)⟩)⟩)⟩)⟩)⟩)⟩) ho1 hf1)) ?_
  refine LW.nil hL rfl ?_
  refine NW.then ?_
  refine CW.ret ?_
  refine RW.then ?_
  obtain ⟨r13, r14, r15, r16, r17, r18, r19, r20, r21, r22, r23, hr1, h⟩ := h
  exact resN (vs := [.agg #[.int .u32 r13, .int .u32 r14, .int .u32 r15, .int .u32 r16, .int .u32 r17, .int .u32 r18, .int .u32 r19, .int .u32 r20, .int .u32 r21, .int .u32 r22, .int .u32 r23]]) (ResOK.c rfl (lvN (cs := [.int .u32 r13, .int .u32 r14, .int .u32 r15, .int .u32 r16, .int .u32 r17, .int .u32 r18, .int .u32 r19, .int .u32 r20, .int .u32 r21, .int .u32 r22, .int .u32 r23]) (by kernel_rfl) (by kernel_rfl) (cellsAt_get hr1)) ResOK.nil) rfl ⟨r13, r14, r15, r16, r17, r18, r19, r20, r21, r22, r23, rfl, h⟩
 ·replace h := h.2 hb1
  refine CW.skip ?_
  refine NW.then ?_
  refine CW.seq ?_
  refine CW.region fun L hL => ?_
  refine LW.rd hL rfl (Wants.free rfl) rfl (Rd.move (v := .pointer p1) rfl) ?_
  obtain ⟨a1, ha1, h⟩ := h
  refine LW.rd hL rfl (Wants.free rfl) rfl (Rd.nil (q := a1) (by rw [← ha1]; rfl)) ?_
  refine LW.rd hL rfl (Wants.free rfl) rfl (Rd.fa (v := .pointer (some a1)) rfl (fun _ => by kernel_rfl)) ?_
  obtain ⟨t1, t2, t3, t4, t5, t6, t7, t8, t9, t10, t11, hc1, h⟩ := h
  refine LW.rd hL rfl (Wants.free rfl) rfl (Rd.ldN (cs := [.int .u32 t1, .int .u32 t2, .int .u32 t3, .int .u32 t4, .int .u32 t5, .int .u32 t6, .int .u32 t7, .int .u32 t8, .int .u32 t9, .int .u32 t10, .int .u32 t11]) rfl (by kernel_rfl) (by kernel_rfl) (cellsS hc1)) ?_
  obtain ⟨ho2, hf2, h⟩ := h
  obtain ⟨w4, hw_w4⟩ : ∃ w4, w4 = setCells w2 (⟨b1, 0, none⟩ : Addr) 0 [.int .u32 t1, .int .u32 t2, .int .u32 t3, .int .u32 t4, .int .u32 t5, .int .u32 t6, .int .u32 t7, .int .u32 t8, .int .u32 t9, .int .u32 t10, .int .u32 t11] := ⟨_, rfl⟩
  replace h := h w4 hw_w4
  refine LW.eff hL rfl (Wants.free rfl) rfl (stNE hw_w4 (Ef.stN (cs := [.int .u32 t1, .int .u32 t2, .int .u32 t3, .int .u32 t4, .int .u32 t5, .int .u32 t6, .int .u32 t7, .int .u32 t8, .int .u32 t9, .int .u32 t10, .int .u32 t11]) rfl rfl (by kernel_rfl) (List.forall_mem_cons.2 ⟨rfl, (List.forall_mem_cons.2 ⟨rfl, (List.forall_mem_cons.2 ⟨rfl, (List.forall_mem_cons.2 ⟨rfl, (List.forall_mem_cons.2 ⟨rfl, (List.forall_mem_cons.2 ⟨rfl, (List.forall_mem_cons.2 ⟨rfl, (List.forall_mem_cons.2 ⟨rfl, (List.forall_mem_cons.2 ⟨rfl, (List.forall_mem_cons.2 ⟨rfl, (List.forall_mem_cons.2 ⟨rfl, (List.forall_mem_nil _)⟩)⟩)⟩)⟩)⟩)⟩)⟩)⟩)⟩)⟩)⟩) ho2 hf2)) ?_
  refine LW.nil hL rfl ?_
  refine NW.then ?_
  refine CW.ret ?_
  obtain ⟨r24, r25, r26, r27, r28, r29, r30, r31, r32, r33, r34, hr2, h⟩ := h
  exact resN (vs := [.agg #[.int .u32 r24, .int .u32 r25, .int .u32 r26, .int .u32 r27, .int .u32 r28, .int .u32 r29, .int .u32 r30, .int .u32 r31, .int .u32 r32, .int .u32 r33, .int .u32 r34]]) (ResOK.c rfl (lvN (cs := [.int .u32 r24, .int .u32 r25, .int .u32 r26, .int .u32 r27, .int .u32 r28, .int .u32 r29, .int .u32 r30, .int .u32 r31, .int .u32 r32, .int .u32 r33, .int .u32 r34]) (by kernel_rfl) (by kernel_rfl) (cellsAt_get hr2)) ResOK.nil) rfl ⟨r24, r25, r26, r27, r28, r29, r30, r31, r32, r33, r34, rfl, h⟩
/- (*pomander/flow.Flow).Mark -/
def V_flow_Flow_Mark (f1 : Option Addr) (p1 : Int) (p2 : Int) (n1 : Int) (set1 : Int) (w : World) (R : Int → World → Prop) : Prop :=
 ∀ b1 : Nat, b1 = World.size w → ∀ w1 : World, w1 = World.alloc w (.cells #[.int .i64 p1, .int .i64 p2] 62) → (Calls Tryz.prog 43 #[.pointer f1] w1 fun e w2 => ∃ (r2 : Bool), e = .returned (.bool r2) ∧ ((r2 = true → R 1 w2) ∧ (r2 = false → ∃ (t1 : Int) (t2 : Int), CellsAt w2 (⟨b1, 0, none⟩ : Addr) 0 [.int .i64 t1, .int .i64 t2] ∧ (Calls Tryz.prog 63 #[.pointer f1, .agg #[.int .i64 t1, .int .i64 t2]] w2 fun e w3 => ∃ (r3 : Bool), e = .returned (.bool r3) ∧ (((!r3 || decide (set1 ≥ 65536)) = true → R 2 w3) ∧ ((!r3 || decide (set1 ≥ 65536)) = false → ∃ J1 : Bool → World → Prop, (∀ (b2 : Bool) (w4 : World), J1 b2 w4 → (b2 = true → R 4 w4) ∧ (b2 = false → Calls Tryz.prog 64 #[.pointer f1, .int .u32 set1] w4 fun e w7 => ∃ (r5 : Int), e = .returned (.int .i64 r5) ∧ (((!(r5 == 0)) = true → R r5 w7) ∧ ((!(r5 == 0)) = false → ∃ (I1 : Int → World → Prop) (m1 : Int → World → Nat), I1 0 w7 ∧ ∀ (s1 : Int) (w8 : World), I1 s1 w8 → ((decide (s1 < n1)) = true → ∃ (t5 : Int), w8.cell? (⟨b1, 0, none⟩ : Addr) = some (.int .i64 t5) ∧ (∃ (t6 : Int), w8.cell? (⟨b1, 1, none⟩ : Addr) = some (.int .i64 t6) ∧ (Calls Tryz.prog 65 #[.pointer f1, .agg #[.int .i64 t5, .int .i64 (IntKind.wrap .i64 (t6 + s1))], .int .u32 set1] w8 fun e w9 => e = .returned (.tuple #[]) ∧ ((I1 (IntKind.wrap .i64 (s1 + 1)) w9 ∧ m1 (IntKind.wrap .i64 (s1 + 1)) w9 < m1 s1 w8))))) ∧ ((decide (s1 < n1)) = false → R 0 w8))))) ∧ (((decide (n1 < 0) || decide (n1 > 65536)) = false → ∃ J2 : Bool → World → Prop, (∀ (b3 : Bool) (w5 : World), J2 b3 w5 → J1 b3 w5) ∧ (((decide (n1 > 0)) = true → ∃ (t3 : Int), w3.cell? (⟨b1, 0, none⟩ : Addr) = some (.int .i64 t3) ∧ (∃ (t4 : Int), w3.cell? (⟨b1, 1, none⟩ : Addr) = some (.int .i64 t4) ∧ (Calls Tryz.prog 63 #[.pointer f1, .agg #[.int .i64 t3, .int .i64 (IntKind.wrap .i64 ((IntKind.wrap .i64 (t4 + n1)) - 1))]] w3 fun e w6 => ∃ (r4 : Bool), e = .returned (.bool r4) ∧ (J2 (!r4) w6)))) ∧ ((decide (n1 > 0)) = false → J2 false w3))) ∧ ((decide (n1 < 0) || decide (n1 > 65536)) = true → J1 true w3))))))))
set_option maxRecDepth 100000 in
theorem ok_flow_Flow_Mark (f1 : Option Addr) (p1 : Int) (p2 : Int) (n1 : Int) (set1 : Int) (w : World) (R : Int → World → Prop) (h : V_flow_Flow_Mark f1 p1 p2 n1 set1 w R) : Calls Tryz.prog 31 #[.pointer f1, .agg #[.int .i64 p1, .int .i64 p2], .int .i64 n1, .int .u32 set1] w (fun e w' => ∃ (r1 : Int), e = .returned (.int .i64 r1) ∧ R r1 w') := by
 unfold V_flow_Flow_Mark at h
 refine enter (N := 68) Tryz.func31 rfl rfl ?_
 refine CW.seq ?_
 refine CW.region fun L hL => ?_
 obtain ⟨b1, hb_b1⟩ : ∃ b1, b1 = World.size w := ⟨_, rfl⟩
 obtain ⟨w1, hw_w1⟩ : ∃ w1, w1 = World.alloc w (.cells #[.int .i64 p1, .int .i64 p2] 62) := ⟨_, rfl⟩
 replace h := h b1 hb_b1 w1 hw_w1
 refine LW.val hL rfl (Wants.free rfl) rfl (boxE hb_b1 hw_w1 (Vl.box (v := .agg #[.int .i64 p1, .int .i64 p2]) rfl)) ?_
 refine LW.rd hL rfl (Wants.free rfl) rfl (Rd.assign (v := .int .i64 0) rfl) ?_
 refine LW.nil hL rfl ?_
 refine NW.then ?_
 refine CW.seq ?_
 refine CW.block ?_
 refine CW.seq ?_
 refine CW.region fun L hL => ?_
 refine LW.rd hL rfl (Wants.free rfl) rfl (Rd.move (v := .pointer f1) rfl) ?_
 refine LW.call hL rfl (Wants.free rfl) rfl (Cl.fn (f := 43) rfl Tryz.func43 (by kernel_rfl) rfl) h (fun e w2 h_ => ?_)
 clear h
 obtain ⟨r2, rfl, h⟩ := h_
 refine ⟨_, rfl, ?_⟩
 refine LW.rd hL rfl (Wants.free rfl) rfl (Rd.assign (v := .bool r2) rfl) ?_
 refine LW.nil hL rfl ?_
 refine NW.then ?_
 refine CW.cond rfl (fun hb1 => ?_) (fun hb1 => ?_)
 ·replace h := h.1 hb1
  refine CW.seq ?_
  refine CW.region fun L hL => ?_
  refine LW.rd hL rfl (Wants.free rfl) rfl (Rd.assign (v := .int .i64 1) rfl) ?_
  refine LW.nil hL rfl ?_
  refine NW.then ?_
  refine CW.ret ?_
  refine RW.block ?_
  refine RW.then ?_
  exact res1 rfl rfl ⟨1, rfl, h⟩
 ·replace h := h.2 hb1
  refine CW.seq ?_
  refine CW.region fun L hL => ?_
  refine LW.rd hL rfl (Wants.free rfl) rfl (Rd.move (v := .pointer f1) rfl) ?_
  obtain ⟨t1, t2, hc1, h⟩ := h
  refine LW.rd hL rfl (Wants.free rfl) rfl (Rd.ldN (cs := [.int .i64 t1, .int .i64 t2]) rfl (by kernel_rfl) (by kernel_rfl) (cellsS hc1)) ?_
  refine LW.call hL rfl (Wants.free rfl) rfl (Cl.fn (f := 63) rfl Tryz.func63 (by kernel_rfl) rfl) h (fun e w3 h_ => ?_)
  clear h
  obtain ⟨r3, rfl, h⟩ := h_
  refine ⟨_, rfl, ?_⟩
  refine LW.rd hL rfl (Wants.free rfl) rfl (Rd.un (v := .bool (!r3)) rfl (fun _ => by kernel_rfl)) ?_
  refine LW.rd hL rfl (Wants.free rfl) rfl (Rd.move (v := .bool (!r3)) rfl) ?_
  suffices K1 : L 8 [(0, .pointer f1), (2, .int .i64 n1), (3, .int .u32 set1), (5, .pointer (some (⟨b1, 0, none⟩ : Addr))), (8, .int .i64 0), (22, .bool (!r3 || decide (set1 ≥ 65536)))] w3 by
   rcases Bool.eq_false_or_eq_true (!r3) with hb3 | hb3
   ·skip
    refine LW.skip hL rfl (Skips.on rfl rfl rfl rfl rfl hb3) rfl ?_
    refine LW.skip hL rfl (Skips.on rfl rfl rfl rfl rfl hb3) rfl ?_
    refine LW.rd hL rfl (Wants.free rfl) rfl (Rd.pickT rfl hb3 rfl) ?_
    exact LW.sub hL (by exact ⟨rfl, rfl, rfl, rfl, rfl, (by rw [hb3]; rfl), trivial⟩) K1
   ·skip
    refine LW.rd hL rfl (Wants.on rfl rfl rfl rfl rfl hb3) rfl (Rd.move (v := .int .u32 set1) rfl) ?_
    refine LW.rd hL rfl (Wants.on rfl rfl rfl rfl rfl hb3) rfl (Rd.bin (v := .bool (decide (set1 ≥ 65536))) rfl rfl (fun w => by kernel_rfl)) ?_
    refine LW.rd hL rfl (Wants.free rfl) rfl (Rd.pickF rfl hb3 rfl) ?_
    exact LW.sub hL (by exact ⟨rfl, rfl, rfl, rfl, rfl, (by rw [hb3]; rfl), trivial⟩) K1
  refine LW.rd hL rfl (Wants.free rfl) rfl (Rd.assign (v := .bool (!r3 || decide (set1 ≥ 65536))) rfl) ?_
  refine LW.nil hL rfl ?_
  refine NW.then ?_
  refine CW.cond rfl (fun hb4 => ?_) (fun hb4 => ?_)
  ·replace h := h.1 hb4
   refine CW.seq ?_
   refine CW.region fun L hL => ?_
   refine LW.rd hL rfl (Wants.free rfl) rfl (Rd.assign (v := .int .i64 2) rfl) ?_
   refine LW.nil hL rfl ?_
   refine NW.then ?_
   refine CW.ret ?_
   refine RW.block ?_
   refine RW.then ?_
   exact res1 rfl rfl ⟨2, rfl, h⟩
  ·replace h := h.2 hb4
   refine CW.seq ?_
   refine CW.region fun L hL => ?_
   refine LW.rd hL rfl (Wants.free rfl) rfl (Rd.move (v := .int .i64 n1) rfl) ?_
   refine LW.rd hL rfl (Wants.free rfl) rfl (Rd.bin (v := .bool (decide (n1 < 0))) rfl rfl (fun w => by kernel_rfl)) ?_
   refine LW.rd hL rfl (Wants.free rfl) rfl (Rd.move (v := .bool (decide (n1 < 0))) rfl) ?_
   suffices K2 : L 6 [(0, .pointer f1), (2, .int .i64 n1), (3, .int .u32 set1), (5, .pointer (some (⟨b1, 0, none⟩ : Addr))), (8, .int .i64 0), (29, .bool (decide (n1 < 0) || decide (n1 > 65536)))] w3 by
    rcases Bool.eq_false_or_eq_true (decide (n1 < 0)) with hb6 | hb6
    ·skip
     refine LW.skip hL rfl (Skips.on rfl rfl rfl rfl rfl hb6) rfl ?_
     refine LW.skip hL rfl (Skips.on rfl rfl rfl rfl rfl hb6) rfl ?_
     refine LW.rd hL rfl (Wants.free rfl) rfl (Rd.pickT rfl hb6 rfl) ?_
     exact LW.sub hL (by exact ⟨rfl, rfl, rfl, rfl, rfl, (by rw [hb6]; rfl), trivial⟩) K2
    ·skip
     refine LW.rd hL rfl (Wants.on rfl rfl rfl rfl rfl hb6) rfl (Rd.move (v := .int .i64 n1) rfl) ?_
     refine LW.rd hL rfl (Wants.on rfl rfl rfl rfl rfl hb6) rfl (Rd.bin (v := .bool (decide (n1 > 65536))) rfl rfl (fun w => by kernel_rfl)) ?_
     refine LW.rd hL rfl (Wants.free rfl) rfl (Rd.pickF rfl hb6 rfl) ?_
     exact LW.sub hL (by exact ⟨rfl, rfl, rfl, rfl, rfl, (by rw [hb6]; rfl), trivial⟩) K2
   refine LW.rd hL rfl (Wants.free rfl) rfl (Rd.move (v := .bool (decide (n1 < 0) || decide (n1 > 65536))) rfl) ?_
   obtain ⟨J1, hJ1, h1_J1, h0_J1⟩ := h
   suffices K3 : ∀ (b2 : Bool) (w4 : World), J1 b2 w4 → L 23 [(0, .pointer f1), (2, .int .i64 n1), (3, .int .u32 set1), (5, .pointer (some (⟨b1, 0, none⟩ : Addr))), (8, .int .i64 0), (46, .bool b2)] w4 by
    rcases Bool.eq_false_or_eq_true (decide (n1 < 0) || decide (n1 > 65536)) with hb7 | hb7
    ·have h := h0_J1 hb7
     refine LW.skip hL rfl (Skips.on rfl rfl rfl rfl rfl hb7) rfl ?_
     refine LW.skip hL rfl (Skips.on rfl rfl rfl rfl rfl hb7) rfl ?_
     refine LW.skip hL rfl (Skips.on rfl rfl rfl rfl rfl hb7) rfl ?_
     refine LW.skip hL rfl (Skips.un rfl rfl rfl rfl rfl) rfl ?_
     refine LW.skip hL rfl (Skips.un rfl rfl rfl rfl rfl) rfl ?_
     refine LW.skip hL rfl (Skips.un rfl rfl rfl rfl rfl) rfl ?_
     refine LW.skip hL rfl (Skips.un rfl rfl rfl rfl rfl) rfl ?_
     refine LW.skip hL rfl (Skips.un rfl rfl rfl rfl rfl) rfl ?_
     refine LW.skip hL rfl (Skips.un rfl rfl rfl rfl rfl) rfl ?_
     refine LW.skip hL rfl (Skips.un rfl rfl rfl rfl rfl) rfl ?_
     refine LW.skip hL rfl (Skips.un rfl rfl rfl rfl rfl) rfl ?_
     refine LW.skip hL rfl (Skips.un rfl rfl rfl rfl rfl) rfl ?_
     refine LW.skip hL rfl (Skips.un rfl rfl rfl rfl rfl) rfl ?_
     refine LW.skip hL rfl (Skips.un rfl rfl rfl rfl rfl) rfl ?_
     refine LW.skip hL rfl (Skips.on rfl rfl rfl rfl rfl hb7) rfl ?_
     refine LW.rd hL rfl (Wants.free rfl) rfl (Rd.pickT rfl hb7 rfl) ?_
     exact LW.sub hL (by exact ⟨rfl, rfl, rfl, rfl, rfl, rfl, trivial⟩) (K3 true w3 h)
    ·have h := h1_J1 hb7
     refine LW.rd hL rfl (Wants.on rfl rfl rfl rfl rfl hb7) rfl (Rd.move (v := .int .i64 n1) rfl) ?_
     refine LW.rd hL rfl (Wants.on rfl rfl rfl rfl rfl hb7) rfl (Rd.bin (v := .bool (decide (n1 > 0))) rfl rfl (fun w => by kernel_rfl)) ?_
     refine LW.rd hL rfl (Wants.on rfl rfl rfl rfl rfl hb7) rfl (Rd.move (v := .bool (decide (n1 > 0))) rfl) ?_
     obtain ⟨J2, hJ2, h1_J2, h0_J2⟩ := h
     suffices K4 : ∀ (b3 : Bool) (w5 : World), J2 b3 w5 → L 22 [(0, .pointer f1), (2, .int .i64 n1), (3, .int .u32 set1), (5, .pointer (some (⟨b1, 0, none⟩ : Addr))), (8, .int .i64 0), (30, .bool (decide (n1 < 0) || decide (n1 > 65536))), (45, .bool b3)] w5 by
      rcases Bool.eq_false_or_eq_true (decide (n1 > 0)) with hb8 | hb8
      ·have h := h1_J2 hb8
       refine LW.rd hL rfl (Wants.on rfl rfl rfl rfl rfl hb8) rfl (Rd.move (v := .pointer f1) rfl) ?_
       refine LW.rd hL rfl (Wants.on rfl rfl rfl rfl rfl hb8) rfl (Rd.fa (v := .pointer (some (⟨b1, 0, none⟩ : Addr))) rfl (fun _ => by kernel_rfl)) ?_
       obtain ⟨t3, hc2, h⟩ := h
       refine LW.rd hL rfl (Wants.on rfl rfl rfl rfl rfl hb8) rfl (Rd.ld (v := .int .i64 t3) rfl (by kernel_rfl) (eqs hc2)) ?_
       refine LW.rd hL rfl (Wants.on rfl rfl rfl rfl rfl hb8) rfl (Rd.fa (v := .pointer (some (⟨b1, 1, none⟩ : Addr))) rfl (fun _ => by kernel_rfl)) ?_
       obtain ⟨t4, hc3, h⟩ := h
       refine LW.rd hL rfl (Wants.on rfl rfl rfl rfl rfl hb8) rfl (Rd.ld (v := .int .i64 t4) rfl (by kernel_rfl) (eqs hc3)) ?_
       refine LW.rd hL rfl (Wants.on rfl rfl rfl rfl rfl hb8) rfl (Rd.move (v := .int .i64 n1) rfl) ?_
       refine LW.rd hL rfl (Wants.on rfl rfl rfl rfl rfl hb8) rfl (Rd.bin (v := .int .i64 (IntKind.wrap .i64 (t4 + n1))) rfl rfl (fun w => by kernel_rfl)) ?_
       refine LW.rd hL rfl (Wants.on rfl rfl rfl rfl rfl hb8) rfl (Rd.bin (v := .int .i64 (IntKind.wrap .i64 ((IntKind.wrap .i64 (t4 + n1)) - 1))) rfl rfl (fun w => by kernel_rfl)) ?_
       refine LW.rd hL rfl (Wants.on rfl rfl rfl rfl rfl hb8) rfl (Rd.build (v := .agg #[.int .i64 t3, .int .i64 (IntKind.wrap .i64 ((IntKind.wrap .i64 (t4 + n1)) - 1))]) rfl (fun _ => by kernel_rfl)) ?_
       refine LW.call hL rfl (Wants.on rfl rfl rfl rfl rfl hb8) rfl (Cl.fn (f := 63) rfl Tryz.func63 (by kernel_rfl) rfl) h (fun e w6 h_ => ?_)
       clear h
       obtain ⟨r4, rfl, h⟩ := h_
       refine ⟨_, rfl, ?_⟩
       refine LW.rd hL rfl (Wants.on rfl rfl rfl rfl rfl hb8) rfl (Rd.un (v := .bool (!r4)) rfl (fun _ => by kernel_rfl)) ?_
       refine LW.rd hL rfl (Wants.on rfl rfl rfl rfl rfl hb7) rfl (Rd.pickT rfl hb8 rfl) ?_
       exact LW.sub hL (by exact ⟨rfl, rfl, rfl, rfl, rfl, rfl, rfl, trivial⟩) (K4 (!r4) w6 h)
      ·have h := h0_J2 hb8
       refine LW.skip hL rfl (Skips.on rfl rfl rfl rfl rfl hb8) rfl ?_
       refine LW.skip hL rfl (Skips.on rfl rfl rfl rfl rfl hb8) rfl ?_
       refine LW.skip hL rfl (Skips.on rfl rfl rfl rfl rfl hb8) rfl ?_
       refine LW.skip hL rfl (Skips.on rfl rfl rfl rfl rfl hb8) rfl ?_
       refine LW.skip hL rfl (Skips.on rfl rfl rfl rfl rfl hb8) rfl ?_
       refine LW.skip hL rfl (Skips.on rfl rfl rfl rfl rfl hb8) rfl ?_
       refine LW.skip hL rfl (Skips.on rfl rfl rfl rfl rfl hb8) rfl ?_
       refine LW.skip hL rfl (Skips.on rfl rfl rfl rfl rfl hb8) rfl ?_
       refine LW.skip hL rfl (Skips.on rfl rfl rfl rfl rfl hb8) rfl ?_
       refine LW.skip hL rfl (Skips.on rfl rfl rfl rfl rfl hb8) rfl ?_
       refine LW.skip hL rfl (Skips.on rfl rfl rfl rfl rfl hb8) rfl ?_
       refine LW.rd hL rfl (Wants.on rfl rfl rfl rfl rfl hb7) rfl (Rd.pickF rfl hb8 rfl) ?_
       exact LW.sub hL (by exact ⟨rfl, rfl, rfl, rfl, rfl, rfl, rfl, trivial⟩) (K4 false w3 h)
     intro b3 w5 h_
     have h := hJ2 b3 w5 h_; clear h_
     refine LW.rd hL rfl (Wants.free rfl) rfl (Rd.pickF rfl hb7 rfl) ?_
     exact LW.sub hL (by exact ⟨rfl, rfl, rfl, rfl, rfl, rfl, trivial⟩) (K3 b3 w5 h)
   intro b2 w4 h_
   have h := hJ1 b2 w4 h_; clear h_
   refine LW.rd hL rfl (Wants.free rfl) rfl (Rd.assign (v := .bool b2) rfl) ?_
   refine LW.nil hL rfl ?_
   refine NW.then ?_
   refine CW.cond rfl (fun hb9 => ?_) (fun hb9 => ?_)
   ·replace h := h.1 hb9
    refine CW.seq ?_
    refine CW.region fun L hL => ?_
    refine LW.rd hL rfl (Wants.free rfl) rfl (Rd.assign (v := .int .i64 4) rfl) ?_
    refine LW.nil hL rfl ?_
    refine NW.then ?_
    refine CW.ret ?_
    refine RW.block ?_
    refine RW.then ?_
    exact res1 rfl rfl ⟨4, rfl, h⟩
   ·replace h := h.2 hb9
    refine CW.skip ?_
    refine NW.block ?_
    refine NW.then ?_
    refine CW.seq ?_
    refine CW.seq ?_
    refine CW.region fun L hL => ?_
    refine LW.rd hL rfl (Wants.free rfl) rfl (Rd.move (v := .pointer f1) rfl) ?_
    refine LW.rd hL rfl (Wants.free rfl) rfl (Rd.move (v := .int .u32 set1) rfl) ?_
    refine LW.call hL rfl (Wants.free rfl) rfl (Cl.fn (f := 64) rfl Tryz.func64 (by kernel_rfl) rfl) h (fun e w7 h_ => ?_)
    clear h
    obtain ⟨r5, rfl, h⟩ := h_
    refine ⟨_, rfl, ?_⟩
    refine LW.rd hL rfl (Wants.free rfl) rfl (Rd.assign (v := .int .i64 r5) rfl) ?_
    refine LW.nil hL rfl ?_
    refine NW.then ?_
    refine CW.seq ?_
    refine CW.region fun L hL => ?_
    refine LW.rd hL rfl (Wants.free rfl) rfl (Rd.move (v := .int .i64 r5) rfl) ?_
    refine LW.rd hL rfl (Wants.free rfl) rfl (Rd.bin (v := .bool (!(r5 == 0))) rfl rfl (fun w => by kernel_rfl)) ?_
    refine LW.nil hL rfl ?_
    refine NW.then ?_
    refine CW.cond rfl (fun hb10 => ?_) (fun hb10 => ?_)
    ·replace h := h.1 hb10
     refine CW.seq ?_
     refine CW.region fun L hL => ?_
     refine LW.rd hL rfl (Wants.free rfl) rfl (Rd.move (v := .int .i64 r5) rfl) ?_
     refine LW.rd hL rfl (Wants.free rfl) rfl (Rd.assign (v := .int .i64 r5) rfl) ?_
     refine LW.nil hL rfl ?_
     refine NW.then ?_
     refine CW.ret ?_
     refine RW.then ?_
     exact res1 rfl rfl ⟨r5, rfl, h⟩
    ·replace h := h.2 hb10
     refine CW.skip ?_
     refine NW.then ?_
     refine CW.seq ?_
     refine CW.seq ?_
     refine CW.region fun L hL => ?_
     refine LW.rd hL rfl (Wants.free rfl) rfl (Rd.move (v := .int .i64 n1) rfl) ?_
     refine LW.rd hL rfl (Wants.free rfl) rfl (Rd.move (v := .int .i64 0) rfl) ?_
     refine LW.nil hL rfl ?_
     refine NW.then ?_
     refine CW.block ?_
     obtain ⟨I1, m1, hI1, h⟩ := h
     refine CW.loop (S := Int) (fun s1 => [(0, .pointer f1), (3, .int .u32 set1), (5, .pointer (some (⟨b1, 0, none⟩ : Addr))), (8, .int .i64 0), (53, .int .i64 n1), (54, .int .i64 s1)]) I1 m1 0 (by exact ⟨rfl, rfl, rfl, rfl, rfl, rfl, trivial⟩) hI1 (fun s1 w8 hI1 => ?_)
     replace h := h s1 w8 hI1
     refine CW.seq ?_
     refine CW.region fun L hL => ?_
     refine LW.rd hL rfl (Wants.free rfl) rfl (Rd.bin (v := .bool (decide (s1 < n1))) rfl rfl (fun w => by kernel_rfl)) ?_
     refine LW.nil hL rfl ?_
     refine NW.then ?_
     refine CW.seq ?_
     refine CW.cond rfl (fun hb11 => ?_) (fun hb11 => ?_)
     ·replace h := h.1 hb11
      refine CW.skip ?_
      refine NW.then ?_
      refine CW.seq ?_
      refine CW.block ?_
      refine CW.seq ?_
      refine CW.region fun L hL => ?_
      refine LW.rd hL rfl (Wants.free rfl) rfl (Rd.move (v := .int .i64 s1) rfl) ?_
      refine LW.rd hL rfl (Wants.free rfl) rfl (Rd.assign (v := .int .i64 s1) rfl) ?_
      refine LW.nil hL rfl ?_
      refine NW.then ?_
      refine CW.region fun L hL => ?_
      refine LW.rd hL rfl (Wants.free rfl) rfl (Rd.move (v := .pointer f1) rfl) ?_
      refine LW.rd hL rfl (Wants.free rfl) rfl (Rd.fa (v := .pointer (some (⟨b1, 0, none⟩ : Addr))) rfl (fun _ => by kernel_rfl)) ?_
      obtain ⟨t5, hc4, h⟩ := h
      refine LW.rd hL rfl (Wants.free rfl) rfl (Rd.ld (v := .int .i64 t5) rfl (by kernel_rfl) (eqs hc4)) ?_
      refine LW.rd hL rfl (Wants.free rfl) rfl (Rd.fa (v := .pointer (some (⟨b1, 1, none⟩ : Addr))) rfl (fun _ => by kernel_rfl)) ?_
      obtain ⟨t6, hc5, h⟩ := h
      refine LW.rd hL rfl (Wants.free rfl) rfl (Rd.ld (v := .int .i64 t6) rfl (by kernel_rfl) (eqs hc5)) ?_
      refine LW.rd hL rfl (Wants.free rfl) rfl (Rd.move (v := .int .i64 s1) rfl) ?_
      refine LW.rd hL rfl (Wants.free rfl) rfl (Rd.bin (v := .int .i64 (IntKind.wrap .i64 (t6 + s1))) rfl rfl (fun w => by kernel_rfl)) ?_
      refine LW.rd hL rfl (Wants.free rfl) rfl (Rd.build (v := .agg #[.int .i64 t5, .int .i64 (IntKind.wrap .i64 (t6 + s1))]) rfl (fun _ => by kernel_rfl)) ?_
      refine LW.rd hL rfl (Wants.free rfl) rfl (Rd.move (v := .int .u32 set1) rfl) ?_
      refine LW.call hL rfl (Wants.free rfl) rfl (Cl.fn (f := 65) rfl Tryz.func65 (by kernel_rfl) rfl) h (fun e w9 h_ => ?_)
      clear h
      obtain ⟨rfl, h⟩ := h_
      refine ⟨_, rfl, ?_⟩
      refine LW.nil hL rfl ?_
      refine NW.block ?_
      refine NW.then ?_
      refine CW.region fun L hL => ?_
      refine LW.rd hL rfl (Wants.free rfl) rfl (Rd.bin (v := .int .i64 (IntKind.wrap .i64 (s1 + 1))) rfl rfl (fun w => by kernel_rfl)) ?_
      refine LW.rd hL rfl (Wants.free rfl) rfl (Rd.move (v := .int .i64 (IntKind.wrap .i64 (s1 + 1))) rfl) ?_
      refine LW.nil hL rfl ?_
      exact NW.loop (S := Int) (Ek := fun s1 => [(0, .pointer f1), (3, .int .u32 set1), (5, .pointer (some (⟨b1, 0, none⟩ : Addr))), (8, .int .i64 0), (53, .int .i64 n1), (54, .int .i64 s1)]) (IntKind.wrap .i64 (s1 + 1)) (by exact ⟨rfl, rfl, rfl, rfl, rfl, rfl, trivial⟩) h
     ·replace h := h.2 hb11
      refine CW.exit ?_
      refine XW.then ?_
      refine XW.then ?_
      refine XW.hit ?_
      refine NW.then ?_
      refine CW.seq ?_
      refine CW.region fun L hL => ?_
      refine LW.rd hL rfl (Wants.free rfl) rfl (Rd.assign (v := .int .i64 0) rfl) ?_
      refine LW.nil hL rfl ?_
      refine NW.then ?_
      refine CW.ret ?_
      exact res1 rfl rfl ⟨0, rfl, h⟩
end Go.Proofs.YtfcfkhbkkfpehaaGreat
end
section
/- Flows: get, put, keep, Mark, New. -/
namespace Go.Proofs.YtfcfkhbkkfpehaaGreat
open Go Go.RowKit Go.X
def i64s (n : Int) : Prop := -9223372036854775808 ≤ n ∧ n ≤ 9223372036854775807
theorem nd_swap {A B B' C : List Nat} {n : Nat} (h : (A ++ (B ++ C)).Nodup) (hB' : B'.Nodup) (hs : ∀ i ∈ B', i ∈ B ∨ n ≤ i) (hA : ∀ i ∈ A, i < n) (hC : ∀ i ∈ C, i < n) : (A ++ (B' ++ C)).Nodup := by
 rw [List.nodup_append] at h ⊢
 obtain ⟨h1, h2, h3⟩ := h
 rw [List.nodup_append] at h2
 obtain ⟨h4, h5, h6⟩ := h2
 refine ⟨h1, ?_, ?_⟩
 ·rw [List.nodup_append]
  refine ⟨hB', h5, fun a ha c hc e => ?_⟩
  rcases hs a ha with h | h
  ·exact h6 a h c hc e
  ·have := hC c hc; omega
 ·intro a ha c hc e
  rcases List.mem_append.1 hc with hc | hc
  ·rcases hs c hc with h | h
   ·exact h3 a ha c (List.mem_append.2 (.inl h)) e
   ·have := hA a ha; omega
  ·exact h3 a ha c (List.mem_append.2 (.inr hc)) e
theorem flow_get {w : World} {b : Nat} {F : Fl} {fp : List Nat} (h : FlowAt w b F fp) {p1 p2 : Int} (hp : i64s p2) :
  Calls Tryz.prog 73 #[.pointer (some ⟨b, 0, none⟩), .agg #[.int .i64 p1, .int .i64 p2]] w fun e w' => ∃ r : Int, e = .returned (.int .u32 r) ∧ (r = F.g (p1, p2) ∧ Chg [] w w') := by
 obtain ⟨T, m, d, r, l, fpT, fpm, fpd, gm, gd, h1, h2, h3, h4, h5, h6, h7, h8, h9, rfl⟩ := h.there
 refine ok_flow_Flow_get _ _ _ _ _ ?_
 unfold V_flow_Flow_get
 refine v_alloc fun b1 w1 e1 hb1 c1 => ?_
 refine ⟨p1, by rw [cell_of hb1]; rfl, fun hk => ?_, fun hk => ⟨fun hk2 => ?_, fun hk2 => ?_⟩⟩
 ·have hk' : p1 = 10 := by simpa using hk
  subst hk'
  refine v_drew fun w2 c2 => ?_
  have c02 := c1.trans0 c2
  refine ⟨_, rfl, _, by rw [add_at, cell_of (c02.obj (by simp) h1)]; rfl, p2, by rw [cell_of (c2.obj (by simp) hb1)]; rfl, ?_⟩
  refine (shadow_getp (h3.chg c02 (by simp)) hp).mono ?_
  rintro _ w3 ⟨r1, r2, rfl, c3, rfl, _⟩
  exact ⟨_, _, rfl, (h6 p2).symm, c02.trans0 c3⟩
 ·have hk' : p1 = 12 := by simpa using hk2
  subst hk'
  refine v_drew fun w2 c2 => ?_
  have c02 := c1.trans0 c2
  refine ⟨_, rfl, _, by rw [add_at, cell_of (c02.obj (by simp) h1)]; rfl, p2, by rw [cell_of (c2.obj (by simp) hb1)]; rfl, ?_⟩
  refine (shadow_getp (h4.chg c02 (by simp)) hp).mono ?_
  rintro _ w3 ⟨r1, r2, rfl, c3, rfl, _⟩
  exact ⟨_, _, rfl, (h7 p2).symm, c02.trans0 c3⟩
 ·have hk' : p1 ≠ 10 := by simpa using hk
  have hk2' : p1 ≠ 12 := by simpa using hk2
  refine v_drew fun w2 c2 => ?_
  have c02 := c1.trans0 c2
  refine ⟨_, rfl, _, by rw [add_at, cell_of (c02.obj (by simp) h1)]; rfl, p1, p2, cellsAt_of (c2.obj (by simp) hb1), ?_⟩
  have hl := (h5.chg c02 (by simp)).lookup (P := Tryz.prog) (T := 99) u143 keyPlace zero22 (p1, p2) false
  refine ⟨F.g (p1, p2), ?_, rfl, c02⟩
  rw [h8 _ hk' hk2']
  rw [show (Value.agg #[.int .i64 p1, .int .i64 p2]) = encP (p1, p2) from rfl, hl]
  cases lookK (p1, p2) l <;> rfl
def putP (g : Int × Int → Int) (p : Int × Int) (set : Int) : Int × Int → Int := fun q => if q = p then set else g q
theorem flow_put {w : World} {b : Nat} {F : Fl} {fp : List Nat} (h : FlowAt w b F fp) {p1 p2 set : Int} (hm : mayP F.fr F.se (p1, p2)) (hs0 : 0 ≤ set) (hs1 : set < 65536) :
  Calls Tryz.prog 65 #[.pointer (some ⟨b, 0, none⟩), .agg #[.int .i64 p1, .int .i64 p2], .int .u32 set] w fun e w' => e = .returned (.tuple #[]) ∧
   (∃ fp', FlowAt w' b { F with g := putP F.g (p1, p2) set } fp' ∧ Chg fp w w' ∧ ∀ i ∈ fp', i ∈ fp ∨ w.heap.size ≤ i) := by
 have hlt := h.lt
 have hnd := h.nodup
 have hw := h.wide
 obtain ⟨T, m, d, r, l, fpT, fpm, fpd, gm, gd, h1, h2, h3, h4, h5, h6, h7, h8, h9, rfl⟩ := h.there
 have hm' := hm
 unfold mayP boundP at hm'
 simp only [] at hm'
 have hnd0 := hnd
 simp only [List.nodup_cons, List.mem_cons, List.mem_append, not_or, List.nodup_append] at hnd
 obtain ⟨⟨nbr, nbT, nbm, nbd⟩, ⟨nrT, nrm, nrd⟩, ndT, ⟨ndm, ndd, nmd⟩, nTmd⟩ := hnd
 have hcase : ∀ {w1 : World}, Chg [] w w1 → w1.heap[b]? = some (.cells #[.int .i64 F.fr, .int .i64 F.se, .pointer (some ⟨T, 0, none⟩), .pointer (some ⟨m, 0, none⟩), .pointer (some ⟨d, 0, none⟩), .map (some r)] 101 (0, 0)) := fun c => c.obj (by simp) h1
 refine ok_flow_Flow_put _ _ _ _ _ _ ?_
 unfold V_flow_Flow_put
 refine v_alloc fun b1 w1 e1 hb1 c1 => ?_
 refine ⟨p1, by rw [cell_of hb1]; rfl, fun hk => ?_, fun hk => ⟨p1, by rw [cell_of hb1]; rfl, fun hk2 => ?_, fun hk2 => ?_⟩⟩
 ·have hk' : p1 = 10 := by simpa using hk
  subst hk'
  simp at hm'
  refine v_drew fun w2 c2 => ?_
  have c02 := c1.trans0 c2
  refine ⟨_, rfl, _, by rw [add_at, cell_of (hcase c02)]; rfl, p2, by rw [cell_of (c2.obj (by simp) hb1)]; rfl, ?_⟩
  refine (shadow_setp (h3.chg c02 (by simp)) ⟨by omega, by omega⟩ hs0).mono ?_
  rintro _ w3 ⟨r1, rfl, hr⟩
  rw [if_neg (by omega), if_pos (by omega)] at hr
  obtain ⟨rfl, fpm', hS, c3, hf⟩ := hr
  have c03 : Chg fpm w w3 := c02.nil.trans c3 (fun _ h _ => h)
  have hf' : ∀ i ∈ fpm', i ∈ fpm ∨ w.heap.size ≤ i := fun i hi => (hf i hi).imp id (fun h => Nat.le_trans c02.size h)
  refine ⟨_, rfl, b :: r :: (fpT ++ (fpm' ++ fpd)), ⟨⟨T, m, d, r, l, fpT, fpm', fpd, putG gm p2 set, gd, c03.obj nbm h1, h2.chg c03 (fun i hi hm => nTmd i hi i (.inl hm) rfl), hS, h4.chg c03 (fun i hi hm => nmd i hm i hi rfl), h5.chg c03 nrm, ?_, ?_, ?_, h9, rfl⟩, ?_⟩, ?_, ?_⟩
  ·intro n; simp only [putP, putG]
   by_cases e : n = p2 <;> simp [e, h6]
  ·intro n; simp [putP, h7]
  ·intro p hp1 hp2; simp only [putP]
   rw [if_neg (by intro e; rw [e] at hp1; exact hp1 rfl)]; exact h8 p hp1 hp2
  ·have := nd_swap (A := b :: r :: fpT) (B := fpm) (B' := fpm') (C := fpd) (n := w.heap.size) (by simpa using hnd0) hS.nodup hf' (fun i hi => hlt i (by simp at hi ⊢; rcases hi with h | h | h <;> simp [h])) (fun i hi => hlt i (by simp [hi]))
   simpa using this
  ·exact c03.mono (fun i hi _ => by simp [hi])
  ·intro i hi
   simp only [List.mem_cons, List.mem_append] at hi ⊢
   rcases hi with h | h | h | h | h
   ·simp [h]
   ·simp [h]
   ·simp [h]
   ·rcases hf' i h with h | h <;> simp [h]
   ·simp [h]
 ·have hk' : p1 = 12 := by simpa using hk2
  subst hk'
  simp at hm'
  refine v_drew fun w2 c2 => ?_
  have c02 := c1.trans0 c2
  refine ⟨_, rfl, _, by rw [add_at, cell_of (hcase c02)]; rfl, p2, by rw [cell_of (c2.obj (by simp) hb1)]; rfl, ?_⟩
  refine (shadow_setp (h4.chg c02 (by simp)) ⟨by omega, by omega⟩ hs0).mono ?_
  rintro _ w3 ⟨r1, rfl, hr⟩
  rw [if_neg (by omega), if_pos (by omega)] at hr
  obtain ⟨rfl, fpd', hS, c3, hf⟩ := hr
  have c03 : Chg fpd w w3 := c02.nil.trans c3 (fun _ h _ => h)
  have hf' : ∀ i ∈ fpd', i ∈ fpd ∨ w.heap.size ≤ i := fun i hi => (hf i hi).imp id (fun h => Nat.le_trans c02.size h)
  refine ⟨_, rfl, b :: r :: (fpT ++ (fpm ++ fpd')), ⟨⟨T, m, d, r, l, fpT, fpm, fpd', gm, putG gd p2 set, c03.obj nbd h1, h2.chg c03 (fun i hi hm => nTmd i hi i (.inr hm) rfl), h3.chg c03 (fun i hi hm => nmd i hi i hm rfl), hS, h5.chg c03 nrd, ?_, ?_, ?_, h9, rfl⟩, ?_⟩, ?_, ?_⟩
  ·intro n; simp [putP, h6]
  ·intro n; simp only [putP, putG]
   by_cases e : n = p2 <;> simp [e, h7]
  ·intro p hp1 hp2; simp only [putP]
   rw [if_neg (by intro e; rw [e] at hp2; exact hp2 rfl)]; exact h8 p hp1 hp2
  ·have := nd_swap (A := b :: r :: (fpT ++ fpm)) (B := fpd) (B' := fpd') (C := []) (n := w.heap.size) (by simpa using hnd0) hS.nodup hf' (fun i hi => hlt i (by simp at hi ⊢; rcases hi with h | h | h | h <;> simp [h])) (by simp)
   simpa using this
  ·exact c03.mono (fun i hi _ => by simp [hi])
  ·intro i hi
   simp only [List.mem_cons, List.mem_append] at hi ⊢
   rcases hi with h | h | h | h | h
   ·simp [h]
   ·simp [h]
   ·simp [h]
   ·simp [h]
   ·rcases hf' i h with h | h <;> simp [h]
 ·have hk' : p1 ≠ 10 := by simpa using hk
  have hk2' : p1 ≠ 12 := by simpa using hk2
  refine ⟨fun hz => ?_, fun hz => ?_⟩
  ·have hz' : set = 0 := by simpa using hz
   subst hz'
   refine v_drew fun w2 c2 => ?_
   have c02 := c1.trans0 c2
   obtain ⟨w3, hd, c3, _, hm3⟩ := (h5.chg c02 (by simp)).delete (P := Tryz.prog) (T := 99) u143 keyPlace (p1, p2) (ty := 0)
   have c03 : Chg [r] w w3 := c02.nil.trans c3 (fun _ h _ => h)
   refine ⟨_, rfl, _, by rw [add_at, cell_of (hcase c02)]; rfl, p1, p2, cellsAt_of (c2.obj (by simp) hb1), w3, hd, ?_⟩
   refine ⟨b :: r :: (fpT ++ (fpm ++ fpd)), ⟨⟨T, m, d, r, _, fpT, fpm, fpd, gm, gd, c03.obj (by simpa using nbr) h1, h2.chg c03 (fun i hi hm => nrT (by simp at hm; exact hm ▸ hi)), h3.chg c03 (fun i hi hm => nrm (by simp at hm; exact hm ▸ hi)), h4.chg c03 (fun i hi hm => nrd (by simp at hm; exact hm ▸ hi)), hm3, ?_, ?_, ?_, ?_, rfl⟩, hnd0⟩, ?_, fun i hi => .inl hi⟩
   ·intro n; simp only [putP]; rw [if_neg (by intro e; exact hk' (congrArg Prod.fst e).symm)]; exact h6 n
   ·intro n; simp only [putP]; rw [if_neg (by intro e; exact hk2' (congrArg Prod.fst e).symm)]; exact h7 n
   ·intro p hp1 hp2; simp only [putP]
    simp only [lookK_del]
    by_cases e : p = (p1, p2)
    ·simp [e]
    ·simp [e, h8 p hp1 hp2]
   ·intro x hx; exact h9 x (List.mem_filter.1 hx).1
   ·exact c03.mono (by simp)
  ·have hz' : set ≠ 0 := by simpa using hz
   refine v_drew fun w2 c2 => ?_
   have c02 := c1.trans0 c2
   obtain ⟨w3, hd, c3, _, hm3⟩ := (h5.chg c02 (by simp)).update (P := Tryz.prog) (T := 99) u143 keyPlace (p1, p2) set
   have c03 : Chg [r] w w3 := c02.nil.trans c3 (fun _ h _ => h)
   refine ⟨_, rfl, _, by rw [add_at, cell_of (hcase c02)]; rfl, p1, p2, cellsAt_of (c2.obj (by simp) hb1), w3, hd, ?_⟩
   refine ⟨b :: r :: (fpT ++ (fpm ++ fpd)), ⟨⟨T, m, d, r, _, fpT, fpm, fpd, gm, gd, c03.obj (by simpa using nbr) h1, h2.chg c03 (fun i hi hm => nrT (by simp at hm; exact hm ▸ hi)), h3.chg c03 (fun i hi hm => nrm (by simp at hm; exact hm ▸ hi)), h4.chg c03 (fun i hi hm => nrd (by simp at hm; exact hm ▸ hi)), hm3, ?_, ?_, ?_, ?_, rfl⟩, hnd0⟩, ?_, fun i hi => .inl hi⟩
   ·intro n; simp only [putP]; rw [if_neg (by intro e; exact hk' (congrArg Prod.fst e).symm)]; exact h6 n
   ·intro n; simp only [putP]; rw [if_neg (by intro e; exact hk2' (congrArg Prod.fst e).symm)]; exact h7 n
   ·intro p hp1 hp2; simp only [putP]
    simp only [lookK_upd]
    by_cases e : p = (p1, p2)
    ·simp [e]
    ·simp [e, h8 p hp1 hp2]
   ·intro x hx
    unfold upd at hx
    split at hx
    ·obtain ⟨y, hy, rfl⟩ := List.mem_map.1 hx
     by_cases e : y.1 = (p1, p2)
     ·rw [if_pos e]; exact ⟨hk', hk2', hm, by show 0 < set; omega, hs1⟩
     ·rw [if_neg e]; exact h9 y hy
    ·rcases List.mem_append.1 hx with hx | hx
     ·exact h9 x hx
     ·simp at hx; subst hx; exact ⟨hk', hk2', hm, by show 0 < set; omega, hs1⟩
   ·exact c03.mono (by simp)
theorem flow_keep {w : World} {b : Nat} {F : Fl} {fp : List Nat} (h : FlowAt w b F fp) {set : Int} (hs0 : 0 ≤ set) :
  Calls Tryz.prog 64 #[.pointer (some ⟨b, 0, none⟩), .int .u32 set] w fun e w' => ∃ r : Int, e = .returned (.int .i64 r) ∧
   (r = keepE F.most F.sets set ∧ ∃ fp', FlowAt w' b { F with sets := keepS F.most F.sets set } fp' ∧ Chg fp w w' ∧ ∀ i ∈ fp', i ∈ fp ∨ w.heap.size ≤ i) := by
 have hlt := h.lt
 have hnd := h.nodup
 obtain ⟨T, m, d, r, l, fpT, fpm, fpd, gm, gd, h1, h2, h3, h4, h5, h6, h7, h8, h9, rfl⟩ := h.there
 have hnd0 := hnd
 simp only [List.nodup_cons, List.mem_cons, List.mem_append, not_or, List.nodup_append] at hnd
 obtain ⟨⟨nbr, nbT, nbm, nbd⟩, ⟨nrT, nrm, nrd⟩, ndT, ⟨ndm, ndd, nmd⟩, nTmd⟩ := hnd
 refine ok_flow_Flow_keep _ _ _ _ ?_
 unfold V_flow_Flow_keep
 refine ⟨_, rfl, _, by rw [add_at, cell_of h1]; rfl, ?_⟩
 refine (table_keep h2 hs0).mono ?_
 rintro _ w3 ⟨r1, r2, rfl, rfl, fpT', hT, c3, hf⟩
 refine ⟨_, _, rfl, rfl, b :: r :: (fpT' ++ (fpm ++ fpd)), ⟨⟨T, m, d, r, l, fpT', fpm, fpd, gm, gd, c3.obj nbT h1, hT, h3.chg c3 (fun i hi hm => nTmd i hm i (.inl hi) rfl), h4.chg c3 (fun i hi hm => nTmd i hm i (.inr hi) rfl), h5.chg c3 nrT, h6, h7, h8, h9, rfl⟩, ?_⟩, ?_, ?_⟩
 ·have := nd_swap (A := [b, r]) (B := fpT) (B' := fpT') (C := fpm ++ fpd) (n := w.heap.size) (by simpa using hnd0) hT.nodup hf (fun i hi => hlt i (by simp at hi ⊢; rcases hi with h | h <;> simp [h])) (fun i hi => hlt i (by simp at hi ⊢; rcases hi with h | h <;> simp [h]))
  simpa using this
 ·exact c3.mono (fun i hi _ => by simp [hi])
 ·intro i hi
  simp only [List.mem_cons, List.mem_append] at hi ⊢
  rcases hi with h | h | h | h | h
  ·simp [h]
  ·simp [h]
  ·rcases hf i h with h | h <;> simp [h]
  ·simp [h]
  ·simp [h]
def flowNew (fr se most : Int) : Fl := ⟨fr, se, most, [0], fun _ => 0⟩
def rightP (fr se most : Int) : Prop := 1 ≤ fr ∧ fr ≤ 32 ∧ 1 ≤ se ∧ se ≤ 32 ∧ 1 ≤ most ∧ most ≤ 65536
instance (fr se most : Int) : Decidable (rightP fr se most) := by unfold rightP; exact inferInstance
theorem flow_new (w : World) (fr se most : Int) :
  Calls Tryz.prog 26 #[.agg #[.int .i64 fr, .int .i64 se], .int .i64 most] w fun e w' => ∃ (r1 : Option Addr) (r2 : Int), e = .returned (.tuple #[.pointer r1, .int .i64 r2]) ∧
   (Chg [] w w' ∧ if rightP fr se most then r2 = 0 ∧ ∃ b fp, r1 = some ⟨b, 0, none⟩ ∧ FlowAt w' b (flowNew fr se most) fp ∧ ∀ i ∈ fp, w.heap.size ≤ i else r1 = none ∧ r2 = 2) := by
 refine ok_flow_New _ _ _ _ _ ?_
 unfold V_flow_New
 refine v_alloc fun b1 w1 e1 hb1 c1 => ?_
 refine (table_new w1 most).mono ?_
 rintro _ w2 ⟨r3, r4, rfl, c2, ht⟩
 have hb2 := c2.obj (by simp) hb1
 refine ⟨_, _, rfl, fr, by rw [cell_of hb2]; rfl, ?_⟩
 refine (shadow_new w2 fr).mono ?_
 rintro _ w3 ⟨r5, r6, rfl, c3, hm⟩
 have hb3 := c3.obj (by simp) hb2
 refine ⟨_, _, rfl, se, by rw [cell_of hb3]; rfl, ?_⟩
 refine (shadow_new w3 se).mono ?_
 rintro _ w4 ⟨r7, r8, rfl, c4, hd⟩
 have hb4 := c4.obj (by simp) hb3
 have c04 : Chg [] w w4 := ((c1.trans0 c2).trans0 c3).trans0 c4
 refine ⟨_, _, rfl, fun hbad => ?_, fun hgood => ?_⟩
 ·refine ⟨c04, ?_⟩
  rw [if_neg]
  ·exact ⟨rfl, rfl⟩
  ·rintro ⟨k1, k2, k3, k4, k5, k6⟩
   rw [if_pos ⟨k5, k6⟩] at ht
   rw [if_pos ⟨k1, k2⟩] at hm
   rw [if_pos ⟨k3, k4⟩] at hd
   simp [ht.1, hm.1, hd.1] at hbad
 simp at hgood
 by_cases k1 : 1 ≤ most ∧ most ≤ 65536
 case neg => rw [if_neg k1] at ht; omega
 by_cases k2 : 1 ≤ fr ∧ fr ≤ 32
 case neg => rw [if_neg k2] at hm; omega
 by_cases k3 : 1 ≤ se ∧ se ≤ 32
 case neg => rw [if_neg k3] at hd; omega
 rw [if_pos k1] at ht
 rw [if_pos k2] at hm
 rw [if_pos k3] at hd
 obtain ⟨rfl, T, fpT, rfl, hT, fT⟩ := ht
 obtain ⟨rfl, m, fpm, rfl, hM, fM⟩ := hm
 obtain ⟨rfl, d, fpd, rfl, hD, fD⟩ := hd
 refine ⟨fr, se, cellsAt_of hb4, ?_⟩
 refine v_alloc fun b2 w5 e5 h5 c5 => ?_
 refine v_alloc fun b3 w6 e6 h6 c6 => ?_
 have c06 := (c04.trans0 c5).trans0 c6
 have l5 : b2 < w5.heap.size := lt_of_heap h5
 have s1 := c1.size
 have s2 := c2.size
 have s3 := c3.size
 have s4 := c4.size
 have s5 := c5.size
 have lT := hT.lt
 have lM := hM.lt
 have lD := hD.lt
 refine ⟨c06, ?_⟩
 rw [if_pos ⟨k2.1, k2.2, k3.1, k3.2, k1.1, k1.2⟩]
 have hmap : MapIs w5 b2 encP (fun n : Int => .int .u32 n) [] := ⟨#[], 0, h5, rfl, by simp, by simp, by simp⟩
 have c26 := ((c3.trans0 c4).trans0 c5).trans0 c6
 have c36 := (c4.trans0 c5).trans0 c6
 have c46 := c5.trans0 c6
 refine ⟨rfl, b3, b3 :: b2 :: (fpT ++ (fpm ++ fpd)), rfl, ⟨⟨T, m, d, b2, [], fpT, fpm, fpd, fun _ => 0, fun _ => 0, h6, hT.chg c26 (by simp), hM.chg c36 (by simp), hD.chg c46 (by simp), hmap.chg c6 (by simp), fun _ => rfl, fun _ => rfl, fun _ _ _ => rfl, by simp, rfl⟩, ?_⟩, ?_⟩
 ·simp only [List.nodup_cons, List.mem_cons, List.mem_append, not_or, List.nodup_append]
  refine ⟨⟨by omega, fun h => ?_, fun h => ?_, fun h => ?_⟩, ⟨fun h => ?_, fun h => ?_, fun h => ?_⟩, hT.nodup, ⟨hM.nodup, hD.nodup, fun a ha c hc e => ?_⟩, fun a ha c hc e => ?_⟩
  ·have := lT _ h; omega
  ·have := lM _ h; omega
  ·have := lD _ h; omega
  ·have := lT _ h; omega
  ·have := lM _ h; omega
  ·have := lD _ h; omega
  ·have := lM _ ha; have := fD _ hc; omega
  ·have := lT _ ha
   rcases hc with hc | hc
   ·have := fM _ hc; omega
   ·have := fD _ hc; omega
 ·intro i hi
  simp only [List.mem_cons, List.mem_append] at hi
  rcases hi with h | h | h | h | h
  ·omega
  ·omega
  ·have := fT i h; omega
  ·have := fM i h; omega
  ·have := fD i h; omega
end Go.Proofs.YtfcfkhbkkfpehaaGreat
end
section
/- Flows: Mark, Get, together, right, Decides; places and touches that lie somewhere. -/
namespace Go.Proofs.YtfcfkhbkkfpehaaGreat
open Go Go.RowKit Go.X
def fillP (g : Int × Int → Int) (p : Int × Int) (set : Int) : Nat → Int × Int → Int
 | 0 => g
 | n + 1 => putP (fillP g p set n) (p.1, p.2 + n) set
def markE (F : Fl) (p : Int × Int) (n set : Int) : Int :=
 if ¬ mayP F.fr F.se p ∨ 65536 ≤ set then 2 else if n < 0 ∨ 65536 < n ∨ (0 < n ∧ ¬ mayP F.fr F.se (p.1, p.2 + n - 1)) then 4 else keepE F.most F.sets set
def markF (F : Fl) (p : Int × Int) (n set : Int) : Fl := if markE F p n set = 0 then { F with sets := keepS F.most F.sets set, g := fillP F.g p set n.toNat } else F
theorem keepS_bad {most : Int} {sets : List Int} {set : Int} (h : keepE most sets set ≠ 0) : keepS most sets set = sets := by
 unfold keepE at h; unfold keepS
 split at h
 ·rename_i h1; rw [if_pos (.inl h1)]
 split at h
 ·simp at h
 split at h
 ·rename_i h1; rw [if_pos (.inr (.inr h1))]
 ·simp at h
theorem grow_trans {fp fp' fp'' : List Nat} {w w' w'' : World} (c : Chg fp w w') (f : ∀ i ∈ fp', i ∈ fp ∨ w.heap.size ≤ i) (c' : Chg fp' w' w'') (f' : ∀ i ∈ fp'', i ∈ fp' ∨ w'.heap.size ≤ i) :
  Chg fp w w'' ∧ ∀ i ∈ fp'', i ∈ fp ∨ w.heap.size ≤ i :=
 ⟨c.trans c' (fun i hi hlt => (f i hi).resolve_right (by omega)), fun i hi => by
  rcases f' i hi with h | h
  ·exact f i h
  ·exact .inr (Nat.le_trans c.size h)⟩
theorem flow_mark {w : World} {b : Nat} {F : Fl} {fp : List Nat} (h : FlowAt w b F fp) {p1 p2 n set : Int} (hp : i64s p2) (hs0 : 0 ≤ set) :
  Calls Tryz.prog 31 #[.pointer (some ⟨b, 0, none⟩), .agg #[.int .i64 p1, .int .i64 p2], .int .i64 n, .int .u32 set] w fun e w' => ∃ r : Int, e = .returned (.int .i64 r) ∧
   (r = markE F (p1, p2) n set ∧ ∃ fp', FlowAt w' b (markF F (p1, p2) n set) fp' ∧ Chg fp w w' ∧ ∀ i ∈ fp', i ∈ fp ∨ w.heap.size ≤ i) := by
 have hwide := h.wide
 refine ok_flow_Flow_Mark _ _ _ _ _ _ _ ?_
 unfold V_flow_Flow_Mark
 refine v_alloc fun b1 w1 e1 hb1 c1 => ?_
 refine (flow_none (h.chg c1 (by simp))).mono ?_
 rintro _ w2 ⟨_, rfl, rfl, hw⟩
 subst w2
 refine ⟨_, rfl, fun h => by simp at h, fun _ => ⟨p1, p2, cellsAt_of hb1, ?_⟩⟩
 refine (flow_may (h.chg c1 (by simp)) p1 p2).mono ?_
 rintro _ w3 ⟨_, rfl, rfl, c3⟩
 have c03 := c1.trans0 c3
 have hb3 := c3.obj (by simp) hb1
 refine ⟨_, rfl, fun hbad => ?_, fun hgood => ?_⟩
 ·have hb : ¬ mayP F.fr F.se (p1, p2) ∨ 65536 ≤ set := by simpa using hbad
  have hE : markE F (p1, p2) n set = 2 := by unfold markE; rw [if_pos hb]
  exact ⟨hE.symm, fp, by unfold markF; rw [if_neg (by omega)]; exact h.chg c03 (by simp), c03.nil, fun i hi => .inl hi⟩
 have hg : mayP F.fr F.se (p1, p2) ∧ set < 65536 := by simpa using hgood
 have hm := hg.1
 unfold mayP boundP at hm
 simp only [] at hm
 have hp2 : 0 ≤ p2 ∧ p2 < 2147483648 := by
  refine ⟨hm.2.2.1, ?_⟩
  have := hm.2.2.2
  split at this
  ·omega
  split at this
  ·omega
  split at this
  ·omega
  split at this
  ·omega
  split at this
  ·omega
  split at this <;> omega
 have hnot : ¬ (¬ mayP F.fr F.se (p1, p2) ∨ 65536 ≤ set) := by
  rintro (h | h)
  ·exact h hg.1
  ·omega
 refine ⟨fun b2 w4 => Chg [] w w4 ∧ w4.heap[b1]? = some (.cells #[.int .i64 p1, .int .i64 p2] 62 (0, 0)) ∧ b2 = decide (n < 0 ∨ 65536 < n ∨ (0 < n ∧ ¬ mayP F.fr F.se (p1, p2 + n - 1))), ?_, fun hn => ?_, fun hn => ?_⟩
 rotate_left
 ·have hn' : 0 ≤ n ∧ n ≤ 65536 := by simpa using hn
  refine ⟨_, fun b3 w5 h => h, fun hpos => ?_, fun hpos => ?_⟩
  ·have hpos' : 0 < n := by simpa using hpos
   refine ⟨p1, by rw [cell_of hb3]; rfl, p2, by rw [cell_of hb3]; rfl, ?_⟩
   rw [wr (n := p2 + n) (by omega) (by omega), wr (by omega) (by omega)]
   refine (flow_may (h.chg c03 (by simp)) p1 (p2 + n - 1)).mono ?_
   rintro _ w6 ⟨_, rfl, rfl, c6⟩
   refine ⟨_, rfl, c03.trans0 c6, c6.obj (by simp) hb3, ?_⟩
   rw [← decide_not]
   exact decide_eq_decide.2 ⟨fun h => .inr (.inr ⟨hpos', h⟩), fun h => by
    rcases h with h | h | h
    ·omega
    ·omega
    ·exact h.2⟩
  ·have hpos' : ¬ 0 < n := by simpa using hpos
   refine ⟨c03, hb3, ?_⟩
   symm; rw [decide_eq_false_iff_not]; omega
 ·have hn' : n < 0 ∨ 65536 < n := by simpa using hn
  refine ⟨c03, hb3, ?_⟩
  symm; rw [decide_eq_true_eq]; omega
 rintro b2 w4 ⟨c04, hb4, rfl⟩
 refine ⟨fun hbad => ?_, fun hok => ?_⟩
 ·rw [decide_eq_true_eq] at hbad
  have hE : markE F (p1, p2) n set = 4 := by unfold markE; rw [if_neg hnot, if_pos hbad]
  exact ⟨hE.symm, fp, by unfold markF; rw [if_neg (by omega)]; exact h.chg c04 (by simp), c04.nil, fun i hi => .inl hi⟩
 rw [decide_eq_false_iff_not] at hok
 have hE : markE F (p1, p2) n set = keepE F.most F.sets set := by unfold markE; rw [if_neg hnot, if_neg hok]
 refine (flow_keep (h.chg c04 (by simp)) hs0).mono ?_
 rintro _ w7 ⟨r5, rfl, rfl, fp', hF, c7, hf⟩
 obtain ⟨c07, hf07⟩ := grow_trans (fp := fp) (fp' := fp) c04.nil (fun i hi => .inl hi) c7 hf
 have hlt := h.lt
 have hb7 : w7.heap[b1]? = some (.cells #[.int .i64 p1, .int .i64 p2] 62 (0, 0)) := c7.obj (fun hm => by have := hlt _ hm; omega) hb4
 refine ⟨_, rfl, fun hbad => ?_, fun hz => ?_⟩
 ·have hbad' : keepE F.most F.sets set ≠ 0 := by simpa using hbad
  refine ⟨hE.symm, fp', ?_, c07, hf07⟩
  unfold markF; rw [if_neg (by rw [hE]; exact hbad')]
  rw [keepS_bad hbad'] at hF; exact hF
 have hz' : keepE F.most F.sets set = 0 := by simpa using hz
 have hn0 : 0 ≤ n ∧ n ≤ 65536 := by omega
 refine ⟨fun s w' => ∃ i : Nat, s = (i : Int) ∧ (i : Int) ≤ n ∧ w'.heap[b1]? = some (.cells #[.int .i64 p1, .int .i64 p2] 62 (0, 0)) ∧ ∃ fp', FlowAt w' b { F with sets := keepS F.most F.sets set, g := fillP F.g (p1, p2) set i } fp' ∧ Chg fp w w' ∧ ∀ i ∈ fp', i ∈ fp ∨ w.heap.size ≤ i ∧ i ≠ b1,
  fun s _ => (n - s).toNat, ⟨0, rfl, by omega, hb7, fp', hF, c07, fun i hi => ?_⟩, ?_⟩
 ·rcases hf i hi with h | h
  ·exact .inl h
  ·exact .inr ⟨Nat.le_trans c04.size h, fun e => by have := lt_of_heap hb4; omega⟩
 rintro _ w8 ⟨i, rfl, hi, hb8, fp8, hF8, c8, hf8⟩
 refine ⟨fun hlt8 => ?_, fun hge => ?_⟩
 ·have hlt' : (i : Int) < n := by simpa using hlt8
  refine ⟨p1, by rw [cell_of hb8]; rfl, p2, by rw [cell_of hb8]; rfl, ?_⟩
  rw [wr (n := p2 + i) (by omega) (by omega)]
  have hmi : mayP F.fr F.se (p1, p2 + i) := by
   have h1 : mayP F.fr F.se (p1, p2 + n - 1) := Classical.byContradiction fun h => hok (.inr (.inr ⟨by omega, h⟩))
   unfold mayP at h1 hg ⊢
   simp only [] at h1 hg ⊢
   omega
  refine (flow_put hF8 hmi hs0 hg.2).mono ?_
  rintro _ w9 ⟨rfl, fp9, hF9, c9, hf9⟩
  rw [wr (by omega) (by omega)]
  refine ⟨rfl, ⟨i + 1, by omega, by omega, c9.obj (fun hm => ?_) hb8, fp9, hF9, ?_, ?_⟩, by simp only []; omega⟩
  ·rcases hf8 _ hm with h | h
   ·have := hlt _ h; omega
   ·exact h.2 rfl
  ·exact c8.trans c9 (fun j hj hl => (hf8 j hj).resolve_right (fun h => by omega))
  ·intro j hj
   rcases hf9 j hj with h | h
   ·exact hf8 j h
   ·exact .inr ⟨Nat.le_trans c8.size h, fun e => by have := lt_of_heap hb8; omega⟩
 ·have hge' : ¬ (i : Int) < n := by simpa using hge
  have : n.toNat = i := by omega
  refine ⟨by rw [hE, hz'], fp8, ?_, c8, fun j hj => (hf8 j hj).imp id And.left⟩
  unfold markF; rw [if_pos (by rw [hE]; exact hz'), this]; exact hF8
/-! ### Places and touches -/
structure PlacesAt (w : World) (S : Nat → Prop) (p : Option Addr) (n : Nat) (ps : List (Int × Int)) : Prop where
 length : ps.length = n
 each : ∀ j x, ps[j]? = some x → i64s x.1 ∧ i64s x.2 ∧ ∃ a, p = some a ∧ S a.block ∧ CellsAt w (a.add (j * 2)) 0 [.int .i64 x.1, .int .i64 x.2]
theorem PlacesAt.chg {w w' : World} {S : Nat → Prop} {p : Option Addr} {n : Nat} {ps : List (Int × Int)} {f : List Nat} (h : PlacesAt w S p n ps) (hc : Chg f w w') (hf : ∀ i ∈ f, ¬ S i) : PlacesAt w' S p n ps :=
 ⟨h.length, fun j x hx => let ⟨h1, h2, a, h3, h4, h5⟩ := h.each j x hx; ⟨h1, h2, a, h3, h4, hc.cells (by rw [add_block]; exact fun hm => hf _ hm h4) h5⟩⟩
abbrev Tch := (Int × Int) × List (Int × Int)
structure TouchesAt (w : World) (S : Nat → Prop) (p : Option Addr) (n : Nat) (ts : List Tch) : Prop where
 length : ts.length = n
 each : ∀ j t, ts[j]? = some t → i64s t.1.1 ∧ i64s t.1.2 ∧ ∃ a q qn qc, p = some a ∧ S a.block ∧ CellsAt w (a.add (j * 3)) 0 [.int .i64 t.1.1, .int .i64 t.1.2, .slice q qn qc] ∧ PlacesAt w S q qn t.2
theorem TouchesAt.chg {w w' : World} {S : Nat → Prop} {p : Option Addr} {n : Nat} {ts : List Tch} {f : List Nat} (h : TouchesAt w S p n ts) (hc : Chg f w w') (hf : ∀ i ∈ f, ¬ S i) : TouchesAt w' S p n ts :=
 ⟨h.length, fun j x hx => let ⟨h1, h2, a, q, qn, qc, h3, h4, h5, h6⟩ := h.each j x hx; ⟨h1, h2, a, q, qn, qc, h3, h4, hc.cells (by rw [add_block]; exact fun hm => hf _ hm h4) h5, h6.chg hc hf⟩⟩
theorem get_of {α : Type} {l : List α} {j : Nat} (h : j < l.length) : ∃ x, l[j]? = some x := ⟨l[j], List.getElem?_eq_getElem h⟩
theorem take_snoc {α : Type} {l : List α} {j : Nat} {x : α} (h : l[j]? = some x) : l.take (j + 1) = l.take j ++ [x] := by
 rw [List.take_add_one, h]; rfl
def joinP (g : Int × Int → Int) (ps : List (Int × Int)) : Int := ps.foldl (fun s p => bits .or .u32 s (g p)) 0
theorem joinP_snoc (g : Int × Int → Int) (ps : List (Int × Int)) (p : Int × Int) : joinP g (ps ++ [p]) = bits .or .u32 (joinP g ps) (g p) := by simp [joinP]
theorem flow_together {w : World} {b : Nat} {F : Fl} {fp : List Nat} (h : FlowAt w b F fp) {S : Nat → Prop} {p : Option Addr} {n c : Nat} {ps : List (Int × Int)} (hp : PlacesAt w S p n ps) (hn : n ≤ 9223372036854775807) :
  Calls Tryz.prog 67 #[.pointer (some ⟨b, 0, none⟩), .slice p n c] w fun e w' => ∃ r : Int, e = .returned (.int .u32 r) ∧ (r = joinP F.g ps ∧ Chg [] w w') := by
 refine ok_flow_Flow_together _ _ _ _ _ _ ?_
 unfold V_flow_Flow_together
 refine ⟨fun s w' => ∃ j : Nat, s.2 = (j : Int) ∧ j ≤ n ∧ s.1 = joinP F.g (ps.take j) ∧ Chg [] w w', fun s _ => (n - s.2).toNat, ⟨0, rfl, by omega, rfl, Chg.refl _ _⟩, ?_⟩
 rintro ⟨s1, s2⟩ w1 ⟨j, rfl, hj, rfl, c1⟩
 refine ⟨fun hlt => ?_, fun hge => ?_⟩
 ·have hlt' : j < n := by simpa using hlt
  obtain ⟨x, hj'⟩ := get_of (l := ps) (j := j) (by rw [hp.length]; exact hlt')
  obtain ⟨k1, k2, a, rfl, ha, hc⟩ := (hp.chg c1 (by simp)).each j _ hj'
  refine ⟨a, rfl, by simp only []; omega, by simp only []; omega, _, _, by simpa using hc, ?_⟩
  refine v_box (by rfl) (by rfl) fun b1 w3 e3 h3 c3 => ?_
  refine ⟨_, _, cellsAt_of h3, ?_⟩
  have c13 := c1.trans0 c3
  refine (flow_get (h.chg c13 (by simp)) k2).mono ?_
  rintro _ w4 ⟨r2, rfl, rfl, c4⟩
  refine ⟨_, rfl, ?_⟩
  simp only []
  rw [wr (by omega) (by omega)]
  refine ⟨⟨j + 1, by omega, by omega, ?_, c13.trans0 c4⟩, by omega⟩
  rw [take_snoc hj', joinP_snoc]
 ·have hge' : ¬ j < n := by simpa using hge
  refine ⟨?_, c1⟩
  rw [List.take_of_length_le (by rw [hp.length]; omega)]
def rightT (fr se : Int) (t : Tch) : Prop := (t.1 = (0, 0) ∨ mayP fr se t.1) ∧ ∀ p ∈ t.2, mayP fr se p
instance (fr se : Int) (t : Tch) : Decidable (rightT fr se t) := by unfold rightT; exact inferInstance
theorem flow_right {w : World} {b : Nat} {F : Fl} {fp : List Nat} (h : FlowAt w b F fp) {S : Nat → Prop} {p : Option Addr} {n c : Nat} {ts : List Tch} (hp : TouchesAt w S p n ts) (hn : n ≤ 9223372036854775807) (hin : ∀ t ∈ ts, t.2.length ≤ 9223372036854775807) :
  Calls Tryz.prog 66 #[.pointer (some ⟨b, 0, none⟩), .slice p n c] w fun e w' => ∃ r : Bool, e = .returned (.bool r) ∧ (r = decide (∀ t ∈ ts, rightT F.fr F.se t) ∧ Chg [] w w') := by
 refine ok_flow_Flow_right _ _ _ _ _ _ ?_
 unfold V_flow_Flow_right
 refine ⟨fun s w' => ∃ j : Nat, s.2 = (j : Int) ∧ j ≤ n ∧ (∀ t ∈ ts.take j, rightT F.fr F.se t) ∧ Chg [] w w', fun s _ => (n - s.2).toNat, ⟨0, rfl, by omega, by simp, Chg.refl _ _⟩, ?_⟩
 rintro ⟨s1, s2⟩ w1 ⟨j, rfl, hj, hall, c1⟩
 refine ⟨fun hlt => ?_, fun hge => ?_⟩
 ·have hlt' : j < n := by simpa using hlt
  obtain ⟨t, hj'⟩ := get_of (l := ts) (j := j) (by rw [hp.length]; exact hlt')
  have hmem : t ∈ ts := List.mem_of_getElem? hj'
  obtain ⟨k1, k2, a, q, qn, qc, rfl, ha, hc, hps⟩ := (hp.chg c1 (by simp)).each j _ hj'
  refine ⟨a, rfl, by simp only []; omega, by simp only []; omega, t.1.1, t.1.2, q, qn, qc, by simpa using hc, ?_⟩
  refine v_box (by rfl) (by rfl) fun b1 w3 e3 h3 c3 => ?_
  have c03 := c1.trans0 c3
  refine ⟨t.1.1, t.1.2, ⟨by rw [add_at, cell_of h3]; rfl, by rw [add_at, cell_of h3]; rfl, trivial⟩, ?_⟩
  have hno : ¬ (∀ t ∈ ts, rightT F.fr F.se t) → decide (∀ t ∈ ts, rightT F.fr F.se t) = false := fun h => decide_eq_false h
  refine ⟨fun b2 w4 => b2 = decide (¬ (t.1 = (0, 0) ∨ mayP F.fr F.se t.1)) ∧ Chg [] w w4 ∧ Chg [] w3 w4, ?_, fun hne => ?_, fun he => ?_⟩
  rotate_left
  ·have hne' : t.1 ≠ (0, 0) := by
    intro e; rw [e] at hne; simp at hne
   refine ⟨t.1.1, t.1.2, ⟨by rw [add_at, cell_of h3]; rfl, by rw [add_at, cell_of h3]; rfl, trivial⟩, ?_⟩
   refine (flow_may (h.chg c03 (by simp)) _ _).mono ?_
   rintro _ w5 ⟨_, rfl, rfl, c5⟩
   refine ⟨_, rfl, ?_, c03.trans0 c5, c5⟩
   rw [← decide_not]
   exact decide_eq_decide.2 ⟨fun h h' => h'.elim hne' h, fun h h' => h (.inr h')⟩
  ·have he' : t.1 = (0, 0) := by
    have : t.1.1 = 0 ∧ t.1.2 = 0 := by simpa using he
    exact Prod.ext this.1 this.2
   exact ⟨by simp [he'], c03, Chg.refl _ _⟩
  rintro b2 w4 ⟨rfl, c04, c34⟩
  refine ⟨fun hb => ?_, fun hb => ?_⟩
  ·rw [decide_eq_true_eq] at hb
   exact ⟨(decide_eq_false (fun h => hb (h t hmem).1)).symm, c04⟩
  rw [decide_eq_false_iff_not] at hb
  have hto : t.1 = (0, 0) ∨ mayP F.fr F.se t.1 := Classical.byContradiction hb
  refine ⟨q, qn, qc, by rw [cell_of (c34.obj (by simp) h3)]; rfl, ?_⟩
  have hps4 := (hps.chg c3 (by simp)).chg c34 (by simp)
  have hqn : qn ≤ 9223372036854775807 := by rw [← hps.length]; exact hin t hmem
  refine ⟨fun s w' => ∃ i : Nat, s.2 = (i : Int) ∧ i ≤ qn ∧ (∀ x ∈ t.2.take i, mayP F.fr F.se x) ∧ Chg [] w w' ∧ Chg [] w4 w', fun s _ => (qn - s.2).toNat, ⟨0, rfl, by omega, by simp, c04, Chg.refl _ _⟩, ?_⟩
  rintro ⟨u1, u2⟩ w6 ⟨i, rfl, hi, hsome, c06, c46⟩
  refine ⟨fun hlt2 => ?_, fun hge2 => ?_⟩
  ·have hlt2' : i < qn := by simpa using hlt2
   obtain ⟨y, hi'⟩ := get_of (l := t.2) (j := i) (by rw [hps.length]; exact hlt2')
   have hmem2 : y ∈ t.2 := List.mem_of_getElem? hi'
   obtain ⟨k3, k4, a2, rfl, _, hc2⟩ := (hps4.chg c46 (by simp)).each i _ hi'
   refine ⟨a2, rfl, by simp only []; omega, by simp only []; omega, _, _, by simpa using hc2, ?_⟩
   refine v_box (by rfl) (by rfl) fun b3 w8 e8 h8 c8 => ?_
   refine ⟨_, _, cellsAt_of h8, ?_⟩
   have c08 := c06.trans0 c8
   refine (flow_may (h.chg c08 (by simp)) _ _).mono ?_
   rintro _ w9 ⟨_, rfl, rfl, c9⟩
   refine ⟨_, rfl, fun hb => ?_, fun hb => ?_⟩
   ·have hb' : ¬ mayP F.fr F.se y := by simpa using hb
    exact ⟨(decide_eq_false (fun h => hb' ((h t hmem).2 _ hmem2))).symm, c08.trans0 c9⟩
   ·have hb' : mayP F.fr F.se y := by simpa using hb
    simp only []
    rw [wr (by omega) (by omega)]
    refine ⟨⟨i + 1, by omega, by omega, ?_, c08.trans0 c9, (c46.trans0 c8).trans0 c9⟩, by omega⟩
    rw [take_snoc hi']
    intro x hx
    rcases List.mem_append.1 hx with hx | hx
    ·exact hsome x hx
    ·simp at hx; rw [hx]; exact hb'
  ·have hge2' : ¬ i < qn := by simpa using hge2
   simp only []
   rw [wr (by omega) (by omega)]
   refine ⟨⟨j + 1, by omega, by omega, ?_, c06⟩, by omega⟩
   rw [take_snoc hj']
   intro x hx
   rcases List.mem_append.1 hx with hx | hx
   ·exact hall x hx
   ·simp at hx; rw [hx]
    rw [List.take_of_length_le (by rw [hps.length]; omega)] at hsome
    exact ⟨hto, hsome⟩
 ·have hge' : ¬ j < n := by simpa using hge
  rw [List.take_of_length_le (by rw [hp.length]; omega)] at hall
  exact ⟨(decide_eq_true hall).symm, c1⟩
def decidesP (g : Int × Int → Int) (ts : List Tch) : Int := ts.foldl (fun s t => if t.1 = (0, 0) then bits .or .u32 s (joinP g t.2) else s) 0
theorem decidesP_snoc (g : Int × Int → Int) (ts : List Tch) (t : Tch) : decidesP g (ts ++ [t]) = if t.1 = (0, 0) then bits .or .u32 (decidesP g ts) (joinP g t.2) else decidesP g ts := by simp [decidesP]
theorem flow_decides {w : World} {b : Nat} {F : Fl} {fp : List Nat} (h : FlowAt w b F fp) {S : Nat → Prop} {p : Option Addr} {n c : Nat} {ts : List Tch} (hp : TouchesAt w S p n ts) (hn : n ≤ 9223372036854775807) (hin : ∀ t ∈ ts, t.2.length ≤ 9223372036854775807) :
  Calls Tryz.prog 38 #[.pointer (some ⟨b, 0, none⟩), .slice p n c] w fun e w' => ∃ (r1 : Int) (r2 : Int), e = .returned (.tuple #[.int .u32 r1, .int .i64 r2]) ∧
   (Chg [] w w' ∧ if ∀ t ∈ ts, rightT F.fr F.se t then r1 = decidesP F.g ts ∧ r2 = 0 else r1 = 0 ∧ r2 = 2) := by
 refine ok_flow_Flow_Decides _ _ _ _ _ _ ?_
 unfold V_flow_Flow_Decides
 refine (flow_none h).mono ?_
 rintro _ w1 ⟨_, rfl, rfl, hw⟩
 subst w1
 refine ⟨_, rfl, fun h => by simp at h, fun _ => ?_⟩
 refine (flow_right (c := c) h hp hn hin).mono ?_
 rintro _ w2 ⟨_, rfl, rfl, c2⟩
 refine ⟨_, rfl, fun hb => ?_, fun hb => ?_⟩
 ·have hb' : ¬ ∀ t ∈ ts, rightT F.fr F.se t := by simpa using hb
  exact ⟨c2, by rw [if_neg hb']; exact ⟨rfl, rfl⟩⟩
 have hb' : ∀ t ∈ ts, rightT F.fr F.se t := by simpa using hb
 refine ⟨fun s w' => ∃ j : Nat, s.2 = (j : Int) ∧ j ≤ n ∧ s.1 = decidesP F.g (ts.take j) ∧ Chg [] w w', fun s _ => (n - s.2).toNat, ⟨0, rfl, by omega, rfl, c2⟩, ?_⟩
 rintro ⟨s1, s2⟩ w3 ⟨j, rfl, hj, rfl, c3⟩
 refine ⟨fun hlt => ?_, fun hge => ?_⟩
 ·have hlt' : j < n := by simpa using hlt
  obtain ⟨t, hj'⟩ := get_of (l := ts) (j := j) (by rw [hp.length]; exact hlt')
  have hmem : t ∈ ts := List.mem_of_getElem? hj'
  obtain ⟨k1, k2, a, q, qn, qc, rfl, ha, hc, hps⟩ := (hp.chg c3 (by simp)).each j _ hj'
  refine ⟨fun s w' => s = decidesP F.g (ts.take (j + 1)) ∧ Chg [] w w', ?_, ?_⟩
  ·rintro s w4 ⟨rfl, c4⟩
   simp only []
   rw [wr (by omega) (by omega)]
   exact ⟨⟨j + 1, by omega, by omega, rfl, c4⟩, by omega⟩
  refine ⟨a, rfl, by simp only []; omega, by simp only []; omega, t.1.1, t.1.2, q, qn, qc, by simpa using hc, ?_⟩
  refine v_box (by rfl) (by rfl) fun b1 w6 e6 h6 c6 => ?_
  have c06 := c3.trans0 c6
  refine ⟨t.1.1, t.1.2, ⟨by rw [add_at, cell_of h6]; rfl, by rw [add_at, cell_of h6]; rfl, trivial⟩, fun he => ?_, fun hne => ?_⟩
  ·have he' : t.1 = (0, 0) := by
    have : t.1.1 = 0 ∧ t.1.2 = 0 := by simpa using he
    exact Prod.ext this.1 this.2
   refine ⟨q, qn, qc, by rw [cell_of h6]; rfl, ?_⟩
   refine (flow_together (c := qc) (h.chg c06 (by simp)) (hps.chg c6 (by simp)) (by rw [← hps.length]; exact hin t hmem)).mono ?_
   rintro _ w7 ⟨_, rfl, rfl, c7⟩
   refine ⟨_, rfl, ?_, c06.trans0 c7⟩
   rw [take_snoc hj', decidesP_snoc, if_pos he']
  ·have hne' : t.1 ≠ (0, 0) := by
    intro e; rw [e] at hne; simp at hne
   refine ⟨?_, c06⟩
   rw [take_snoc hj', decidesP_snoc, if_neg hne']
 ·have hge' : ¬ j < n := by simpa using hge
  refine ⟨c3, ?_⟩
  rw [if_pos hb', List.take_of_length_le (by rw [hp.length]; omega)]
  exact ⟨rfl, rfl⟩
end Go.Proofs.YtfcfkhbkkfpehaaGreat
end
section
/- The document's flows: New, May, Keep, Put, Mark. -/
namespace Go.Proofs.YtfcfkhbkkfpehaaGreat
open Go Go.RowKit Go.X
/-! ### Rows of equal elements -/
theorem flat_get {α : Type} (enc : α → List Value) {size : Nat} (hs : ∀ x, (enc x).length = size) : ∀ (l : List α) (j : Nat) (x : α), l[j]? = some x → ∀ k, k < size → (l.flatMap enc)[j * size + k]? = (enc x)[k]?
 | [], _, _, h, _, _ => by simp at h
 | a :: l, 0, x, h, k, hk => by
  simp at h; subst h
  simp only [List.flatMap_cons, Nat.zero_mul, Nat.zero_add]
  rw [List.getElem?_append_left (by rw [hs]; exact hk)]
 | a :: l, j + 1, x, h, k, hk => by
  simp only [List.flatMap_cons]
  rw [List.getElem?_append_right (by rw [hs, Nat.add_mul]; omega), hs]
  have : (j + 1) * size + k - size = j * size + k := by rw [Nat.add_mul]; omega
  rw [this]
  exact flat_get enc hs l j x (by simpa using h) k hk
theorem cellsAt_iff {w : World} {q : Addr} : ∀ {i : Nat} {vs : List Value}, CellsAt w q i vs ↔ ∀ k v, vs[k]? = some v → w.cell? (q.add (i + k)) = some v
 | i, [] => by simp [CellsAt]
 | i, v :: vs => by
  simp only [CellsAt]
  rw [cellsAt_iff (i := i + 1) (vs := vs)]
  constructor
  ·rintro ⟨h1, h2⟩ k u hk
   cases k with
   | zero => simp at hk; subst hk; simpa using h1
   | succ k => simp at hk; have := h2 k u hk; rw [show i + (k + 1) = i + 1 + k by omega]; exact this
  ·intro h
   exact ⟨by simpa using h 0 v rfl, fun k u hk => by have := h (k + 1) u (by simpa using hk); rw [show i + 1 + k = i + (k + 1) by omega]; exact this⟩
theorem RowAt.elem {w : World} {e : TypeId} {size n c : Nat} {p : Option Addr} {α : Type} {enc : α → List Value} {l : List α} (hs : ∀ x, (enc x).length = size) (h : RowAt w e size p n c (l.flatMap enc)) {j : Nat} {x : α} (hj : l[j]? = some x) (h0 : 0 < size) :
  ∃ a, p = some a ∧ CellsAt w (a.add (j * size)) 0 (enc x) := by
 have hget := flat_get enc hs l j x hj
 have hex : ∃ a, p = some a := by
  have h1 := hget 0 h0
  obtain ⟨v, hv⟩ : ∃ v, (enc x)[0]? = some v := ⟨_, List.getElem?_eq_getElem (by rw [hs]; exact h0)⟩
  rw [hv] at h1
  obtain ⟨a, ha, _⟩ := RowAt.at h h1
  exact ⟨a, ha⟩
 obtain ⟨a, rfl⟩ := hex
 refine ⟨a, rfl, cellsAt_iff.2 fun k v hk => ?_⟩
 have hk' : k < size := by rw [← hs x]; exact (List.getElem?_eq_some_iff.1 hk).1
 have h1 := hget k hk'
 rw [hk] at h1
 obtain ⟨a', ha', hc⟩ := RowAt.at h h1
 cases ha'
 have hadd : (a.add (j * size)).add (0 + k) = a.add (j * size + k) := by
  unfold Addr.add; split <;> split <;> simp_all [Nat.add_assoc]
  all_goals omega
 rw [hadd]; exact hc
theorem flat_length {α : Type} {enc : α → List Value} {size : Nat} (hs : ∀ x, (enc x).length = size) (l : List α) : (l.flatMap enc).length = l.length * size := by
 induction l with
 | nil => simp
 | cons a l ih => simp only [List.flatMap_cons, List.length_append, hs, ih, List.length_cons]; rw [Nat.add_mul]; omega
abbrev Pr := (Int × Int) × Int
def encPr (x : Pr) : List Value := [.int .i64 x.1.1, .int .i64 x.1.2, .int .u32 x.2]
structure Rf where
 fr : Int
 se : Int
 most : Int
 sets : List Int
 pairs : List Pr
structure RefAt (w : World) (R : Rf) (p4 : Option Addr) (n4 c4 : Nat) (p5 : Option Addr) (n5 c5 : Nat) : Prop where
 sets : RowAt w 22 1 p4 n4 c4 (R.sets.map (.int .u32))
 pairs : RowAt w 131 3 p5 n5 c5 (R.pairs.flatMap encPr)
theorem RefAt.chg {w w' : World} {R : Rf} {p4 p5 : Option Addr} {n4 c4 n5 c5 : Nat} {f : List Nat} (h : RefAt w R p4 n4 c4 p5 n5 c5) (hc : Chg f w w') (h4 : ∀ i ∈ rowB p4, i ∉ f) (h5 : ∀ i ∈ rowB p5, i ∉ f) : RefAt w' R p4 n4 c4 p5 n5 c5 :=
 ⟨h.sets.chg hc h4, h.pairs.chg hc h5⟩
theorem RefAt.n4 {w : World} {R : Rf} {p4 p5 : Option Addr} {n4 c4 n5 c5 : Nat} (h : RefAt w R p4 n4 c4 p5 n5 c5) : n4 = R.sets.length := by have := h.sets.length; simp at this; omega
theorem RefAt.n5 {w : World} {R : Rf} {p4 p5 : Option Addr} {n4 c4 n5 c5 : Nat} (h : RefAt w R p4 n4 c4 p5 n5 c5) : n5 = R.pairs.length := by
 have := h.pairs.length; rw [flat_length (size := 3) (fun _ => rfl)] at this; omega
theorem ref_may {w : World} (fr se f3 : Int) (p4 p5 : Option Addr) (n4 c4 n5 c5 : Nat) (p1 p2 : Int) (hw : i64s (64 * fr) ∧ i64s (64 * se)) :
  Calls Tryz.prog 49 #[.agg #[.int .i64 fr, .int .i64 se, .int .i64 f3, .slice p4 n4 c4, .slice p5 n5 c5], .agg #[.int .i64 p1, .int .i64 p2]] w fun e w' => ∃ r : Bool, e = .returned (.bool r) ∧ (r = decide (mayP fr se (p1, p2)) ∧ Chg [] w w') := by
 obtain ⟨⟨hw1, hw2⟩, hw3, hw4⟩ := hw
 refine ok_pomanderref12_Flow_May _ _ _ _ _ _ _ _ _ _ _ _ _ ?_
 unfold V_pomanderref12_Flow_May
 refine v_alloc fun b1 w1 e1 h1 c1 => ?_
 refine v_alloc fun b2 w2 e2 h2 c2 => ?_
 have h12 := c2.obj (by simp) h1
 have c02 := c1.trans0 c2
 refine ⟨p1, by rw [cell_of h2]; rfl, fun s w3 => w3 = w2 ∧ 1 ≤ p1 ∧ p1 ≤ 17 ∧ s.2 = boundP fr se p1, ?_, fun hb => ?_, fun hb => ?_⟩
 ·rintro ⟨s1, s2⟩ w3 ⟨hw, k1, k2, rfl⟩
  subst w3
  refine ⟨p2, by rw [cell_of h2]; rfl, _, fun b w h => h, fun hb => ⟨p2, by rw [cell_of h2]; rfl, ?_, c02⟩, fun hb => ⟨?_, c02⟩⟩
  ·have : 0 ≤ p2 := by simpa using hb
   exact decide_eq_decide.2 (by unfold mayP; simp only []; omega)
  ·have : ¬ 0 ≤ p2 := by simpa using hb
   symm; rw [decide_eq_false_iff_not]; unfold mayP; simp only []; omega
 ·have : p1 < 1 ∨ 17 < p1 := by simpa using hb
  refine ⟨?_, c02⟩
  symm; rw [decide_eq_false_iff_not]; unfold mayP; simp only []; omega
 have hk : 1 ≤ p1 ∧ p1 ≤ 17 := by simpa using hb
 have hbd : ∀ v, v = boundP fr se p1 → (w2 = w2 ∧ 1 ≤ p1 ∧ p1 ≤ 17 ∧ v = boundP fr se p1) := fun v hv => ⟨rfl, hk.1, hk.2, hv⟩
 refine ⟨fun e => hbd _ ?_, fun n1 => ⟨fun e => ?_, fun n10 => ⟨fun e => hbd _ ?_, fun n11 => ⟨fun e => ?_, fun n12 => ⟨fun e => hbd _ ?_, fun n13 => ⟨fun e => hbd _ ?_, fun n17 => hbd _ ?_⟩⟩⟩⟩⟩⟩
 ·have : p1 = 1 := by simpa using e
  unfold boundP; rw [if_pos this]
 ·have : p1 = 10 := by simpa using e
  refine ⟨fr, by rw [cell_of h12]; rfl, hbd _ ?_⟩
  simp only []
  rw [wr hw1 hw2]; unfold boundP; rw [if_neg (by omega), if_pos this]
 ·have : p1 = 11 := by simpa using e
  unfold boundP; rw [if_neg (by omega), if_neg (by omega), if_pos this]
 ·have : p1 = 12 := by simpa using e
  refine ⟨se, by rw [cell_of h12]; rfl, hbd _ ?_⟩
  simp only []
  rw [wr hw3 hw4]; unfold boundP; rw [if_neg (by omega), if_neg (by omega), if_neg (by omega), if_pos this]
 ·have : 13 ≤ p1 ∧ p1 ≤ 16 := by simpa using e
  unfold boundP; rw [if_neg (by omega), if_neg (by omega), if_neg (by omega), if_neg (by omega), if_neg (by omega), if_pos (by omega)]
 ·have : p1 = 17 := by simpa using e
  unfold boundP; rw [if_neg (by omega), if_neg (by omega), if_neg (by omega), if_neg (by omega), if_pos this]
 ·simp at n1 n10 n11 n12 n13 n17
  unfold boundP; rw [if_neg n1, if_neg n10, if_neg n11, if_neg n12, if_neg n17, if_neg (by omega)]
theorem ref_has {w : World} {t1 : Int} {p4 : Option Addr} {n4 c4 : Nat} {sets : List Int} (h : RowAt w 22 1 p4 n4 c4 (sets.map (.int .u32))) (hn : n4 ≤ 1000000000) (set : Int) :
  Calls Tryz.prog 98 #[.agg #[.int .i64 t1, .slice p4 n4 c4], .int .u32 set] w fun e w' => ∃ r : Int, e = .returned (.int .i64 r) ∧ ((if set ∈ sets then 0 ≤ r ∧ r < n4 else r = -1) ∧ Chg [] w w') := by
 have hl : n4 = sets.length := by have := h.length; simp at this; omega
 refine ok_pomanderref02_Table_Has _ _ _ _ _ _ _ ?_
 unfold V_pomanderref02_Table_Has
 refine v_alloc fun b1 w1 e1 h1 c1 => ?_
 refine ⟨fun s w' => ∃ j : Nat, s.2 = (j : Int) ∧ j ≤ n4 ∧ (∀ x ∈ sets.take j, x ≠ set) ∧ w' = w1, fun s _ => (n4 - s.2).toNat, ⟨0, rfl, by omega, by intro x hx; simp at hx, rfl⟩, ?_⟩
 rintro ⟨s1, s2⟩ w2 ⟨j, rfl, hj, hno, hw⟩
 subst w2
 refine ⟨p4, n4, c4, by rw [cell_of h1]; rfl, fun hlt => ?_, fun hge => ?_⟩
 ·have hlt' : j < n4 := by simpa using hlt
  obtain ⟨x, hx⟩ := get_of (l := sets) (j := j) (by omega)
  obtain ⟨a, rfl, hc⟩ := RowAt.at (h.chg c1 (by simp)) (j := j) (u := .int .u32 x) (by rw [List.getElem?_map, hx]; rfl)
  refine ⟨_, n4, c4, by rw [cell_of h1]; rfl, a, rfl, by simp only []; omega, by simp only []; omega, x, by simpa using hc, fun he => ?_, fun hne => ?_⟩
  ·have he' : x = set := by simpa using he
   refine ⟨?_, c1⟩
   rw [if_pos (he' ▸ List.mem_of_getElem? hx)]
   simp only []; omega
  ·have hne' : x ≠ set := by simpa using hne
   simp only []
   rw [wr (by omega) (by omega)]
   refine ⟨⟨j + 1, by omega, by omega, ?_, trivial⟩, by omega⟩
   rw [take_snoc hx]
   intro y hy
   rcases List.mem_append.1 hy with hy | hy
   ·exact hno y hy
   ·simp at hy; rw [hy]; exact hne'
 ·have hge' : ¬ j < n4 := by simpa using hge
  rw [List.take_of_length_le (by omega)] at hno
  refine ⟨?_, c1⟩
  rw [if_neg (fun hm => hno set hm rfl)]
end Go.Proofs.YtfcfkhbkkfpehaaGreat
end
section
/- The document's flows: Keep, ahead, Put. -/
namespace Go.Proofs.YtfcfkhbkkfpehaaGreat
open Go Go.RowKit Go.X
theorem ref_keep {w : World} {most : Int} {p4 : Option Addr} {n4 cc : Nat} {sets : List Int} (h : RowAt w 22 1 p4 n4 cc (sets.map (.int .u32))) (hn : n4 ≤ 1000000) (hne : sets ≠ []) {set : Int} (hs0 : 0 ≤ set) :
  Calls Tryz.prog 75 #[.agg #[.int .i64 most, .slice p4 n4 cc], .int .u32 set] w fun e w' => ∃ (r1 : Int) (r2 : Option Addr) (r2n : Nat) (r2c : Nat) (r3 : Int) (r4 : Int), e = .returned (.tuple #[.agg #[.int .i64 r1, .slice r2 r2n r2c], .int .i64 r3, .int .i64 r4]) ∧
   (r1 = most ∧ r4 = keepE most sets set ∧ RowAt w' 22 1 r2 r2n r2c ((keepS most sets set).map (.int .u32)) ∧ Chg [] w w' ∧ ∀ i ∈ rowB r2, i ∈ rowB p4 ∨ w.heap.size ≤ i) := by
 have hl : n4 = sets.length := by have := h.length; simp at this; omega
 refine ok_pomanderref02_Table_Keep _ _ _ _ _ _ _ ?_
 unfold V_pomanderref02_Table_Keep
 refine v_alloc fun b1 w1 e1 h1 c1 => ?_
 refine v_alloc fun b2 w2 e2 h2 c2 => ?_
 have l1 : b1 < w1.heap.size := lt_of_heap h1
 have l2 : b2 < w2.heap.size := lt_of_heap h2
 have s1 := c1.size
 have s2 := c2.size
 have h12 := c2.obj (by simp) h1
 have c02 := c1.trans0 c2
 have hlt := h.lt
 refine ⟨fun hb => ?_, fun hb => ?_⟩
 ·have hb' : 65536 ≤ set := by simpa using hb
  refine ⟨most, p4, n4, cc, cellsAt_of h12, v_fill h2 (by rfl) (by rfl) fun w3 h3 c3 _ => ?_⟩
  have c03 : Chg [] w w3 := c02.trans c3 (fun i hi hlt => by simp at hi; omega)
  refine ⟨most, p4, n4, cc, cellsAt_of h3, rfl, by simp [keepE, hb'], ?_, c03, fun i hi => .inl hi⟩
  rw [show keepS most sets set = sets by simp [keepS, hb']]
  exact h.chg c03 (by simp)
 have hb' : ¬ 65536 ≤ set := by simpa using hb
 refine ⟨most, p4, n4, cc, cellsAt_of h12, ?_⟩
 refine (ref_has (h.chg c02 (by simp)) (by omega) set).mono ?_
 rintro _ w4 ⟨r7, rfl, hr, c4⟩
 have h14 := c4.obj (by simp) h12
 have h24 := c4.obj (by simp) h2
 have c04 := c02.trans0 c4
 refine ⟨_, rfl, fun hin => ?_, fun hnin => ?_⟩
 ·have hin' : 0 ≤ r7 := by simpa using hin
  have hm : set ∈ sets := Classical.byContradiction fun hm => by rw [if_neg hm] at hr; omega
  refine ⟨most, p4, n4, cc, cellsAt_of h14, v_fill h24 (by rfl) (by rfl) fun w3 h3 c3 _ => ?_⟩
  have c03 : Chg [] w w3 := c04.trans c3 (fun i hi hlt => by simp at hi; omega)
  refine ⟨most, p4, n4, cc, cellsAt_of h3, rfl, by simp [keepE, hb', hm], ?_, c03, fun i hi => .inl hi⟩
  rw [show keepS most sets set = sets by simp [keepS, hm]]
  exact h.chg c03 (by simp)
 have hnin' : ¬ 0 ≤ r7 := by simpa using hnin
 have hm : set ∉ sets := fun hm => by rw [if_pos hm] at hr; omega
 refine ⟨p4, n4, cc, by rw [cell_of h14]; rfl, most, by rw [cell_of h14]; rfl, fun hfull => ?_, fun hroom => ?_⟩
 ·have hfull' : most ≤ (n4 : Int) := by simpa using hfull
  refine ⟨most, p4, n4, cc, cellsAt_of h14, v_fill h24 (by rfl) (by rfl) fun w3 h3 c3 _ => ?_⟩
  have c03 : Chg [] w w3 := c04.trans c3 (fun i hi hlt => by simp at hi; omega)
  refine ⟨most, p4, n4, cc, cellsAt_of h3, rfl, by simp [keepE, hb', hm]; omega, ?_, c03, fun i hi => .inl hi⟩
  rw [show keepS most sets set = sets by simp [keepS]; intro h; omega]
  exact h.chg c03 (by simp)
 have hroom' : ¬ most ≤ (n4 : Int) := by simpa using hroom
 -- the row as the source of an append
 obtain ⟨x0, hx0⟩ := get_of (l := sets) (j := 0) (by cases sets with | nil => exact absurd rfl hne | cons a l => simp)
 obtain ⟨a, rfl, _⟩ := RowAt.at h (j := 0) (u := .int .u32 x0) (by rw [List.getElem?_map, hx0]; rfl)
 have h4 := h.chg c04 (by simp)
 refine ⟨some a, n4, cc, by rw [cell_of h14]; rfl, ?_⟩
 obtain ⟨p', c', w7, happ, hrow7, c7, hf7⟩ := (RowAt.nil (w := w4) (e := 22) (size := 1)).append (P := Tryz.prog) (t := 38) (ty := 38) (i := Tryz.t22) (z := .int .u32 0) (bytes := 4) (by kernel_rfl) (by kernel_rfl) (by kernel_rfl) (by kernel_rfl) (by kernel_rfl) rfl (by omega)
  (a := a) (m := n4) (mc := cc) (news := sets.map (.int .u32)) (by simpa using hl.symm) (fun j u hu => by
   obtain ⟨a', ha', hc'⟩ := RowAt.at h4 hu
   cases ha'; exact hc') (by simp [Value.oneCell']) (by simp only [maxLen]; omega) (by omega)
 rw [Nat.zero_add] at happ hrow7
 simp only [rowB, Option.toList_none, List.map_nil] at c7
 refine ⟨p', n4, c', w7, happ, ?_⟩
 refine v_alloc fun b3 w8 e3 h3 c8 => ?_
 obtain ⟨p'', c'', w9, happ2, hrow9, c9, hf9⟩ := (hrow7.chg c8 (by simp)).append (P := Tryz.prog) (t := 38) (ty := 38) (i := Tryz.t22) (z := .int .u32 0) (bytes := 4) (by kernel_rfl) (by kernel_rfl) (by kernel_rfl) (by kernel_rfl) (by kernel_rfl) rfl (by omega)
  (a := ⟨b3, 0, none⟩) (m := 1) (mc := 1) (news := [.int .u32 set]) rfl (fun i u hi => by
   cases i with
   | zero => simp at hi; subst hi; rw [add_at, cell_of h3]; rfl
   | succ i => simp at hi) (by simp [Value.oneCell']) (by simp only [maxLen]; omega) (by omega)
 refine ⟨p'', n4 + 1, c'', w9, happ2, ?_⟩
 have s4 := c4.size
 have s7 := c7.size
 have s8 := c8.size
 have s9 := c9.size
 have hf7' : ∀ i ∈ rowB p', w4.heap.size ≤ i := fun i hi => (hf7 i hi).resolve_left (by simp [rowB])
 have hf9' : ∀ i ∈ rowB p'', w4.heap.size ≤ i := fun i hi => by
  rcases hf9 i hi with h | h
  ·exact hf7' i h
  ·omega
 have c49 : Chg [] w4 w9 := (c7.trans0 c8).trans c9 (fun i hi hlt => by have := hf7' i hi; omega)
 have h19 := c49.obj (by simp) h14
 have h29 := c49.obj (by simp) h24
 have c09 := c04.trans0 c49
 refine v_set0 (v := .slice p'' (n4 + 1) c'') h19 (by simp) fun w10 h10 c10 hs10 => ?_
 refine v_drew fun w11 c11 => ?_
 have h11 : w11.heap[b1]? = some (.cells #[.int .i64 most, .slice p'' (n4 + 1) c''] 40 (0, 0)) := c11.obj (by simp) (by simpa using h10)
 have h211 : w11.heap[b2]? = some (.cells #[.int .i64 0, .slice none 0 0] 40 (0, 0)) := c11.obj (by simp) (c10.obj (by simp; omega) h29)
 refine ⟨most, p'', n4 + 1, c'', cellsAt_of h11, p'', n4 + 1, c'', by rw [cell_of h11]; rfl, v_fill h211 (by rfl) (by rfl) fun w12 h212 c1112 _ => ?_⟩
 have c012 : Chg [] w w11 := (c09.trans c10 (fun i hi hlt => by simp at hi; omega)).trans0 c11
 have c12 : Chg [] w w12 := c012.trans c1112 (fun i hi hlt => by simp at hi; omega)
 have h112 := c1112.obj (by simp; omega) h11
 refine ⟨⟨cellsAt_of h112, by rw [cell_of h112]; rfl, trivial⟩, most, p'', n4 + 1, c'', cellsAt_of h212, rfl, by simp [keepE, hb', hm]; omega, ?_, c12, fun i hi => .inr (by have := hf9' i hi; omega)⟩
 have hS : keepS most sets set = sets ++ [set] := by unfold keepS; rw [if_neg (fun h => h.elim hb' fun h => h.elim hm fun h => hroom' (by omega))]
 rw [hS, List.map_append]
 have := ((hrow9.chg c10 (fun i hi hmm => by simp at hmm; have := hf9' i hi; omega)).chg c11 (by simp)).chg c1112 (fun i hi hmm => by simp at hmm; have := hf9' i hi; omega)
 simpa using this
def aheadP (a b : Int × Int) : Prop := a.1 < b.1 ∨ a.1 = b.1 ∧ a.2 < b.2
instance (a b : Int × Int) : Decidable (aheadP a b) := by unfold aheadP; exact inferInstance
theorem ref_ahead {w : World} (a1 a2 b1 b2 : Int) :
  Calls Tryz.prog 99 #[.agg #[.int .i64 a1, .int .i64 a2], .agg #[.int .i64 b1, .int .i64 b2]] w fun e w' => ∃ r : Bool, e = .returned (.bool r) ∧ (r = decide (aheadP (a1, a2) (b1, b2)) ∧ Chg [] w w') := by
 refine ok_pomanderref12_ahead _ _ _ _ _ _ ?_
 unfold V_pomanderref12_ahead
 refine v_alloc fun x1 w1 e1 h1 c1 => ?_
 refine v_alloc fun x2 w2 e2 h2 c2 => ?_
 have h12 := c2.obj (by simp) h1
 have c02 := c1.trans0 c2
 refine ⟨a1, by rw [cell_of h12]; rfl, b1, by rw [cell_of h2]; rfl, _, fun b w h => h, fun hb => ?_, fun hb => ?_⟩
 ·have hb' : ¬ a1 < b1 := by simpa using hb
  refine ⟨a1, by rw [cell_of h12]; rfl, b1, by rw [cell_of h2]; rfl, _, fun b w h => h, fun he => ?_, fun he => ?_⟩
  ·have he' : a1 = b1 := by simpa using he
   refine ⟨a2, by rw [cell_of h12]; rfl, b2, by rw [cell_of h2]; rfl, ?_, c02⟩
   exact decide_eq_decide.2 (by unfold aheadP; simp only []; omega)
  ·have he' : a1 ≠ b1 := by simpa using he
   refine ⟨?_, c02⟩
   symm; rw [decide_eq_false_iff_not]; unfold aheadP; simp only []; omega
 ·have hb' : a1 < b1 := by simpa using hb
  refine ⟨?_, c02⟩
  symm; rw [decide_eq_true_eq]; exact .inl hb'
def stepPut (p : Int × Int) (set : Int) (s : List Pr × Bool) (x : Pr) : List Pr × Bool :=
 let s1 := if !s.2 && decide (aheadP p x.1) then (s.1 ++ [(p, set)], true) else s
 let o2 := if x.1 = p then s1.1 else s1.1 ++ [x]
 if x.1 = p ∧ s1.2 = false then (o2 ++ [(p, set)], true) else (o2, s1.2)
def foldPut (p : Int × Int) (set : Int) (l : List Pr) : List Pr × Bool := l.foldl (stepPut p set) ([], set == 0)
def refPut (p : Int × Int) (set : Int) (l : List Pr) : List Pr := let s := foldPut p set l; if s.2 then s.1 else s.1 ++ [(p, set)]
theorem foldPut_snoc (p : Int × Int) (set : Int) (l : List Pr) (x : Pr) : foldPut p set (l ++ [x]) = stepPut p set (foldPut p set l) x := by simp [foldPut]
theorem stepPut_length (p : Int × Int) (set : Int) (s : List Pr × Bool) (x : Pr) : (stepPut p set s x).1.length ≤ s.1.length + 2 := by
 unfold stepPut
 simp only []
 split <;> split <;> split <;> simp_all
theorem foldPut_length (p : Int × Int) (set : Int) (l : List Pr) : (foldPut p set l).1.length ≤ 2 * l.length := by
 unfold foldPut
 have : ∀ (l : List Pr) (s : List Pr × Bool), (l.foldl (stepPut p set) s).1.length ≤ s.1.length + 2 * l.length := by
  intro l
  induction l with
  | nil => intro s; simp
  | cons x l ih => intro s; simp only [List.foldl_cons, List.length_cons]; have := ih (stepPut p set s x); have := stepPut_length p set s x; omega
 have := this l ([], set == 0)
 simpa using this
end Go.Proofs.YtfcfkhbkkfpehaaGreat
end
section
/- The document's flows: Put. -/
namespace Go.Proofs.YtfcfkhbkkfpehaaGreat
open Go Go.RowKit Go.X
theorem pair_beq (a b : Int × Int) : ((a.1 == b.1) && (a.2 == b.2)) = decide (a = b) := by
 obtain ⟨a1, a2⟩ := a
 obtain ⟨b1, b2⟩ := b
 apply Bool.eq_iff_iff.2
 simp
theorem append_pr {w : World} {p : Option Addr} {n c : Nat} {out : List Pr} (h : RowAt w 131 3 p n c (out.flatMap encPr)) {b : Nat} {x : Pr} (hb : w.heap[b]? = some (.cells (encPr x).toArray 131 (0, 0))) (hn : n ≤ 1000000000) :
  ∃ p' c' w', (Builtin.append_ #[41, 41] 41 #[.slice p n c, .slice (some (⟨b, 0, none⟩ : Addr)) 1 1]).run Tryz.prog w = .ok (.slice p' (n + 1) c') w' ∧ RowAt w' 131 3 p' (n + 1) c' ((out ++ [x]).flatMap encPr) ∧ Chg (rowB p) w w' ∧
   (∀ i ∈ rowB p', i ∈ rowB p ∨ w.heap.size ≤ i) := by
 obtain ⟨p', c', w', h1, h2, h3, h4⟩ := h.append (P := Tryz.prog) (t := 41) (ty := 41) (i := Tryz.t131) (z := .agg #[.int .i64 0, .int .i64 0, .int .u32 0]) (bytes := 24) (by kernel_rfl) (by kernel_rfl) (by kernel_rfl) (by kernel_rfl) (by kernel_rfl) rfl (by omega)
  (a := ⟨b, 0, none⟩) (m := 1) (mc := 1) (news := encPr x) rfl (fun i u hi => by
   rw [add_at, cell_of hb, Nat.zero_add]; simpa using hi) (by simp [encPr, Value.oneCell']) (by simp only [maxLen]; omega) (by omega)
 exact ⟨p', c', w', h1, by simpa [List.flatMap_append] using h2, h3, h4⟩
theorem ref_put {w : World} {R : Rf} {p4 p5 : Option Addr} {n4 c4 n5 c5 : Nat} (h : RefAt w R p4 n4 c4 p5 n5 c5) (hn : n5 ≤ 100000000) (p1 p2 set : Int) :
  Calls Tryz.prog 76 #[.agg #[.int .i64 R.fr, .int .i64 R.se, .int .i64 R.most, .slice p4 n4 c4, .slice p5 n5 c5], .agg #[.int .i64 p1, .int .i64 p2], .int .u32 set] w fun e w' =>
   ∃ (r1 : Int) (r2 : Int) (r3 : Int) (r4 : Option Addr) (r4n : Nat) (r4c : Nat) (r5 : Option Addr) (r5n : Nat) (r5c : Nat), e = .returned (.agg #[.int .i64 r1, .int .i64 r2, .int .i64 r3, .slice r4 r4n r4c, .slice r5 r5n r5c]) ∧
   (r1 = R.fr ∧ r2 = R.se ∧ r3 = R.most ∧ r4 = p4 ∧ r4n = n4 ∧ r4c = c4 ∧ RefAt w' { R with pairs := refPut (p1, p2) set R.pairs } r4 r4n r4c r5 r5n r5c ∧ Chg [] w w' ∧ ∀ i ∈ rowB r5, w.heap.size ≤ i) := by
 have hl := h.n5
 have hlt4 := h.sets.lt
 have hlt5 := h.pairs.lt
 refine ok_pomanderref12_Flow_Put _ _ _ _ _ _ _ _ _ _ _ _ _ _ ?_
 unfold V_pomanderref12_Flow_Put
 refine v_alloc fun b1 w1 e1 h1 c1 => ?_
 refine v_alloc fun b2 w2 e2 h2 c2 => ?_
 refine v_alloc fun b3 w3 e3 h3 c3 => ?_
 have l1 : b1 < w1.heap.size := lt_of_heap h1
 have l2 : b2 < w2.heap.size := lt_of_heap h2
 have l3 : b3 < w3.heap.size := lt_of_heap h3
 have s1 := c1.size
 have s2 := c2.size
 have s3 := c3.size
 have c03 := (c1.trans0 c2).trans0 c3
 have h13 := (c2.trans0 c3).obj (by simp) h1
 have h23 := c3.obj (by simp) h2
 generalize hp : ((p1, p2) : Int × Int) = p
 have hp1 : p.1 = p1 := by rw [← hp]
 have hp2 : p.2 = p2 := by rw [← hp]
 -- what goes on being so
 let Base (w' : World) (o : Option Addr) : Prop := Chg [] w w' ∧ w'.heap[b1]? = some (.cells #[.int .i64 R.fr, .int .i64 R.se, .int .i64 R.most, .slice p4 n4 c4, .slice p5 n5 c5] 43 (0, 0)) ∧
  w'.heap[b2]? = some (.cells #[.int .i64 p1, .int .i64 p2] 62 (0, 0)) ∧ w'.heap[b3]? = some (.cells #[.int .i64 0, .int .i64 0, .int .i64 0, .slice none 0 0, .slice none 0 0] 43 (0, 0)) ∧ w3.heap.size ≤ w'.heap.size ∧ ∀ i ∈ rowB o, w3.heap.size ≤ i
 have base_step : ∀ {w' w'' : World} {o o' : Option Addr}, Base w' o → Chg (rowB o) w' w'' → (∀ i ∈ rowB o', i ∈ rowB o ∨ w'.heap.size ≤ i) → Base w'' o' := by
  rintro w' w'' o o' ⟨k1, k2, k3, k4, k5, k6⟩ c f
  refine ⟨k1.trans c (fun i hi hlt => by have := k6 i hi; omega), c.obj (fun hm => by have := k6 _ hm; omega) k2, c.obj (fun hm => by have := k6 _ hm; omega) k3, c.obj (fun hm => by have := k6 _ hm; omega) k4, Nat.le_trans k5 c.size, fun i hi => ?_⟩
  rcases f i hi with h | h
  ·exact k6 i h
  ·omega
 have base_nil : ∀ {w' w'' : World} {o : Option Addr}, Base w' o → Chg [] w' w'' → Base w'' o := fun hb c => base_step hb c.nil (fun i hi => .inl hi)
 have fold_len : ∀ j, (foldPut p set (R.pairs.take j)).1.length ≤ 2 * n5 := fun j => by
  have := foldPut_length p set (R.pairs.take j)
  have := List.length_take_le j R.pairs
  have := List.length_take_le' j R.pairs
  omega
 refine ⟨fun s w' => ∃ j : Nat, s.2.2.2.2 = (j : Int) ∧ j ≤ n5 ∧ s.2.2.2.1 = (foldPut p set (R.pairs.take j)).2 ∧ RowAt w' 131 3 s.1 s.2.1 s.2.2.1 ((foldPut p set (R.pairs.take j)).1.flatMap encPr) ∧ Base w' s.1,
  fun s _ => (n5 - s.2.2.2.2).toNat, ⟨0, rfl, by omega, rfl, RowAt.nil, c03, h13, h23, h3, Nat.le_refl _, by simp [rowB]⟩, ?_⟩
 rintro ⟨o, on, oc, put, i⟩ w4 ⟨j, hij, hj, hput, hrow, hbase⟩
 simp only [] at hij hput hrow hbase
 subst hij
 obtain ⟨c04, h14, h24, h34, s4, ho⟩ := id hbase
 have hon : on = (foldPut p set (R.pairs.take j)).1.length := by
  have := hrow.length; rw [flat_length (size := 3) (fun _ => rfl)] at this; omega
 have hlen := fold_len j
 refine ⟨p5, n5, c5, by rw [cell_of h14]; rfl, fun hlt => ?_, fun hge => ?_⟩
 ·have hlt' : j < n5 := by simpa using hlt
  obtain ⟨x, hx⟩ := get_of (l := R.pairs) (j := j) (by omega)
  have hsnoc : foldPut p set (R.pairs.take (j + 1)) = stepPut p set (foldPut p set (R.pairs.take j)) x := by rw [take_snoc hx, foldPut_snoc]
  obtain ⟨a, rfl, hc⟩ := RowAt.elem (size := 3) (fun _ => rfl) (h.pairs.chg c04 (by simp)) hx (by omega)
  refine ⟨fun s w' => s.2.2.2 = (foldPut p set (R.pairs.take (j + 1))).2 ∧ RowAt w' 131 3 s.1 s.2.1 s.2.2.1 ((foldPut p set (R.pairs.take (j + 1))).1.flatMap encPr) ∧ Base w' s.1, ?_, ?_⟩
  ·rintro ⟨o', on', oc', put'⟩ w5 ⟨k1, k2, k3⟩
   simp only [] at k1 k2 k3 ⊢
   rw [wr (by omega) (by omega)]
   exact ⟨⟨j + 1, by omega, by omega, k1, k2, k3⟩, by omega⟩
  refine ⟨some a, n5, c5, by rw [cell_of h14]; rfl, a, rfl, by simp only []; omega, by simp only []; omega, x.1.1, x.1.2, x.2, by simpa [encPr] using hc, ?_⟩
  refine v_box (by rfl) (by rfl) fun b4 w7 e7 h7 c7 => ?_
  have hx1 : ((x.1.1, x.1.2) : Int × Int) = x.1 := rfl
  have hrow7 := hrow.chg c7 (by simp)
  have hbase7 := base_nil hbase c7
  have hrlt := hrow.lt
  generalize hs0 : foldPut p set (R.pairs.take j) = s0 at hput hrow hsnoc hrow7 hon hlen
  rw [hsnoc]
  obtain ⟨out, pu⟩ := s0
  simp only [] at hput hrow hrow7 hon hlen
  subst hput
  have ho4 : ∀ i ∈ rowB o, i ≠ b4 := fun i hi e => by have := hrlt i hi; omega
  -- the state behind the first choice
  let s1 : List Pr × Bool := if !put && decide (aheadP p x.1) then (out ++ [(p, set)], true) else (out, put)
  have hs1 : s1 = if !put && decide (aheadP p x.1) then (out ++ [(p, set)], true) else (out, put) := rfl
  have hl1 : s1.1.length ≤ on + 1 := by rw [hs1]; split <;> simp <;> omega
  refine ⟨fun s w' => s.2.2.2 = s1.2 ∧ RowAt w' 131 3 s.1 s.2.1 s.2.2.1 (s1.1.flatMap encPr) ∧ Base w' s.1 ∧ w'.heap[b4]? = some (.cells (encPr x).toArray 131 (0, 0)) ∧ ∀ i ∈ rowB s.1, i ≠ b4, ?_, ?_⟩
  rotate_left
  · -- is p ahead?
   refine ⟨fun b7 w' => b7 = (!put && decide (aheadP p x.1)) ∧ RowAt w' 131 3 o on oc (out.flatMap encPr) ∧ Base w' o ∧ w'.heap[b4]? = some (.cells (encPr x).toArray 131 (0, 0)), ?_, fun hnp => ?_, fun hnp => ?_⟩
   ·rintro b7 w14 ⟨hb7, hrow14, hbase14, h414⟩
    obtain ⟨c014, h114, h214, h314, s14, ho14⟩ := id hbase14
    refine ⟨fun ht => ?_, fun hf => ?_⟩
    ·rw [ht] at hb7
     have hs1' : s1 = (out ++ [(p, set)], true) := by rw [hs1, if_pos hb7.symm]
     refine ⟨p1, p2, cellsAt_of h214, ?_⟩
     refine v_alloc fun b8 w16 e16 h16 c16 => ?_
     obtain ⟨p', c', w17, happ, hr17, c17, f17⟩ := append_pr (x := (p, set)) (hrow14.chg c16 (by simp)) (by rw [h16, ← hp]; rfl) (by omega)
     refine ⟨p', on + 1, c', w17, happ, by rw [hs1'], by rw [hs1']; exact hr17, base_step (base_nil hbase14 c16) c17 f17, c17.obj (fun hm => ho4 _ hm rfl) (c16.obj (by simp) h414), fun i hi e => ?_⟩
     rcases f17 i hi with h | h
     ·exact ho4 i h e
     ·have := lt_of_heap h414; have := c16.size; omega
    ·rw [hf] at hb7
     have hs1' : s1 = (out, put) := by rw [hs1, if_neg (by rw [← hb7]; simp)]
     rw [hs1']
     exact ⟨rfl, hrow14, hbase14, h414, ho4⟩
   ·have hnp' : put = false := by simpa using hnp
    refine ⟨p1, p2, cellsAt_of (c7.obj (by simp) h24), x.1.1, x.1.2, ⟨by rw [add_at, cell_of h7]; rfl, by rw [add_at, cell_of h7]; rfl, trivial⟩, ?_⟩
    refine (ref_ahead p1 p2 x.1.1 x.1.2).mono ?_
    rintro _ w15 ⟨_, rfl, rfl, c15⟩
    refine ⟨_, rfl, ?_, hrow7.chg c15 (by simp), base_nil hbase7 c15, c15.obj (by simp) h7⟩
    rw [hnp', hp, hx1]; rfl
   ·have hnp' : put = true := by simpa using hnp
    exact ⟨by simp [hnp'], hrow7, hbase7, h7⟩
  rintro ⟨o8, on8, oc8, put8⟩ w8 ⟨hput8, hrow8, hbase8, h48, ho8⟩
  simp only [] at hput8 hrow8 hbase8 ho8
  have hon8 : on8 = s1.1.length := by have := hrow8.length; rw [flat_length (size := 3) (fun _ => rfl)] at this; omega
  obtain ⟨c08, h18, h28, h38, s8, hb8⟩ := id hbase8
  let o2 : List Pr := if x.1 = p then s1.1 else s1.1 ++ [x]
  have ho2 : o2 = if x.1 = p then s1.1 else s1.1 ++ [x] := rfl
  have hl2 : o2.length ≤ on + 2 := by
   rw [ho2]
   split
   ·omega
   ·rw [List.length_append, List.length_singleton]; omega
  have hfin : stepPut p set (out, put) x = if x.1 = p ∧ s1.2 = false then (o2 ++ [(p, set)], true) else (o2, s1.2) := rfl
  rw [hfin]
  have heq : ((x.1.1 == p1) && (x.1.2 == p2)) = decide (x.1 = p) := by
   rw [← hp1, ← hp2]
   exact pair_beq x.1 p
  refine ⟨fun s w' => RowAt w' 131 3 s.1 s.2.1 s.2.2 (o2.flatMap encPr) ∧ Base w' s.1 ∧ w'.heap[b4]? = some (.cells (encPr x).toArray 131 (0, 0)), ?_, ?_⟩
  ·rintro ⟨o9, on9, oc9⟩ w9 ⟨hrow9, hbase9, h49⟩
   simp only [] at hrow9 hbase9
   have hon9 : on9 = o2.length := by have := hrow9.length; rw [flat_length (size := 3) (fun _ => rfl)] at this; omega
   obtain ⟨c09, h19, h29, h39, s9, hb9⟩ := id hbase9
   refine ⟨x.1.1, x.1.2, ⟨by rw [add_at, cell_of h49]; rfl, by rw [add_at, cell_of h49]; rfl, trivial⟩, p1, p2, cellsAt_of h29, fun ht => ?_, fun hf => ?_⟩
   ·have ht' : x.1 = p ∧ s1.2 = false := by
     simp only [] at ht
     rw [heq, hput8] at ht
     simpa using ht
    rw [if_pos ht']
    refine ⟨p1, p2, cellsAt_of h29, ?_⟩
    refine v_alloc fun b5 w10 e10 h10 c10 => ?_
    obtain ⟨p', c', w11, happ, hr11, c11, f11⟩ := append_pr (x := (p, set)) (hrow9.chg c10 (by simp)) (by rw [h10, ← hp]; rfl) (by omega)
    exact ⟨p', on9 + 1, c', w11, happ, rfl, hr11, base_step (base_nil hbase9 c10) c11 f11⟩
   ·have hf' : ¬ (x.1 = p ∧ s1.2 = false) := by
     simp only [] at hf
     rw [heq, hput8] at hf
     simpa using hf
    rw [if_neg hf']
    exact ⟨hput8, hrow9, hbase9⟩
  ·refine ⟨x.1.1, x.1.2, ⟨by rw [add_at, cell_of h48]; rfl, by rw [add_at, cell_of h48]; rfl, trivial⟩, p1, p2, cellsAt_of h28, fun ht => ?_, fun hf => ?_⟩
   ·have ht' : x.1 ≠ p := by
     rw [heq] at ht; simpa using ht
    have ho2' : o2 = s1.1 ++ [x] := by rw [ho2, if_neg ht']
    refine ⟨x.1.1, x.1.2, x.2, cellsAt_of h48, ?_⟩
    refine v_alloc fun b6 w12 e12 h12 c12 => ?_
    obtain ⟨p', c', w13, happ, hr13, c13, f13⟩ := append_pr (x := x) (hrow8.chg c12 (by simp)) h12 (by omega)
    refine ⟨p', on8 + 1, c', w13, happ, by rw [ho2']; exact hr13, base_step (base_nil hbase8 c12) c13 f13, c13.obj (fun hm => ho8 _ hm rfl) (c12.obj (by simp) h48)⟩
   ·have hf' : x.1 = p := by
     rw [heq] at hf; simpa using hf
    have ho2' : o2 = s1.1 := by rw [ho2, if_pos hf']
    rw [ho2']
    exact ⟨hrow8, hbase8, h48⟩
 ·have hge' : ¬ j < n5 := by simpa using hge
  rw [List.take_of_length_le (by omega)] at hput hrow hon hlen
  refine ⟨fun s w' => RowAt w' 131 3 s.1 s.2.1 s.2.2 ((refPut p set R.pairs).flatMap encPr) ∧ Base w' s.1, ?_, fun hnp => ?_, fun hnp => ?_⟩
  ·rintro ⟨o', on', oc'⟩ w18 ⟨hrow18, hbase18⟩
   simp only [] at hrow18 hbase18
   obtain ⟨c018, h118, h218, h318, s18, hb18⟩ := id hbase18
   refine v_set0 h118 (by simp) fun w19 h19 c19 _ => ?_
   have h19' : w19.heap[b1]? = some (.cells #[.int .i64 R.fr, .int .i64 R.se, .int .i64 R.most, .slice p4 n4 c4, .slice o' on' oc'] 43 (0, 0)) := by simpa using h19
   refine ⟨_, _, _, _, _, _, _, _, _, cellsAt_of h19', ?_⟩
   refine v_fill (c19.obj (by simp; omega) h318) (by rfl) (by rfl) fun w20 h20 c20 _ => ?_
   have c1820 : Chg [b1, b3] w18 w20 := (c19.mono (by simp)).trans c20 (by simp)
   have c020 : Chg [] w w20 := c018.trans c1820 (fun i hi hlt => by simp at hi; omega)
   refine ⟨_, _, _, _, _, _, _, _, _, cellsAt_of h20, rfl, rfl, rfl, rfl, rfl, rfl, ⟨h.sets.chg c020 (by simp), hrow18.chg c1820 (fun i hi hm => by have := hb18 i hi; simp at hm; omega)⟩, c020, fun i hi => by have := hb18 i hi; omega⟩
  ·have hnp' : put = false := by simpa using hnp
   have hr : refPut p set R.pairs = (foldPut p set R.pairs).1 ++ [(p, set)] := by unfold refPut; simp only []; rw [← hput, hnp']; rfl
   refine ⟨p1, p2, cellsAt_of h24, ?_⟩
   refine v_alloc fun b9 w21 e21 h21 c21 => ?_
   obtain ⟨p', c', w22, happ, hr22, c22, f22⟩ := append_pr (x := (p, set)) (hrow.chg c21 (by simp)) (by rw [h21, ← hp]; rfl) (by omega)
   exact ⟨p', on + 1, c', w22, happ, by rw [hr]; exact hr22, base_step (base_nil hbase c21) c22 f22⟩
  ·have hnp' : put = true := by simpa using hnp
   have hr : refPut p set R.pairs = (foldPut p set R.pairs).1 := by unfold refPut; simp only []; rw [← hput, hnp']; rfl
   exact ⟨by rw [hr]; exact hrow, hbase⟩
end Go.Proofs.YtfcfkhbkkfpehaaGreat
end
section
/- The document's flows: New, Mark. -/
namespace Go.Proofs.YtfcfkhbkkfpehaaGreat
open Go Go.RowKit Go.X
def muP (s : List Pr × Bool) : Nat := s.1.length + (if s.2 then 0 else 1)
theorem stepPut_mu (p : Int × Int) (set : Int) (s : List Pr × Bool) (x : Pr) : muP (stepPut p set s x) ≤ muP s + 1 := by
 obtain ⟨o, put⟩ := s
 unfold stepPut muP
 generalize decide (aheadP p x.1) = A
 by_cases h2 : x.1 = p <;> cases put <;> cases A <;> simp [h2]
theorem refPut_length (p : Int × Int) (set : Int) (l : List Pr) : (refPut p set l).length ≤ l.length + 1 := by
 have : ∀ (l : List Pr) (s : List Pr × Bool), muP (l.foldl (stepPut p set) s) ≤ muP s + l.length := by
  intro l
  induction l with
  | nil => intro s; exact Nat.le_refl _
  | cons x l ih => intro s; simp only [List.foldl_cons, List.length_cons]; have := ih (stepPut p set s x); have := stepPut_mu p set s x; omega
 have h := this l ([], set == 0)
 have h0 : muP (([], set == 0) : List Pr × Bool) ≤ 1 := by unfold muP; simp only []; split <;> simp
 have he : (refPut p set l).length = muP (l.foldl (stepPut p set) ([], set == 0)) := by
  unfold refPut foldPut muP
  simp only []
  split <;> simp
 omega
def refFill (p : Int × Int) (set : Int) (l : List Pr) : Nat → List Pr
 | 0 => l
 | n + 1 => refPut (p.1, p.2 + n) set (refFill p set l n)
theorem refFill_length (p : Int × Int) (set : Int) (l : List Pr) (n : Nat) : (refFill p set l n).length ≤ l.length + n := by
 induction n with
 | zero => exact Nat.le_refl _
 | succ n ih => have := refPut_length (p.1, p.2 + n) set (refFill p set l n); simp only [refFill]; omega
def refMarkE (R : Rf) (p : Int × Int) (n set : Int) : Int :=
 if ¬ mayP R.fr R.se p ∨ 65536 ≤ set then 2 else if n < 0 ∨ 65536 < n ∨ (0 < n ∧ ¬ mayP R.fr R.se (p.1, p.2 + n - 1)) then 4 else keepE R.most R.sets set
def refMark (R : Rf) (p : Int × Int) (n set : Int) : Rf := if refMarkE R p n set = 0 then { R with sets := keepS R.most R.sets set, pairs := refFill p set R.pairs n.toNat } else R
theorem ref_new {w : World} (fr se most : Int) :
  Calls Tryz.prog 28 #[.agg #[.int .i64 fr, .int .i64 se], .int .i64 most] w fun e w' => ∃ (r1 : Int) (r2 : Int) (r3 : Int) (r4 : Option Addr) (r4n : Nat) (r4c : Nat) (r5 : Option Addr) (r5n : Nat) (r5c : Nat), e = .returned (.agg #[.int .i64 r1, .int .i64 r2, .int .i64 r3, .slice r4 r4n r4c, .slice r5 r5n r5c]) ∧
   (r1 = fr ∧ r2 = se ∧ r3 = most ∧ RefAt w' ⟨fr, se, most, [0], []⟩ r4 r4n r4c r5 r5n r5c ∧ Chg [] w w' ∧ ∀ i ∈ rowB r4 ++ rowB r5, w.heap.size ≤ i) := by
 refine ok_pomanderref12_New _ _ _ _ _ ?_
 unfold V_pomanderref12_New
 refine v_alloc fun b1 w1 e1 h1 c1 => ?_
 refine v_alloc fun b2 w2 e2 h2 c2 => ?_
 refine v_drew fun w3 c3 => ?_
 have h13 := (c2.trans0 c3).obj (by simp) h1
 have h23 := c3.obj (by simp) h2
 have l1 : b1 < w1.heap.size := lt_of_heap h1
 have l2 : b2 < w2.heap.size := lt_of_heap h2
 have s1 := c1.size
 have s2 := c2.size
 have s3 := c3.size
 refine ⟨fr, se, cellsAt_of h13, ?_⟩
 have hnew : Calls Tryz.prog 59 #[.int .i64 most] w3 fun e w' => ∃ (r1 : Int) (r2 : Option Addr) (r2n : Nat) (r2c : Nat), e = .returned (.agg #[.int .i64 r1, .slice r2 r2n r2c]) ∧ (r1 = most ∧ RowAt w' 22 1 r2 r2n r2c ([0].map (.int .u32)) ∧ Chg [] w3 w' ∧ ∀ i ∈ rowB r2, w3.heap.size ≤ i) := by
  refine ok_pomanderref02_New _ _ _ ?_
  unfold V_pomanderref02_New
  refine v_alloc fun x1 v1 f1 g1 d1 => ?_
  refine v_alloc fun x2 v2 f2 g2 d2 => ?_
  have := d1.size
  have := lt_of_heap g1
  have := lt_of_heap g2
  refine v_fill (d2.obj (by simp) g1) (by rfl) (by rfl) fun v3 g3 d3 _ => ?_
  refine ⟨_, _, _, _, cellsAt_of g3, rfl, ?_, (d1.trans0 d2).trans d3 (fun i hi hlt => by simp at hi; omega), by simp [rowB]; omega⟩
  exact RowAt.of_heap (cs := [.int .u32 0]) (d3.obj (by simp; omega) g2) rfl (by simp [maxLen])
 refine hnew.mono ?_
 rintro _ w4 ⟨r6, r7, r7n, r7c, rfl, rfl, hrow, c4, hf⟩
 refine ⟨_, _, _, _, rfl, ⟨cellsAt_of (c4.obj (by simp) h13), trivial⟩, ?_⟩
 have s4 := c4.size
 refine v_fill (c4.obj (by simp) h23) (by rfl) (by rfl) fun w5 h5 c5 _ => ?_
 have c05 : Chg [] w w5 := (((c1.trans0 c2).trans0 c3).trans0 c4).trans c5 (fun i hi hlt => by simp at hi; omega)
 refine ⟨_, _, _, _, _, _, _, _, _, cellsAt_of h5, rfl, rfl, rfl, ⟨hrow.chg c5 (fun i hi hm => by have := hf i hi; simp at hm; omega), RowAt.nil⟩, c05, fun i hi => ?_⟩
 simp [rowB] at hi
 have := hf i (by simpa [rowB] using hi)
 omega
theorem ref_mark {w : World} {R : Rf} {p4 p5 : Option Addr} {n4 c4 n5 c5 : Nat} (h : RefAt w R p4 n4 c4 p5 n5 c5) (hn4 : n4 ≤ 1000000) (hn5 : n5 ≤ 90000000) (hne : R.sets ≠ []) (hw : 1 ≤ R.fr ∧ R.fr ≤ 32 ∧ 1 ≤ R.se ∧ R.se ≤ 32) {p1 p2 n set : Int} (hs0 : 0 ≤ set) :
  Calls Tryz.prog 42 #[.agg #[.int .i64 R.fr, .int .i64 R.se, .int .i64 R.most, .slice p4 n4 c4, .slice p5 n5 c5], .agg #[.int .i64 p1, .int .i64 p2], .int .i64 n, .int .u32 set] w fun e w' =>
   ∃ (r1 : Int) (r2 : Int) (r3 : Int) (r4 : Option Addr) (r4n : Nat) (r4c : Nat) (r5 : Option Addr) (r5n : Nat) (r5c : Nat) (r6 : Int), e = .returned (.tuple #[.agg #[.int .i64 r1, .int .i64 r2, .int .i64 r3, .slice r4 r4n r4c, .slice r5 r5n r5c], .int .i64 r6]) ∧
   (r1 = R.fr ∧ r2 = R.se ∧ r3 = R.most ∧ r6 = refMarkE R (p1, p2) n set ∧ RefAt w' (refMark R (p1, p2) n set) r4 r4n r4c r5 r5n r5c ∧ Chg [] w w' ∧ ∀ i ∈ rowB r4 ++ rowB r5, i ∈ rowB p4 ++ rowB p5 ∨ w.heap.size ≤ i) := by
 have hwf : i64s (64 * R.fr) ∧ i64s (64 * R.se) := by unfold i64s; omega
 have hlt4 := h.sets.lt
 have hlt5 := h.pairs.lt
 refine ok_pomanderref12_Flow_Mark _ _ _ _ _ _ _ _ _ _ _ _ _ _ _ ?_
 unfold V_pomanderref12_Flow_Mark
 refine v_alloc fun b1 w1 e1 h1 c1 => ?_
 refine v_alloc fun b2 w2 e2 h2 c2 => ?_
 refine v_alloc fun b3 w3 e3 h3 c3 => ?_
 have l1 : b1 < w1.heap.size := lt_of_heap h1
 have l2 : b2 < w2.heap.size := lt_of_heap h2
 have l3 : b3 < w3.heap.size := lt_of_heap h3
 have s1 := c1.size
 have s2 := c2.size
 have s3 := c3.size
 have h13 := (c2.trans0 c3).obj (by simp) h1
 have h23 := c3.obj (by simp) h2
 have c03 := (c1.trans0 c2).trans0 c3
 -- the way out with the flow as it was
 have back : ∀ {w4 : World} (E : Int), refMarkE R (p1, p2) n set = E → E ≠ 0 → Chg [] w3 w4 → ∃ (t8 : Int) (t9 : Int) (t10 : Int) (t11 : Option Addr) (t11n : Nat) (t11c : Nat) (t12 : Option Addr) (t12n : Nat) (t12c : Nat), CellsAt w4 (⟨b1, 0, none⟩ : Addr) 0 [.int .i64 t8, .int .i64 t9, .int .i64 t10, .slice t11 t11n t11c, .slice t12 t12n t12c] ∧ (Has w4 (⟨b3, 0, none⟩ : Addr) 5 ∧ Free w4 (⟨b3, 0, none⟩ : Addr) 5 ∧ ∀ w5 : World, w5 = setCells w4 (⟨b3, 0, none⟩ : Addr) 0 [.int .i64 t8, .int .i64 t9, .int .i64 t10, .slice t11 t11n t11c, .slice t12 t12n t12c] →
   (∃ (r8 : Int) (r9 : Int) (r10 : Int) (r11 : Option Addr) (r11n : Nat) (r11c : Nat) (r12 : Option Addr) (r12n : Nat) (r12c : Nat), CellsAt w5 (⟨b3, 0, none⟩ : Addr) 0 [.int .i64 r8, .int .i64 r9, .int .i64 r10, .slice r11 r11n r11c, .slice r12 r12n r12c] ∧
    (r8 = R.fr ∧ r9 = R.se ∧ r10 = R.most ∧ E = refMarkE R (p1, p2) n set ∧ RefAt w5 (refMark R (p1, p2) n set) r11 r11n r11c r12 r12n r12c ∧ Chg [] w w5 ∧ ∀ i ∈ rowB r11 ++ rowB r12, i ∈ rowB p4 ++ rowB p5 ∨ w.heap.size ≤ i))) := by
  intro w4 E hE hE0 c4
  refine ⟨_, _, _, _, _, _, _, _, _, cellsAt_of (c4.obj (by simp) h13), ?_⟩
  refine v_fill (c4.obj (by simp) h3) (by rfl) (by rfl) fun w5 h5 c5 _ => ?_
  have c05 : Chg [] w w5 := (c03.trans0 c4).trans c5 (fun i hi hlt => by simp at hi; omega)
  have hR : refMark R (p1, p2) n set = R := by unfold refMark; rw [if_neg (by rw [hE]; exact hE0)]
  exact ⟨_, _, _, _, _, _, _, _, _, cellsAt_of h5, rfl, rfl, rfl, hE.symm, by rw [hR]; exact h.chg c05 (by simp) (by simp), c05, fun i hi => .inl hi⟩
 refine ⟨_, _, _, _, _, _, _, _, _, cellsAt_of h13, p1, p2, cellsAt_of h23, ?_⟩
 refine (ref_may _ _ _ _ _ _ _ _ _ _ _ hwf).mono ?_
 rintro _ w4 ⟨_, rfl, rfl, c4⟩
 have h14 := c4.obj (by simp) h13
 have h24 := c4.obj (by simp) h23
 have h34 := c4.obj (by simp) h3
 have s4 := c4.size
 refine ⟨_, rfl, fun hbad => ?_, fun hgood => ?_⟩
 ·have hb : ¬ mayP R.fr R.se (p1, p2) ∨ 65536 ≤ set := by simpa using hbad
  exact back 2 (by unfold refMarkE; rw [if_pos hb]) (by omega) c4
 have hg : mayP R.fr R.se (p1, p2) ∧ set < 65536 := by simpa using hgood
 have hp2 : 0 ≤ p2 ∧ p2 < 2147483648 := by
  have hm := hg.1
  unfold mayP boundP at hm
  simp only [] at hm
  refine ⟨hm.2.2.1, ?_⟩
  have := hm.2.2.2
  split at this
  ·omega
  split at this
  ·omega
  split at this
  ·omega
  split at this
  ·omega
  split at this
  ·omega
  split at this <;> omega
 have hnot : ¬ (¬ mayP R.fr R.se (p1, p2) ∨ 65536 ≤ set) := by
  rintro (h | h)
  ·exact h hg.1
  ·omega
 refine ⟨fun b4 w6 => Chg [] w3 w6 ∧ b4 = decide (n < 0 ∨ 65536 < n ∨ (0 < n ∧ ¬ mayP R.fr R.se (p1, p2 + n - 1))), ?_, fun hn => ?_, fun hn => ?_⟩
 rotate_left
 ·have hn' : 0 ≤ n ∧ n ≤ 65536 := by simpa using hn
  refine ⟨_, fun b3 w5 h => h, fun hpos => ?_, fun hpos => ?_⟩
  ·have hpos' : 0 < n := by simpa using hpos
   refine ⟨_, _, _, _, _, _, _, _, _, cellsAt_of h14, p1, by rw [cell_of h24]; rfl, p2, by rw [cell_of h24]; rfl, ?_⟩
   rw [wr (n := p2 + n) (by omega) (by omega), wr (by omega) (by omega)]
   refine (ref_may _ _ _ _ _ _ _ _ _ _ _ hwf).mono ?_
   rintro _ w6 ⟨_, rfl, rfl, c6⟩
   refine ⟨_, rfl, c4.trans0 c6, ?_⟩
   rw [← decide_not]
   exact decide_eq_decide.2 ⟨fun h => .inr (.inr ⟨hpos', h⟩), fun h => by
    rcases h with h | h | h
    ·omega
    ·omega
    ·exact h.2⟩
  ·have hpos' : ¬ 0 < n := by simpa using hpos
   refine ⟨c4, ?_⟩
   symm; rw [decide_eq_false_iff_not]; omega
 ·have hn' : n < 0 ∨ 65536 < n := by simpa using hn
  refine ⟨c4, ?_⟩
  symm; rw [decide_eq_true_eq]; omega
 rintro b4 w6 ⟨c6, rfl⟩
 refine ⟨fun hbad => ?_, fun hok => ?_⟩
 ·rw [decide_eq_true_eq] at hbad
  exact back 4 (by unfold refMarkE; rw [if_neg hnot, if_pos hbad]) (by omega) c6
 rw [decide_eq_false_iff_not] at hok
 have hE : refMarkE R (p1, p2) n set = keepE R.most R.sets set := by unfold refMarkE; rw [if_neg hnot, if_neg hok]
 have h16 := c6.obj (by simp) h13
 have h26 := c6.obj (by simp) h23
 have h36 := c6.obj (by simp) h3
 have s6 := c6.size
 have c06 := c03.trans0 c6
 refine ⟨R.most, p4, n4, _, ⟨by rw [add_at, cell_of h16]; rfl, by rw [add_at, cell_of h16]; rfl, trivial⟩, ?_⟩
 refine (ref_keep (h.sets.chg c06 (by simp)) hn4 hne hs0).mono ?_
 rintro _ w10 ⟨r19, r20, r20n, r20c, r21, r22, rfl, rfl, rfl, hrow10, c10, hf10⟩
 have s10 := c10.size
 refine ⟨_, _, _, _, _, _, rfl, ?_⟩
 refine v_box (by rfl) (by rfl) fun b6 w12 e12 h12 c12 => ?_
 have s12 := c12.size
 have c312 := (c6.trans0 c10).trans0 c12
 have c012 := c03.trans0 c312
 have h112 := c312.obj (by simp) h13
 have h212 := c312.obj (by simp) h23
 have h312 := c312.obj (by simp) h3
 refine ⟨fun hbad => ?_, fun hz => ?_⟩
 ·have hbad' : keepE R.most R.sets set ≠ 0 := by simpa using hbad
  exact back _ hE hbad' c312
 have hz' : keepE R.most R.sets set = 0 := by simpa using hz
 refine ⟨_, _, _, _, cellsAt_of h12, ?_⟩
 refine v_fillAt (pre := [.int .i64 R.fr, .int .i64 R.se]) (zs := [.int .i64 R.most, .slice p4 n4 _]) (post := [.slice p5 n5 c5]) (by simpa using h112) (by rfl) (by rfl) (by rfl) fun w14 h14' c14 _ => ?_
 have hrow14 : RowAt w14 22 1 r20 r20n r20c ((keepS R.most R.sets set).map (.int .u32)) := (hrow10.chg c12 (by simp)).chg c14 (fun i hi hm => by
  simp at hm
  rcases hf10 i hi with h' | h'
  ·have := hlt4 i h'; omega
  ·omega)
 have h214 := c14.obj (by simp; omega) h212
 have h314 := c14.obj (by simp; omega) h312
 have c014 : Chg [] w w14 := c012.trans c14 (fun i hi hlt => by simp at hi; omega)
 have s14 := c14.size
 have hn0 : 0 ≤ n ∧ n ≤ 65536 := by omega
 have h5len := h.n5
 refine ⟨fun s w' => ∃ (i : Nat) (q5 : Option Addr) (m5 k5 : Nat), s = (i : Int) ∧ (i : Int) ≤ n ∧ w'.heap[b1]? = some (.cells #[.int .i64 R.fr, .int .i64 R.se, .int .i64 R.most, .slice r20 r20n r20c, .slice q5 m5 k5] 43 (0, 0)) ∧ w'.heap[b2]? = some (.cells #[.int .i64 p1, .int .i64 p2] 62 (0, 0)) ∧
   w'.heap[b3]? = some (.cells #[.int .i64 0, .int .i64 0, .int .i64 0, .slice none 0 0, .slice none 0 0] 43 (0, 0)) ∧ RefAt w' { R with sets := keepS R.most R.sets set, pairs := refFill (p1, p2) set R.pairs i } r20 r20n r20c q5 m5 k5 ∧ Chg [] w w' ∧ w14.heap.size ≤ w'.heap.size ∧ (∀ j ∈ rowB q5, j ∈ rowB p5 ∨ w14.heap.size ≤ j),
  fun s _ => (n - s).toNat, ⟨0, p5, n5, c5, rfl, by omega, by simpa using h14', h214, h314, ⟨hrow14, (h.pairs.chg c012 (by simp)).chg c14 (fun i hi hm => by have := hlt5 i hi; simp at hm; omega)⟩, c014, Nat.le_refl _, fun i hi => .inl hi⟩, ?_⟩
 rintro _ w15 ⟨i, q5, m5, k5, rfl, hi, h115, h215, h315, hR15, c15, s15, hf15⟩
 refine ⟨fun hlt => ?_, fun hge => ?_⟩
 ·have hlt' : (i : Int) < n := by simpa using hlt
  refine ⟨_, _, _, _, _, _, _, _, _, cellsAt_of h115, p1, by rw [cell_of h215]; rfl, p2, by rw [cell_of h215]; rfl, ?_⟩
  rw [wr (n := p2 + i) (by omega) (by omega)]
  have hm5 : m5 ≤ 100000000 := by
   have h1 := hR15.n5
   have h2 := refFill_length (p1, p2) set R.pairs i
   simp only [] at h1
   omega
  refine (ref_put hR15 hm5 p1 (p2 + i) set).mono ?_
  rintro _ w16 ⟨r1, r2, r3, r4, r4n, r4c, r5, r5n, r5c, rfl, rfl, rfl, rfl, rfl, rfl, rfl, hR16, c16, hf16⟩
  have s16 := c16.size
  refine ⟨_, _, _, _, _, _, _, _, _, rfl, ?_⟩
  refine v_fill (c16.obj (by simp) h115) (by rfl) (by rfl) fun w17 h17 c17 _ => ?_
  rw [wr (by omega) (by omega)]
  have hb4 : ∀ j ∈ rowB r4, j ∉ [b1] := fun j hj hm => by
   simp at hm
   rcases hf10 j hj with h' | h'
   ·have := hlt4 j h'; omega
   ·omega
  refine ⟨⟨i + 1, r5, r5n, r5c, by omega, by omega, h17, c17.obj (by simp; omega) (c16.obj (by simp) h215), c17.obj (by simp; omega) (c16.obj (by simp) h315), hR16.chg c17 hb4 (fun j hj hm => by have := hf16 j hj; simp at hm; omega), (c15.trans0 c16).trans c17 (fun j hj hlt => by simp at hj; omega), by have := c17.size; omega, fun j hj => .inr (by have := hf16 j hj; omega)⟩, by simp only []; omega⟩
 ·have hge' : ¬ (i : Int) < n := by simpa using hge
  have hin : n.toNat = i := by omega
  refine ⟨_, _, _, _, _, _, _, _, _, cellsAt_of h115, ?_⟩
  refine v_fill h315 (by rfl) (by rfl) fun w18 h18 c18 _ => ?_
  have c018 : Chg [] w w18 := c15.trans c18 (fun j hj hlt => by simp at hj; omega)
  have hR : refMark R (p1, p2) n set = { R with sets := keepS R.most R.sets set, pairs := refFill (p1, p2) set R.pairs i } := by unfold refMark; rw [if_pos (by rw [hE]; exact hz'), hin]
  refine ⟨_, _, _, _, _, _, _, _, _, cellsAt_of h18, rfl, rfl, rfl, by rw [hE, hz'], ?_, c018, fun j hj => ?_⟩
  ·rw [hR]
   refine hR15.chg c18 (fun j hj hm => ?_) (fun j hj hm => ?_)
   ·simp at hm
    rcases hf10 j hj with h' | h'
    ·have := hlt4 j h'; omega
    ·omega
   ·simp at hm
    rcases hf15 j hj with h' | h'
    ·have := hlt5 j h'; omega
    ·omega
  ·simp only [List.mem_append] at hj ⊢
   rcases hj with hj | hj
   ·rcases hf10 j hj with h' | h'
    ·exact .inl (.inl h')
    ·right; have := c06.size; omega
   ·rcases hf15 j hj with h' | h'
    ·exact .inl (.inr h')
    ·right; omega
end Go.Proofs.YtfcfkhbkkfpehaaGreat
end
section
/- Arguments that came in, opened: slices of structs as lists. -/
namespace Go.X
open Go Go.RowKit Go.ChangeShapes Go.WideShapes
theorem list_of {α : Type} {n : Nat} {Q : Nat → α → Prop} (h : ∀ i, i < n → ∃ x, Q i x) : ∃ l : List α, l.length = n ∧ ∀ (i : Nat) (x : α), l[i]? = some x → Q i x := by
 induction n with
 | zero => exact ⟨[], rfl, by simp⟩
 | succ n ih =>
  obtain ⟨l, hl, hq⟩ := ih (fun i hi => h i (by omega))
  obtain ⟨x, hx⟩ := h n (by omega)
  refine ⟨l ++ [x], by simp [hl], fun i y hy => ?_⟩
  by_cases hi : i < l.length
  ·rw [List.getElem?_append_left hi] at hy; exact hq i y hy
  ·rw [List.getElem?_append_right (by omega)] at hy
   have hi' : i - l.length = 0 := by
    have := (List.getElem?_eq_some_iff.1 hy).1
    simp at this; omega
   rw [hi'] at hy; simp at hy; subst hy
   have : i = n := by omega
   rw [this]; exact hx
section
variable {H : Type} {enc : TypeId × Value → H} {P : Program} {w : World} {base : Nat} {spare : Nat → Bool} {held : Bool}
theorem cellsAt_cells? {a : Addr} {n : Nat} {cs : List Value} (h : w.cells? base a n = some cs) : CellsAt w a 0 cs ∧ cs.length = n := by
 obtain ⟨_, h2, h3⟩ := World.cells?_some h
 refine ⟨?_, h2⟩
 have : ∀ (l : List Value) (i : Nat), (∀ k v, l[k]? = some v → w.cell? (a.add (i + k)) = some v) → CellsAt w a i l := by
  intro l
  induction l with
  | nil => intro i _; trivial
  | cons v l ih => intro i h; exact ⟨by simpa using h 0 v rfl, ih (i + 1) (fun k u hu => by rw [show i + 1 + k = i + (k + 1) by omega]; exact h (k + 1) u (by simpa using hu))⟩
 refine this cs 0 fun k v hk => ?_
 have hlt : k < n := by rw [← h2]; exact (List.getElem?_eq_some_iff.1 hk).1
 rw [Nat.zero_add, h3 k hlt, hk]
theorem open_slice {t e : TypeId} {fuel : Nat} {cs : List Value} {x : DataW H × List MemPlace} (ht : P.underlying t = some (.slice e)) (h : DataW.trod enc P w base spare held fuel t cs = some x) :
  ∃ (p : Option Addr) (len cap : Nat), cs = [.slice p len cap] ∧ len ≤ maxLen ∧ ∀ i, i < len → ∃ (a : Addr) (cs' : List Value) (n : Nat) (y : DataW H × List MemPlace), p = some a ∧ CellsAt w (a.add (i * P.cellsOf e)) 0 cs' ∧ cs'.length = P.cellsOf e ∧ DataW.trod enc P w base spare held n e cs' = some y := by
 rcases DataW.trod_slice ht h with ⟨h0, _⟩ | ⟨a, len, cap, elems, rest, n, _, rfl, rfl, hb, hl, hm, hlen, hel, _, _⟩
 ·exact ⟨none, 0, 0, h0, by simp [maxLen], fun i hi => absurd hi (by omega)⟩
 ·refine ⟨some a, len, cap, rfl, by omega, fun i hi => ?_⟩
  have h1 := hel i hi
  rw [List.getElem?_eq_getElem (by omega)] at h1
  obtain ⟨cs', hcs, hy⟩ := Option.bind_eq_some_iff.1 h1
  obtain ⟨k1, k2⟩ := cellsAt_cells? hcs
  exact ⟨a, cs', n, _, rfl, k1, k2, hy⟩
theorem wf_i64 {n : Int} (h : (Lit.int .i64 n).wf = true) : -9223372036854775808 ≤ n ∧ n ≤ 9223372036854775807 := by
 simp [Lit.wf, IntKind.min, IntKind.max, IntKind.bits, IntKind.signed] at h
 omega
theorem wf_u32 {n : Int} (h : (Lit.int .u32 n).wf = true) : 0 ≤ n ∧ n < 4294967296 := by
 simp [Lit.wf, IntKind.min, IntKind.max, IntKind.bits, IntKind.signed] at h
 omega
theorem all_below (hl : laidOutB P = true) {W W' : World} (hb : Below W.heap.size W W') : ∀ (ts : List TypeId) (vs : List Value) (ds : List (DataW H)) (ps : List MemPlace), (∀ t ∈ ts, P.readableRec t = true ∧ t < P.types.size) →
  DataW.TrodAll enc P W 0 (fun _ => true) true ts vs ds ps → (∀ x ∈ ps, x.block < W.heap.size) → DataW.TrodAll enc P W' 0 (fun b => decide (b < W.heap.size)) true ts vs ds ps
 | [], [], [], ps, _, h, _ => h
 | t :: ts, v :: vs, d :: ds, ps, ht, h, hlt => by
  obtain ⟨p, q, h1, h2, rfl⟩ := h
  exact ⟨p, q, Below.trod hl (ht t (.head _)).1 (ht t (.head _)).2 h1 hb (fun x hx => hlt x (List.mem_append.2 (.inl hx))), all_below hl hb ts vs ds q (fun t h => ht t (.tail _ h)) h2 (fun x hx => hlt x (List.mem_append.2 (.inr hx))), rfl⟩
 | [], [], _ :: _, _, _, h, _ => h.elim
 | [], _ :: _, _, _, _, h, _ => h.elim
 | _ :: _, [], _, _, _, h, _ => h.elim
 | _ :: _, _ :: _, [], _, _, h, _ => h.elim
end
end Go.X
end
section
/- Arguments that came in, opened: places, touches, marks. -/
namespace Go.Proofs.YtfcfkhbkkfpehaaGreat
open Go Go.RowKit Go.X
theorem len1 {α : Type} {l : List α} (h : l.length = 1) : ∃ a, l = [a] := by
 cases l with
 | nil => simp at h
 | cons a l => exact ⟨a, by rw [List.eq_nil_of_length_eq_zero (l := l) (by simpa using h)]⟩
theorem len2 {α : Type} {l : List α} (h : l.length = 2) : ∃ a b, l = [a, b] := by
 cases l with
 | nil => simp at h
 | cons a l => obtain ⟨b, rfl⟩ := len1 (l := l) (by simpa using h); exact ⟨a, b, rfl⟩
theorem len3 {α : Type} {l : List α} (h : l.length = 3) : ∃ a b c, l = [a, b, c] := by
 cases l with
 | nil => simp at h
 | cons a l => obtain ⟨b, c, rfl⟩ := len2 (l := l) (by simpa using h); exact ⟨a, b, c, rfl⟩
section
variable {H : Type} {enc : TypeId × Value → H} {w : World} {base : Nat} {spare : Nat → Bool} {held : Bool} {fuel : Nat} {x : DataW H × List MemPlace} {cs : List Value}
theorem cells56 : Tryz.prog.cellsOf 62 = 2 := by kernel_rfl
theorem cells81 : Tryz.prog.cellsOf 65 = 3 := by kernel_rfl
theorem cells3 : Tryz.prog.cellsOf 3 = 1 := by kernel_rfl
theorem cells54 : Tryz.prog.cellsOf 60 = 1 := by kernel_rfl
theorem cells22 : Tryz.prog.cellsOf 22 = 1 := by kernel_rfl
theorem cells47 : Tryz.prog.cellsOf 63 = 1 := by kernel_rfl
theorem un54 : Tryz.prog.underlying 60 = some (.int .i64) := by kernel_rfl
theorem un3 : Tryz.prog.underlying 3 = some (.int .i64) := by kernel_rfl
theorem un22 : Tryz.prog.underlying 22 = some (.int .u32) := by kernel_rfl
theorem open_place (h : DataW.trod enc Tryz.prog w base spare held fuel 62 cs = some x) : ∃ p : Int × Int, cs = [.int .i64 p.1, .int .i64 p.2] ∧ i64s p.1 ∧ i64s p.2 := by
 obtain ⟨xs, n, _, _, hl, hlen, hf⟩ := DataW.trod_struct Tryz.underlying62 h
 have h0 : DataW.trod enc Tryz.prog w base spare held n 60 ((cs.drop 0).take (Tryz.prog.cellsOf 60)) = xs[0]? := hf 0 _ rfl
 have h1 : DataW.trod enc Tryz.prog w base spare held n 3 ((cs.drop 1).take (Tryz.prog.cellsOf 3)) = xs[1]? := hf 1 _ rfl
 simp only [cells54, cells3] at h0 h1
 rw [cells56] at hl
 rw [List.getElem?_eq_getElem (by rw [hlen]; decide)] at h0 h1
 obtain ⟨a, e0, _, w0⟩ := DataW.trod_int un54 h0
 obtain ⟨b, e1, _, w1⟩ := DataW.trod_int un3 h1
 obtain ⟨c0, c1, rfl⟩ := len2 hl
 simp at e0 e1
 subst e0 e1
 exact ⟨(a, b), rfl, wf_i64 w0, wf_i64 w1⟩
def oldS (w : World) (i : Nat) : Prop := i < w.heap.size
theorem cellsAt_lt {a : Addr} {i : Nat} {c : Value} {cs : List Value} (h : CellsAt w a i (c :: cs)) : a.block < w.heap.size := by
 have := World.block_lt_of_cell? w _ h.1
 rwa [add_block] at this
theorem open_places (h : DataW.trod enc Tryz.prog w base spare held fuel 63 cs = some x) : ∃ p n c ps, cs = [.slice p n c] ∧ n ≤ maxLen ∧ PlacesAt w (oldS w) p n ps := by
 obtain ⟨p, n, c, rfl, hn, hel⟩ := open_slice Tryz.underlying63 h
 obtain ⟨l, hl, hq⟩ := list_of (Q := fun j (x : Int × Int) => i64s x.1 ∧ i64s x.2 ∧ ∃ a, p = some a ∧ oldS w a.block ∧ CellsAt w (a.add (j * 2)) 0 [.int .i64 x.1, .int .i64 x.2]) (n := n) (fun i hi => by
  obtain ⟨a, cs', m, y, ha, hc, _, hy⟩ := hel i hi
  obtain ⟨q, rfl, k1, k2⟩ := open_place hy
  rw [cells56] at hc
  exact ⟨q, k1, k2, a, ha, by have := cellsAt_lt hc; rwa [add_block] at this, hc⟩)
 exact ⟨p, n, c, l, rfl, hn, hl, hq⟩
theorem open_touch (h : DataW.trod enc Tryz.prog w base spare held fuel 65 cs = some x) : ∃ (t : Tch) (q : Option Addr) (qn qc : Nat), cs = [.int .i64 t.1.1, .int .i64 t.1.2, .slice q qn qc] ∧ i64s t.1.1 ∧ i64s t.1.2 ∧ qn ≤ maxLen ∧ PlacesAt w (oldS w) q qn t.2 := by
 obtain ⟨xs, n, _, _, hl, hlen, hf⟩ := DataW.trod_struct Tryz.underlying65 h
 have h0 : DataW.trod enc Tryz.prog w base spare held n 62 ((cs.drop 0).take (Tryz.prog.cellsOf 62)) = xs[0]? := hf 0 _ rfl
 have h1 : DataW.trod enc Tryz.prog w base spare held n 63 ((cs.drop 2).take (Tryz.prog.cellsOf 63)) = xs[1]? := hf 1 _ rfl
 simp only [cells56, cells47] at h0 h1
 rw [cells81] at hl
 rw [List.getElem?_eq_getElem (by rw [hlen]; decide)] at h0 h1
 obtain ⟨p, e0, k1, k2⟩ := open_place h0
 obtain ⟨q, qn, qc, ps, e1, hq, hps⟩ := open_places h1
 obtain ⟨c0, c1, c2, rfl⟩ := len3 hl
 simp at e0 e1
 obtain ⟨rfl, rfl⟩ := e0
 subst e1
 exact ⟨(p, ps), q, qn, qc, rfl, k1, k2, hq, hps⟩
theorem open_touches (h : DataW.trod enc Tryz.prog w base spare held fuel 27 cs = some x) : ∃ p n c ts, cs = [.slice p n c] ∧ n ≤ maxLen ∧ TouchesAt w (oldS w) p n ts ∧ ∀ t ∈ ts, t.2.length ≤ maxLen := by
 obtain ⟨p, n, c, rfl, hn, hel⟩ := open_slice Tryz.underlying27 h
 obtain ⟨l, hl, hq⟩ := list_of (Q := fun j (t : Tch) => (i64s t.1.1 ∧ i64s t.1.2 ∧ ∃ a q qn qc, p = some a ∧ oldS w a.block ∧ CellsAt w (a.add (j * 3)) 0 [.int .i64 t.1.1, .int .i64 t.1.2, .slice q qn qc] ∧ PlacesAt w (oldS w) q qn t.2) ∧ t.2.length ≤ maxLen) (n := n) (fun i hi => by
  obtain ⟨a, cs', m, y, ha, hc, _, hy⟩ := hel i hi
  obtain ⟨t, q, qn, qc, rfl, k1, k2, k3, k4⟩ := open_touch hy
  rw [cells81] at hc
  exact ⟨t, ⟨k1, k2, a, q, qn, qc, ha, by have := cellsAt_lt hc; rwa [add_block] at this, hc, k4⟩, by rw [k4.length]; exact k3⟩)
 refine ⟨p, n, c, l, rfl, hn, ⟨hl, fun j t ht => (hq j t ht).1⟩, fun t ht => ?_⟩
 obtain ⟨j, hj⟩ := List.getElem?_of_mem ht
 exact (hq j t hj).2
structure MarksAt (w : World) (S : Nat → Prop) (p : Option Addr) (n : Nat) (ms : List Pr) : Prop where
 length : ms.length = n
 each : ∀ (j : Nat) (x : Pr), ms[j]? = some x → i64s x.1.2 ∧ 0 ≤ x.2 ∧ x.2 < 4294967296 ∧ ∃ a, p = some a ∧ S a.block ∧ CellsAt w (a.add (j * 3)) 0 [.int .i64 x.1.1, .int .i64 x.1.2, .int .u32 x.2]
theorem MarksAt.chg {w w' : World} {S : Nat → Prop} {p : Option Addr} {n : Nat} {ps : List Pr} {f : List Nat} (h : MarksAt w S p n ps) (hc : Chg f w w') (hf : ∀ i ∈ f, ¬ S i) : MarksAt w' S p n ps :=
 ⟨h.length, fun j x hx => let ⟨h1, h2, h3, a, h4, h5, h6⟩ := h.each j x hx; ⟨h1, h2, h3, a, h4, h5, hc.cells (by rw [add_block]; exact fun hm => hf _ hm h5) h6⟩⟩
theorem open_mark (h : DataW.trod enc Tryz.prog w base spare held fuel 67 cs = some x) : ∃ m : Pr, cs = [.int .i64 m.1.1, .int .i64 m.1.2, .int .u32 m.2] ∧ i64s m.1.2 ∧ 0 ≤ m.2 ∧ m.2 < 4294967296 := by
 obtain ⟨xs, n, _, _, hl, hlen, hf⟩ := DataW.trod_struct Tryz.underlying67 h
 have h0 : DataW.trod enc Tryz.prog w base spare held n 62 ((cs.drop 0).take (Tryz.prog.cellsOf 62)) = xs[0]? := hf 0 _ rfl
 have h1 : DataW.trod enc Tryz.prog w base spare held n 22 ((cs.drop 2).take (Tryz.prog.cellsOf 22)) = xs[1]? := hf 1 _ rfl
 simp only [cells56, cells22] at h0 h1
 rw [show Tryz.prog.cellsOf 67 = 3 by kernel_rfl] at hl
 rw [List.getElem?_eq_getElem (by rw [hlen]; decide)] at h0 h1
 obtain ⟨p, e0, k1, k2⟩ := open_place h0
 obtain ⟨st, e1, _, w1⟩ := DataW.trod_int un22 h1
 obtain ⟨c0, c1, c2, rfl⟩ := len3 hl
 simp at e0 e1
 obtain ⟨rfl, rfl⟩ := e0
 subst e1
 exact ⟨(p, st), rfl, k2, wf_u32 w1⟩
theorem open_marks (h : DataW.trod enc Tryz.prog w base spare held fuel 26 cs = some x) : ∃ p n c ms, cs = [.slice p n c] ∧ n ≤ maxLen ∧ MarksAt w (oldS w) p n ms := by
 obtain ⟨p, n, c, rfl, hn, hel⟩ := open_slice Tryz.underlying26 h
 obtain ⟨l, hl, hq⟩ := list_of (Q := fun j (x : Pr) => i64s x.1.2 ∧ 0 ≤ x.2 ∧ x.2 < 4294967296 ∧ ∃ a, p = some a ∧ oldS w a.block ∧ CellsAt w (a.add (j * 3)) 0 [.int .i64 x.1.1, .int .i64 x.1.2, .int .u32 x.2]) (n := n) (fun i hi => by
  obtain ⟨a, cs', m, y, ha, hc, _, hy⟩ := hel i hi
  obtain ⟨q, rfl, k1, k2, k3⟩ := open_mark hy
  rw [show Tryz.prog.cellsOf 67 = 3 by kernel_rfl] at hc
  exact ⟨q, k1, k2, k3, a, ha, by have := cellsAt_lt hc; rwa [add_block] at this, hc⟩)
 exact ⟨p, n, c, l, rfl, hn, hl, hq⟩
end
end Go.Proofs.YtfcfkhbkkfpehaaGreat
end
section
/- Policies: New, none, Strict, Stops; the laws' helpers known, broad, made. -/
namespace Go.Proofs.YtfcfkhbkkfpehaaGreat
open Go Go.RowKit Go.X
def u16 (n : Int) : Prop := 0 ≤ n ∧ n < 65536
theorem or_u16 {a b : Int} (ha : u16 a) (hb : u16 b) : u16 (bits .or .u32 a b) := by
 obtain ⟨a1, a2⟩ := ha
 obtain ⟨b1, b2⟩ := hb
 rw [u32_or a b a1 (by omega) b1 (by omega)]
 have : a.toNat ||| b.toNat < 2 ^ 16 := Nat.or_lt_two_pow (by omega) (by omega)
 exact ⟨by omega, by omega⟩
theorem joinP_u16 {g : Int × Int → Int} (hg : ∀ p, u16 (g p)) (ps : List (Int × Int)) : u16 (joinP g ps) := by
 unfold joinP
 have : ∀ (ps : List (Int × Int)) (s : Int), u16 s → u16 (ps.foldl (fun s p => bits .or .u32 s (g p)) s) := by
  intro ps
  induction ps with
  | nil => intro s h; exact h
  | cons p ps ih => intro s h; exact ih _ (or_u16 h (hg p))
 exact this ps 0 ⟨by omega, by omega⟩
theorem decidesP_u16 {g : Int × Int → Int} (hg : ∀ p, u16 (g p)) (ts : List Tch) : u16 (decidesP g ts) := by
 unfold decidesP
 have : ∀ (ts : List Tch) (s : Int), u16 s → u16 (ts.foldl (fun s t => if t.1 = (0, 0) then bits .or .u32 s (joinP g t.2) else s) s) := by
  intro ts
  induction ts with
  | nil => intro s h; exact h
  | cons t ts ih =>
   intro s h
   simp only [List.foldl_cons]
   apply ih
   split
   ·exact or_u16 h (joinP_u16 hg _)
   ·exact h
 exact this ts 0 ⟨by omega, by omega⟩
structure PolAt (w : World) (b : Nat) (r : List Int) : Prop where
 heap : w.heap[b]? = some (.cells (r.map (Value.int .u32) ++ [Value.bool true]).toArray 109 (0, 0))
 length : r.length = 11
theorem PolAt.chg {w w' : World} {b : Nat} {r : List Int} {f : List Nat} (h : PolAt w b r) (hc : Chg f w w') (hf : b ∉ f) : PolAt w' b r := ⟨hc.obj hf h.heap, h.length⟩
theorem PolAt.lt {w : World} {b : Nat} {r : List Int} (h : PolAt w b r) : b < w.heap.size := lt_of_heap h.heap
theorem PolAt.at {w : World} {b : Nat} {r : List Int} (h : PolAt w b r) {i : Nat} {x : Int} (hx : r[i]? = some x) : w.cell? ⟨b, i, none⟩ = some (.int .u32 x) := by
 have hi : i < r.length := (List.getElem?_eq_some_iff.1 hx).1
 rw [cell_of h.heap]
 simp only [List.getElem?_toArray]
 rw [List.getElem?_append_left (by simpa using hi), List.getElem?_map, hx]; rfl
theorem PolAt.made {w : World} {b : Nat} {r : List Int} (h : PolAt w b r) : w.cell? ⟨b, 11, none⟩ = some (.bool true) := by
 rw [cell_of h.heap]
 simp only [List.getElem?_toArray]
 rw [List.getElem?_append_right (by simp [h.length])]; simp [h.length]
theorem pol_new (w : World) : Calls Tryz.prog 39 #[] w fun e w' => ∃ r1 : Option Addr, e = .returned (.pointer r1) ∧ ∃ b, r1 = some ⟨b, 0, none⟩ ∧ PolAt w' b (List.replicate 11 0) ∧ Chg [] w w' ∧ b = w.heap.size := by
 refine ok_policy_New _ _ ?_
 unfold V_policy_New
 refine v_alloc fun b1 w1 e1 h1 c1 => ?_
 exact ⟨b1, rfl, ⟨h1, rfl⟩, c1, e1⟩
theorem pol_none {w : World} {b : Nat} {r : List Int} (h : PolAt w b r) : Calls Tryz.prog 47 #[.pointer (some ⟨b, 0, none⟩)] w fun e w' => ∃ r1 : Bool, e = .returned (.bool r1) ∧ (r1 = false ∧ w' = w) := by
 refine ok_policy_Policy_none _ _ _ ?_
 unfold V_policy_Policy_none
 exact ⟨_, fun b w h => h, fun _ => ⟨_, rfl, true, by rw [add_at]; exact h.made, rfl, rfl⟩, fun h => by simp at h⟩
theorem pol_set (w : World) (n : Int) : Calls Tryz.prog 41 #[.int .u32 n] w fun e w' => ∃ r1 : Bool, e = .returned (.bool r1) ∧ (r1 = decide (n < 65536) ∧ w' = w) := by
 refine ok_policy_set _ _ _ ?_
 exact ⟨rfl, rfl⟩
theorem map_set_int (r : List Int) (i : Nat) (n : Int) (hi : i < r.length) : ((r.map (Value.int .u32) ++ [Value.bool true]).toArray.setIfInBounds i (.int .u32 n)) = (((r.set i n).map (Value.int .u32)) ++ [Value.bool true]).toArray := by
 rw [List.setIfInBounds_toArray, List.set_append_left _ _ (by simpa using hi), List.map_set]
theorem pol_strict {w : World} {b : Nat} {r : List Int} (h : PolAt w b r) (n : Int) : Calls Tryz.prog 40 #[.pointer (some ⟨b, 0, none⟩), .int .u32 n] w fun e w' => ∃ r1 : Int, e = .returned (.int .i64 r1) ∧
  (if n < 65536 then r1 = 0 ∧ PolAt w' b (r.set 10 n) ∧ Chg [b] w w' else r1 = 2 ∧ w' = w) := by
 refine ok_policy_Policy_Strict _ _ _ _ ?_
 unfold V_policy_Policy_Strict
 refine (pol_none h).mono ?_
 rintro _ w1 ⟨_, rfl, rfl, hw⟩
 subst w1
 refine ⟨_, rfl, fun h => by simp at h, fun _ => ?_⟩
 refine (pol_set w n).mono ?_
 rintro _ w1 ⟨_, rfl, rfl, hw⟩
 subst w1
 refine ⟨_, rfl, fun hb => ?_, fun hb => ?_⟩
 ·have hb' : ¬ n < 65536 := by simpa using hb
  simp only [if_neg hb']
  exact ⟨trivial, trivial⟩
 ·have hb' : n < 65536 := by simpa using hb
  simp only [if_pos hb']
  refine ⟨_, rfl, ?_⟩
  refine v_set h.heap (by simp [h.length]) fun w3 h3 c3 _ => ⟨trivial, ⟨?_, by simp [h.length]⟩, c3⟩
  rw [h3, Nat.zero_add, map_set_int _ _ _ (by rw [h.length]; omega)]
def decN (F : Fl) (ts : List Tch) : Int := if ∀ t ∈ ts, rightT F.fr F.se t then decidesP F.g ts else 0
def decE (F : Fl) (ts : List Tch) : Int := if ∀ t ∈ ts, rightT F.fr F.se t then 0 else 2
theorem pol_stops {w : World} {b : Nat} {r : List Int} (h : PolAt w b r) {bf : Nat} {F : Fl} {fp : List Nat} (hF : FlowAt w bf F fp) {S : Nat → Prop} {p : Option Addr} {n c : Nat} {ts : List Tch} (hp : TouchesAt w S p n ts) (hn : n ≤ 9223372036854775807) (hin : ∀ t ∈ ts, t.2.length ≤ 9223372036854775807) {st : Int} (hst : r[10]? = some st) :
  Calls Tryz.prog 16 #[.pointer (some ⟨b, 0, none⟩), .pointer (some ⟨bf, 0, none⟩), .slice p n c] w fun e w' => ∃ (r1 : Bool) (r2 : Int), e = .returned (.tuple #[.bool r1, .int .i64 r2]) ∧
   (r1 = (!(bits .and .u32 (decN F ts) st == 0)) ∧ r2 = decE F ts ∧ Chg [] w w') := by
 refine ok_policy_Policy_Stops _ _ _ _ _ _ _ ?_
 unfold V_policy_Policy_Stops
 refine (pol_none h).mono ?_
 rintro _ w1 ⟨_, rfl, rfl, hw⟩
 subst w1
 refine ⟨_, rfl, fun h => by simp at h, fun _ => ?_⟩
 refine (flow_decides (c := c) hF hp hn hin).mono ?_
 rintro _ w2 ⟨r4, r5, rfl, c2, hr⟩
 have h2 := h.chg c2 (by simp)
 refine ⟨_, _, rfl, _, rfl, st, by rw [add_at]; exact h2.at (by simpa using hst), ?_⟩
 unfold decN decE
 by_cases hall : ∀ t ∈ ts, rightT F.fr F.se t
 ·rw [if_pos hall] at hr
  rw [if_pos hall, if_pos hall, hr.1, hr.2]; exact ⟨rfl, rfl, c2⟩
 ·rw [if_neg hall] at hr
  rw [if_neg hall, if_neg hall, hr.1, hr.2]; exact ⟨rfl, rfl, c2⟩
theorem touches_one {w : World} {b1 b2 : Nat} {p : Int × Int} {to : Int × Int} (h1 : w.heap[b1]? = some (.cells #[.int .i64 p.1, .int .i64 p.2] 62 (0, 0))) (h2 : w.heap[b2]? = some (.cells #[.int .i64 to.1, .int .i64 to.2, .slice (some (⟨b1, 0, none⟩ : Addr)) 1 1] 65 (0, 0)))
  (hp : i64s p.1 ∧ i64s p.2) (ht : i64s to.1 ∧ i64s to.2) : TouchesAt w (fun i => i = b1 ∨ i = b2) (some ⟨b2, 0, none⟩) 1 [(to, [p])] := by
 refine ⟨rfl, fun j t hj => ?_⟩
 cases j with
 | zero =>
  simp at hj; subst hj
  refine ⟨ht.1, ht.2, _, _, _, _, rfl, .inr rfl, by rw [Nat.zero_mul, add_at]; exact cellsAt_of h2, rfl, fun i x hi => ?_⟩
  cases i with
  | zero =>
   simp at hi; subst hi
   exact ⟨hp.1, hp.2, _, rfl, .inl rfl, by rw [Nat.zero_mul, add_at]; exact cellsAt_of h1⟩
  | succ i => simp at hi
 | succ j => simp at hj
theorem known_true (w : World) : Calls Tryz.prog 11 #[] w fun e w' => ∃ r : Bool, e = .returned (.bool r) ∧ (r = true ∧ Chg [] w w') := by
 refine ok_pomanderlaw13_known _ _ ?_
 unfold V_pomanderlaw13_known
 refine (pol_new w).mono ?_
 rintro _ w1 ⟨_, rfl, b, rfl, hP, c1, hb⟩
 refine ⟨_, rfl, ?_⟩
 refine (pol_strict hP 1).mono ?_
 rintro _ w2 ⟨r3, rfl, hr⟩
 rw [if_pos (by omega)] at hr
 obtain ⟨rfl, hP2, c2⟩ := hr
 refine ⟨_, rfl, ?_⟩
 have s1 := c1.size
 have c02 : Chg [] w w2 := c1.trans c2 (fun i hi hlt => by simp at hi; omega)
 refine (flow_new w2 1 1 4).mono ?_
 rintro _ w3 ⟨r4, r5, rfl, c3, hr⟩
 rw [if_pos (by decide)] at hr
 obtain ⟨rfl, bf, fp, rfl, hF, hfp⟩ := hr
 refine ⟨_, _, rfl, ?_⟩
 have c03 := c02.trans0 c3
 refine v_box (by rfl) (by rfl) fun b1 w5 e5 h5 c5 => ?_
 refine ⟨_, _, cellsAt_of h5, ?_⟩
 have hF5 := hF.chg c5 (by simp)
 have hP5 := (hP2.chg c3 (by simp)).chg c5 (by simp)
 have hlt := hF.lt
 have hPl := hP2.lt
 refine (flow_mark (p1 := 13) (p2 := 0) (n := 1) (set := 1) hF5 ⟨by omega, by omega⟩ (by omega)).mono ?_
 rintro _ w6 ⟨r6, rfl, rfl, fp', hF6, c6, hfp'⟩
 have s3 := c3.size
 have s5 := c5.size
 have hb1 : b1 ∉ fp := fun hm => by have := hlt _ hm; omega
 have hbfp : b ∉ fp := fun hm => by have := hfp _ hm; omega
 have h6 := c6.obj hb1 h5
 have hP6 := hP5.chg c6 hbfp
 have c06 : Chg [] w w6 := (c03.trans0 c5).trans c6 (fun i hi hlt => by have := hfp i hi; have := c02.size; omega)
 have hE : markE (flowNew 1 1 4) (13, 0) 1 1 = 0 := by decide
 refine ⟨_, rfl, _, _, cellsAt_of h6, ?_⟩
 refine v_alloc fun b2 w7 e7 h7 c7 => ?_
 refine v_alloc fun b3 w8 e8 h8 c8 => ?_
 have h78 := c8.obj (by simp) h7
 have c68 := c7.trans0 c8
 have hT := touches_one (p := (13, 0)) (to := (0, 0)) h78 h8 (by unfold i64s; omega) (by unfold i64s; omega)
 have hst : (List.set (List.replicate 11 (0 : Int)) 10 1)[10]? = some 1 := by decide
 refine (pol_stops (c := 1) (hP6.chg c68 (by simp)) (hF6.chg c68 (by simp)) hT (by omega) (by simp) hst).mono ?_
 rintro _ w9 ⟨r7, r8, rfl, rfl, rfl, c9⟩
 have c69 := c68.trans0 c9
 have h9 := c69.obj (by simp) h6
 refine ⟨_, _, rfl, _, _, cellsAt_of h9, _, _, cellsAt_of h9, ?_⟩
 refine v_alloc fun b4 w10 e10 h10 c10 => ?_
 refine v_alloc fun b5 w11 e11 h11 c11 => ?_
 have h1011 := c11.obj (by simp) h10
 have c611 := (c69.trans0 c10).trans0 c11
 have hT2 := touches_one (p := (13, 0)) (to := (13, 0)) h1011 h11 (by unfold i64s; omega) (by unfold i64s; omega)
 refine (pol_stops (c := 1) (hP6.chg c611 (by simp)) (hF6.chg c611 (by simp)) hT2 (by omega) (by simp) hst).mono ?_
 rintro _ w12 ⟨r9, r10, rfl, rfl, rfl, c12⟩
 refine ⟨_, _, rfl, ?_, c06.trans0 (c611.trans0 c12)⟩
 have hF' : markF (flowNew 1 1 4) (13, 0) 1 1 = { flowNew 1 1 4 with sets := [0, 1], g := putP (fun _ => 0) (13, 0) 1 } := by
  unfold markF; rw [if_pos hE]; rfl
 rw [hF']
 decide
end Go.Proofs.YtfcfkhbkkfpehaaGreat
end
section
/- The laws' helpers: broad, made. -/
namespace Go.Proofs.YtfcfkhbkkfpehaaGreat
open Go Go.RowKit Go.X
def broadP (m : Nat) (ts : List Tch) : Prop := 30 < m ∨ 20 < ts.length ∨ ∃ t ∈ ts, 20 < t.2.length
instance (m : Nat) (ts : List Tch) : Decidable (broadP m ts) := by unfold broadP; exact inferInstance
theorem broad_ok {w : World} {m1 : Option Addr} {mn mc : Nat} {S : Nat → Prop} {p : Option Addr} {n c : Nat} {ts : List Tch} (hp : TouchesAt w S p n ts) (hn : n ≤ maxLen) (hm : mn ≤ maxLen) :
  Calls Tryz.prog 10 #[.slice m1 mn mc, .slice p n c] w fun e w' => ∃ r : Bool, e = .returned (.bool r) ∧ (r = decide (broadP mn ts) ∧ w' = w) := by
 have hl := hp.length
 simp only [maxLen] at hn hm
 refine ok_pomanderlaw13_broad _ _ _ _ _ _ _ _ ?_
 unfold V_pomanderlaw13_broad
 refine ⟨fun h => ?_, fun h => ?_⟩
 ·have h' : 30 < mn ∨ 20 < n := by
   simp at h; omega
  refine ⟨?_, rfl⟩
  symm; rw [decide_eq_true_eq]; unfold broadP; omega
 have h' : ¬ 30 < mn ∧ ¬ 20 < n := by
  simp at h; omega
 refine ⟨fun s w' => ∃ j : Nat, s.2 = (j : Int) ∧ j ≤ n ∧ w' = w ∧ ∀ t ∈ ts.take j, ¬ 20 < t.2.length, fun s _ => (n - s.2).toNat, ⟨0, rfl, by omega, rfl, by intro t ht; simp at ht⟩, ?_⟩
 rintro ⟨s1, s2⟩ w1 ⟨j, rfl, hj, hw, hall⟩
 subst w1
 refine ⟨fun hlt => ?_, fun hge => ?_⟩
 ·have hlt' : j < n := by simpa using hlt
  obtain ⟨t, ht⟩ := get_of (l := ts) (j := j) (by omega)
  obtain ⟨_, _, a, q, qn, qc, rfl, _, hc, hps⟩ := hp.each j t ht
  refine ⟨a, rfl, by simp only []; omega, by simp only []; omega, q, qn, qc, by simpa using hc.2.2.1, fun hb => ?_, fun hb => ?_⟩
  ·have hb' : 20 < qn := by
    simp at hb; omega
   refine ⟨?_, rfl⟩
   symm; rw [decide_eq_true_eq]
   exact .inr (.inr ⟨t, List.mem_of_getElem? ht, by rw [hps.length]; exact hb'⟩)
  ·have hb' : ¬ 20 < qn := by
    simp at hb; omega
   simp only []
   rw [wr (by omega) (by omega)]
   refine ⟨⟨j + 1, by omega, by omega, trivial, ?_⟩, by omega⟩
   rw [take_snoc ht]
   intro x hx
   rcases List.mem_append.1 hx with hx | hx
   ·exact hall x hx
   ·simp at hx; rw [hx, hps.length]; exact hb'
 ·have hge' : ¬ j < n := by simpa using hge
  rw [List.take_of_length_le (by omega)] at hall
  refine ⟨?_, rfl⟩
  symm; rw [decide_eq_false_iff_not]
  rintro (h1 | h1 | ⟨t, ht, h1⟩)
  ·exact h'.1 h1
  ·omega
  ·exact hall t ht h1
def madeF (ms : List Pr) : Fl := ms.foldl (fun F m => markF F m.1 1 m.2) (flowNew 2 2 65536)
def madeR (ms : List Pr) : Rf := ms.foldl (fun R m => refMark R m.1 1 m.2) ⟨2, 2, 65536, [0], []⟩
theorem madeF_snoc (ms : List Pr) (m : Pr) : madeF (ms ++ [m]) = markF (madeF ms) m.1 1 m.2 := by simp [madeF]
theorem madeR_snoc (ms : List Pr) (m : Pr) : madeR (ms ++ [m]) = refMark (madeR ms) m.1 1 m.2 := by simp [madeR]
theorem refMark_shape (R : Rf) (p : Int × Int) (n set : Int) : (refMark R p n set).fr = R.fr ∧ (refMark R p n set).se = R.se ∧ (refMark R p n set).most = R.most := by
 unfold refMark; split <;> exact ⟨rfl, rfl, rfl⟩
theorem refMark_len (R : Rf) (p : Int × Int) (n set : Int) : (refMark R p n set).pairs.length ≤ R.pairs.length + n.toNat ∧ (refMark R p n set).sets.length ≤ R.sets.length + 1 := by
 unfold refMark
 split
 ·refine ⟨refFill_length _ _ _ _, ?_⟩
  simp only [keepS]; split <;> simp
 ·exact ⟨by omega, by omega⟩
theorem keepS_ne {most : Int} {sets : List Int} (h : sets ≠ []) (set : Int) : keepS most sets set ≠ [] := by
 unfold keepS; split
 ·exact h
 ·simp
theorem refMark_ne {R : Rf} (h : R.sets ≠ []) (p : Int × Int) (n set : Int) : (refMark R p n set).sets ≠ [] := by
 unfold refMark; split
 ·exact keepS_ne h set
 ·exact h
theorem madeR_ok (ms : List Pr) : (madeR ms).fr = 2 ∧ (madeR ms).se = 2 ∧ (madeR ms).most = 65536 ∧ (madeR ms).pairs.length ≤ ms.length ∧ (madeR ms).sets.length ≤ ms.length + 1 ∧ (madeR ms).sets ≠ [] := by
 unfold madeR
 have : ∀ (ms : List Pr) (R : Rf), R.fr = 2 → R.se = 2 → R.most = 65536 → R.sets ≠ [] → (ms.foldl (fun R m => refMark R m.1 1 m.2) R).fr = 2 ∧ (ms.foldl (fun R m => refMark R m.1 1 m.2) R).se = 2 ∧ (ms.foldl (fun R m => refMark R m.1 1 m.2) R).most = 65536 ∧ (ms.foldl (fun R m => refMark R m.1 1 m.2) R).pairs.length ≤ R.pairs.length + ms.length ∧ (ms.foldl (fun R m => refMark R m.1 1 m.2) R).sets.length ≤ R.sets.length + ms.length ∧ (ms.foldl (fun R m => refMark R m.1 1 m.2) R).sets ≠ [] := by
  intro ms
  induction ms with
  | nil => intro R h1 h2 h3 h4; exact ⟨h1, h2, h3, by simp, by simp, h4⟩
  | cons m ms ih =>
   intro R h1 h2 h3 h4
   simp only [List.foldl_cons, List.length_cons]
   obtain ⟨a, b, c⟩ := refMark_shape R m.1 1 m.2
   obtain ⟨k1, k2⟩ := refMark_len R m.1 1 m.2
   have := ih (refMark R m.1 1 m.2) (by rw [a, h1]) (by rw [b, h2]) (by rw [c, h3]) (refMark_ne h4 _ _ _)
   have e1 : (1 : Int).toNat = 1 := rfl
   rw [e1] at k1
   exact ⟨this.1, this.2.1, this.2.2.1, by omega, by omega, this.2.2.2.2.2⟩
 have := this ms ⟨2, 2, 65536, [0], []⟩ rfl rfl rfl (by simp)
 simp only [List.length_nil, List.length_cons] at this
 exact ⟨this.1, this.2.1, this.2.2.1, by omega, by omega, this.2.2.2.2.2⟩
theorem made_ok {w : World} {S : Nat → Prop} {p : Option Addr} {n c : Nat} {ms : List Pr} (hp : MarksAt w S p n ms) (hn : n ≤ 1000) :
  Calls Tryz.prog 14 #[.slice p n c] w fun e w' => ∃ (r1 : Option Addr) (r2 : Int) (r3 : Int) (r4 : Int) (r5 : Option Addr) (r5n : Nat) (r5c : Nat) (r6 : Option Addr) (r6n : Nat) (r6c : Nat), e = .returned (.tuple #[.pointer r1, .agg #[.int .i64 r2, .int .i64 r3, .int .i64 r4, .slice r5 r5n r5c, .slice r6 r6n r6c]]) ∧
   (∃ bf fp, r1 = some ⟨bf, 0, none⟩ ∧ FlowAt w' bf (madeF ms) fp ∧ r2 = 2 ∧ r3 = 2 ∧ r4 = 65536 ∧ RefAt w' (madeR ms) r5 r5n r5c r6 r6n r6c ∧ Chg [] w w' ∧ (∀ i ∈ fp, w.heap.size ≤ i) ∧ (∀ i ∈ rowB r5 ++ rowB r6, w.heap.size ≤ i ∧ i ∉ fp)) := by
 have hl := hp.length
 refine ok_pomanderlaw13_made _ _ _ _ _ ?_
 unfold V_pomanderlaw13_made
 refine v_alloc fun b1 w1 e1 h1 c1 => ?_
 refine v_box (by rfl) (by rfl) fun b2 w3 e3 h3 c3 => ?_
 have h13 := c3.obj (by simp) h1
 have c03 := c1.trans0 c3
 have l1 : b1 < w1.heap.size := lt_of_heap h1
 have l2 : b2 < w3.heap.size := lt_of_heap h3
 have s1 := c1.size
 have s3 := c3.size
 refine ⟨_, _, cellsAt_of h3, ?_⟩
 refine (flow_new w3 2 2 65536).mono ?_
 rintro _ w4 ⟨r7, r8, rfl, c4, hr⟩
 rw [if_pos (by decide)] at hr
 obtain ⟨rfl, bf, fp, rfl, hF, hfp⟩ := hr
 have s4 := c4.size
 refine ⟨_, _, rfl, _, _, cellsAt_of (c4.obj (by simp) h3), ?_⟩
 refine (ref_new 2 2 65536).mono ?_
 rintro _ w5 ⟨r9, r10, r11, r12, r12n, r12c, r13, r13n, r13c, rfl, rfl, rfl, rfl, hR, c5, hrf⟩
 have s5 := c5.size
 refine ⟨_, _, _, _, _, _, _, _, _, rfl, ?_⟩
 refine v_box (by rfl) (by rfl) fun b3 w7 e7 h7 c7 => ?_
 have s7 := c7.size
 have c47 := c5.trans0 c7
 have c07 := (c03.trans0 c4).trans0 c47
 have l3 : b3 < w7.heap.size := lt_of_heap h7
 have h17 := (c4.trans0 c47).obj (by simp) h13
 have hFlt := hF.lt
 have hRlt4 := hR.sets.lt
 have hRlt5 := hR.pairs.lt
 refine ⟨fun s w' => ∃ (j : Nat) (fp' : List Nat) (q4 : Option Addr) (m4 k4 : Nat) (q5 : Option Addr) (m5 k5 : Nat), s = (j : Int) ∧ j ≤ n ∧ FlowAt w' bf (madeF (ms.take j)) fp' ∧ RefAt w' (madeR (ms.take j)) q4 m4 k4 q5 m5 k5 ∧ Chg [] w w' ∧
   w'.heap[b1]? = some (.cells #[.int .i64 0, .int .i64 0, .int .i64 0, .slice none 0 0, .slice none 0 0] 43 (0, 0)) ∧ w'.heap[b3]? = some (.cells #[.int .i64 2, .int .i64 2, .int .i64 65536, .slice q4 m4 k4, .slice q5 m5 k5] 43 (0, 0)) ∧ w7.heap.size ≤ w'.heap.size ∧
   (∀ i ∈ fp', w3.heap.size ≤ i ∧ i ≠ b3) ∧ (∀ i ∈ rowB q4 ++ rowB q5, w3.heap.size ≤ i ∧ i ∉ fp' ∧ i ≠ b3),
  fun s _ => (n - s).toNat, ⟨0, fp, r12, r12n, r12c, r13, r13n, r13c, rfl, by omega, hF.chg c47 (by simp), hR.chg c7 (by simp) (by simp), c07, h17, h7, Nat.le_refl _, fun i hi => ?_, fun i hi => ?_⟩, ?_⟩
 ·have := hfp i hi; have := hFlt i hi; omega
 ·have h1 := hrf i hi
  have h2 : i < w5.heap.size := by
   rcases List.mem_append.1 hi with h | h
   ·exact hRlt4 i h
   ·exact hRlt5 i h
  exact ⟨by omega, fun hm => by have := hFlt i hm; omega, by omega⟩
 rintro _ w8 ⟨j, fp', q4, m4, k4, q5, m5, k5, rfl, hj, hF8, hR8, c8, h18, h38, s8, hfp8, hr8⟩
 refine ⟨fun hlt => ?_, fun hge => ?_⟩
 ·have hlt' : j < n := by simpa using hlt
  obtain ⟨x, hx⟩ := get_of (l := ms) (j := j) (by omega)
  refine v_drew fun w9 c9 => ?_
  obtain ⟨kx, kx0, kx1, a, rfl, ha, hc⟩ := (hp.chg (c8.trans0 c9) (by simp)).each j x hx
  refine ⟨a, rfl, by omega, by omega, x.1.1, x.1.2, ⟨by simpa using hc.1, by simpa using hc.2.1, trivial⟩, a, rfl, by omega, by omega, x.2, by simpa using hc.2.2.1, ?_⟩
  have hF8lt := hF8.lt
  have hR8lt4 := hR8.sets.lt
  have hR8lt5 := hR8.pairs.lt
  have s9 := c9.size
  refine (flow_mark (p1 := x.1.1) (p2 := x.1.2) (n := 1) (set := x.2) (hF8.chg c9 (by simp)) kx kx0).mono ?_
  rintro _ w10 ⟨r14, rfl, rfl, fp10, hF10, c10, hfp10⟩
  have s10 := c10.size
  have c810 : Chg fp' w8 w10 := c9.nil.trans c10 (fun _ h _ => h)
  refine ⟨_, rfl, v_drew fun w11 c11 => ?_⟩
  have s11 := c11.size
  have c811 : Chg fp' w8 w11 := c810.trans c11.nil (fun _ h _ => h)
  have c011 : Chg [] w w11 := c8.trans c811 (fun i hi hl => by have := (hfp8 i hi).1; omega)
  have h311 := c811.obj (fun hm => (hfp8 _ hm).2 rfl) h38
  have h111 := c811.obj (fun hm => by have := (hfp8 _ hm).1; omega) h18
  obtain ⟨_, _, _, a', ha', _, hc'⟩ := (hp.chg c011 (by simp)).each j x hx
  cases ha'
  have hRok := madeR_ok (ms.take j)
  have hlen : (ms.take j).length ≤ n := by rw [List.length_take]; omega
  refine ⟨_, _, _, _, _, _, _, _, _, cellsAt_of h311, a, rfl, by omega, by omega, x.1.1, x.1.2, ⟨by simpa using hc'.1, by simpa using hc'.2.1, trivial⟩, a, rfl, by omega, by omega, x.2, by simpa using hc'.2.2.1, ?_⟩
  have hR11 := hR8.chg c811 (fun i hi => (hr8 i (List.mem_append.2 (.inl hi))).2.1) (fun i hi => (hr8 i (List.mem_append.2 (.inr hi))).2.1)
  have hm4 := hR8.n4
  have hm5 := hR8.n5
  have hmark := ref_mark (p1 := x.1.1) (p2 := x.1.2) (n := 1) (set := x.2) hR11 (by omega) (by omega) hRok.2.2.2.2.2 (by rw [hRok.1, hRok.2.1]; omega) kx0
  rw [hRok.1, hRok.2.1, hRok.2.2.1] at hmark
  refine hmark.mono ?_
  rintro _ w12 ⟨r15, r16, r17, r18, r18n, r18c, r19, r19n, r19c, r20, rfl, rfl, rfl, rfl, rfl, hR12, c12, hf12⟩
  have s12 := c12.size
  have h312 := c12.obj (by simp) h311
  obtain ⟨_, _, _, a', ha', _, hc''⟩ := (hp.chg (c011.trans0 c12) (by simp)).each j x hx
  cases ha'
  refine ⟨_, _, _, _, _, _, _, _, _, _, rfl, ⟨cellsAt_of h312, ⟨by simpa using hc''.1, by simpa using hc''.2.1, trivial⟩, by simpa using hc''.2.2.1, trivial⟩, ?_⟩
  refine v_fill h312 (by rfl) (by rfl) fun w13 h13' c13 _ => ?_
  rw [wr (by omega) (by omega)]
  have c012 := c011.trans0 c12
  have hF10lt := hF10.lt
  have hnew : ∀ i ∈ rowB r18 ++ rowB r19, w3.heap.size ≤ i ∧ i ∉ fp10 ∧ i ≠ b3 := fun i hi => by
   rcases hf12 i hi with h | h
   ·obtain ⟨g1, g2, g3⟩ := hr8 i h
    refine ⟨g1, fun hm => ?_, g3⟩
    rcases hfp10 i hm with h' | h'
    ·exact g2 h'
    ·rcases List.mem_append.1 h with h | h
     ·have := hR8lt4 i h; omega
     ·have := hR8lt5 i h; omega
   ·exact ⟨by omega, fun hm => by have := hF10lt i hm; omega, by omega⟩
  have hfnew : ∀ i ∈ fp10, w3.heap.size ≤ i ∧ i ≠ b3 := fun i hi => by
   rcases hfp10 i hi with h | h
   ·exact hfp8 i h
   ·exact ⟨by omega, by omega⟩
  refine ⟨⟨j + 1, fp10, r18, r18n, r18c, r19, r19n, r19c, by omega, by omega, ?_, ?_, ?_, ?_, h13', ?_, hfnew, hnew⟩, by simp only []; omega⟩
  ·rw [take_snoc hx, madeF_snoc]
   exact ((hF10.chg c11 (by simp)).chg c12 (by simp)).chg c13 (fun i hi hm => by simp at hm; exact (hfnew i hi).2 hm)
  ·rw [take_snoc hx, madeR_snoc]
   exact hR12.chg c13 (fun i hi hm => by simp at hm; exact (hnew i (List.mem_append.2 (.inl hi))).2.2 hm) (fun i hi hm => by simp at hm; exact (hnew i (List.mem_append.2 (.inr hi))).2.2 hm)
  ·exact c012.trans c13 (fun i hi hl => by simp at hi; omega)
  ·exact c13.obj (by simp; omega) (c12.obj (by simp) h111)
  ·have := c13.size; omega
 ·have hge' : ¬ j < n := by simpa using hge
  have htake : ms.take j = ms := List.take_of_length_le (by omega)
  rw [htake] at hF8 hR8
  refine v_drew fun w14 c14 => ?_
  refine ⟨_, _, _, _, _, _, _, _, _, cellsAt_of (c14.obj (by simp) h38), ?_⟩
  refine v_fill (c14.obj (by simp) h18) (by rfl) (by rfl) fun w15 h15 c15 _ => ?_
  have hc : Chg [b1] w8 w15 := c14.nil.trans c15 (fun _ h _ => h)
  exact ⟨_, _, _, _, _, _, _, _, _, cellsAt_of h15, bf, fp', rfl, hF8.chg hc (fun i hi hm => by simp at hm; have := (hfp8 i hi).1; omega), rfl, rfl, rfl,
   hR8.chg hc (fun i hi hm => by simp at hm; have := (hr8 i (List.mem_append.2 (.inl hi))).1; omega) (fun i hi hm => by simp at hm; have := (hr8 i (List.mem_append.2 (.inr hi))).1; omega),
   c8.trans hc (fun i hi hl => by simp at hi; omega), fun i hi => by have := (hfp8 i hi).1; omega, fun i hi => ⟨by have := (hr8 i hi).1; omega, (hr8 i hi).2.1⟩⟩
end Go.Proofs.YtfcfkhbkkfpehaaGreat
end
section
/- Equality of rules. -/
namespace Go.Proofs.YtfcfkhbkkfpehaaGreat
open Go Go.RowKit Go.X
theorem eqN (d : Nat) (w : World) (xs ys : Array Value) (f g : Nat → Int) : ∀ (is : List Nat), (∀ i ∈ is, xs[i]? = some (.int .u32 (f i)) ∧ ys[i]? = some (.int .u32 (g i))) →
  (Op.eqItems (d + 1) 22 1 xs ys is).run Tryz.prog w = .ok (is.all fun i => f i == g i) w
 | [], _ => by simp [Op.eqItems]
 | i :: is, h => by
  obtain ⟨h1, h2⟩ := h i (.head _)
  have ih := eqN d w xs ys f g is (fun j hj => h j (.tail _ hj))
  have p1 : (part 22 xs (i * 1)).run Tryz.prog w = .ok (.int .u32 (f i)) w := by simp [part, go_sem, h1]
  have p2 : (part 22 ys (i * 1)).run Tryz.prog w = .ok (.int .u32 (g i)) w := by simp [part, go_sem, h2]
  have p3 : (Op.equalIn (d + 1) 22 (.int .u32 (f i)) (.int .u32 (g i))).run Tryz.prog w = .ok (f i == g i) w := by simp [go_sem]
  unfold Op.eqItems
  simp only [Sem.run_bind, p1, p2, p3, Result.andThen_ok, List.all_cons]
  cases hq : (f i == g i)
  ·simp
  ·simpa using ih
theorem eq64 (d : Nat) (w : World) (xs ys : List Int) (hx : xs.length = 5) (hy : ys.length = 5) :
  (Op.equalIn (d + 2) 23 (.agg (xs.map (Value.int .u32)).toArray) (.agg (ys.map (Value.int .u32)).toArray)).run Tryz.prog w = .ok (decide (xs = ys)) w := by
 rw [run_equalIn_array (P := Tryz.prog) (w := w) (d + 1) (e := 22) (n := 5) (i := Tryz.t22) _ _ (by kernel_rfl) (by kernel_rfl)]
 rw [show Tryz.prog.cellsOf 22 = 1 by kernel_rfl]
 rw [eqN d w _ _ (fun i => xs.getD i 0) (fun i => ys.getD i 0)]
 ·congr 1
  apply Bool.eq_iff_iff.2
  simp only [List.all_eq_true, List.mem_range, beq_iff_eq, decide_eq_true_eq]
  constructor
  ·intro h
   apply List.ext_getElem (by omega)
   intro i h1 h2
   have := h i (by omega)
   simpa [List.getD, h1, h2] using this
  ·rintro rfl; simp
 ·intro i hi
  have hi' : i < 5 := by simpa using hi
  constructor
  ·simp [List.getD, show i < xs.length by omega]
  ·simp [List.getD, show i < ys.length by omega]
theorem eq64' (w : World) (a1 a2 a3 a4 a5 b1 b2 b3 b4 b5 : Int) : (Op.equalIn 9999 23 (.agg #[.int .u32 a1, .int .u32 a2, .int .u32 a3, .int .u32 a4, .int .u32 a5]) (.agg #[.int .u32 b1, .int .u32 b2, .int .u32 b3, .int .u32 b4, .int .u32 b5])).run Tryz.prog w = .ok (decide ([a1, a2, a3, a4, a5] = [b1, b2, b3, b4, b5])) w := eq64 9997 w [a1, a2, a3, a4, a5] [b1, b2, b3, b4, b5] rfl rfl
theorem eq66 (x y : Operand) (w : World) (a1 a2 a3 a4 a5 a6 a7 a8 a9 a10 a11 b1 b2 b3 b4 b5 b6 b7 b8 b9 b10 b11 : Int) : ((do eqGuard .eql 25 x y (.agg #[.int .u32 a1, .int .u32 a2, .int .u32 a3, .int .u32 a4, .int .u32 a5, .int .u32 a6, .int .u32 a7, .int .u32 a8, .int .u32 a9, .int .u32 a10, .int .u32 a11]) (.agg #[.int .u32 b1, .int .u32 b2, .int .u32 b3, .int .u32 b4, .int .u32 b5, .int .u32 b6, .int .u32 b7, .int .u32 b8, .int .u32 b9, .int .u32 b10, .int .u32 b11]); binOp .eql 25 (.agg #[.int .u32 a1, .int .u32 a2, .int .u32 a3, .int .u32 a4, .int .u32 a5, .int .u32 a6, .int .u32 a7, .int .u32 a8, .int .u32 a9, .int .u32 a10, .int .u32 a11]) (.agg #[.int .u32 b1, .int .u32 b2, .int .u32 b3, .int .u32 b4, .int .u32 b5, .int .u32 b6, .int .u32 b7, .int .u32 b8, .int .u32 b9, .int .u32 b10, .int .u32 b11]) : Sem Value)).run Tryz.prog w = .ok (.bool (decide ([a1, a2, a3, a4, a5, a6, a7, a8, a9, a10, a11] = [b1, b2, b3, b4, b5, b6, b7, b8, b9, b10, b11]))) w := by
 by_cases h1 : [a1, a2, a3, a4, a5] = [b1, b2, b3, b4, b5] <;> by_cases h2 : [a6, a7, a8, a9, a10] = [b6, b7, b8, b9, b10] <;> by_cases h3 : a11 = b11 <;> simp [go_sem, eq64', h1, h2, h3]
 all_goals try simp at h1 h2
 all_goals try simp_all
 all_goals try omega
end Go.Proofs.YtfcfkhbkkfpehaaGreat
end
