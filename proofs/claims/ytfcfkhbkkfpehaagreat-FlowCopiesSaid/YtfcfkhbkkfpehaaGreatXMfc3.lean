/- Texts of the claim, merged: XFt1 XFlow2 XFlow3 XRef1 XRef2 XRef3 XRef4 XRel XOpen XOpen2 XPol1 XIter XLoc XRange. -/
import Derived.Test.YtfcfkhbkkfpehaaGreatXMfc2
import Derived.Test.YtfcfkhbkkfpehaaGreatProg
import Derived.WalkKit
import Derived.ProofKit
import Derived.OpenShut
import Derived.ChangeOld
import Derived.Carry
import Derived.Maps.RangeRun
import Derived.RangeFuncSeq
import Derived.RangeFuncRecord
import Derived.RangeFuncLeaves
import Derived.TacticsIn
set_option linter.unusedSectionVars false
set_option linter.unusedSimpArgs false
set_option linter.unusedVariables false
section
namespace Go.Proofs.YtfcfkhbkkfpehaaGreat
open Go.X
/- pomander/flow.New -/
def V_flow_New (form1 : Int) (form2 : Int) (most1 : Int) (w : World) (R : (Option Addr) → Int → World → Prop) : Prop :=
 ∀ b1 : Nat, b1 = World.size w → ∀ w1 : World, w1 = World.alloc w (.cells #[.int .i64 form1, .int .i64 form2] 37) → (Calls Tryz.prog 57 #[.int .i64 most1] w1 fun e w2 => ∃ (r3 : Option Addr) (r4 : Int), e = .returned (.tuple #[.pointer r3, .int .i64 r4]) ∧ (∃ (t1 : Int), w2.cell? (⟨b1, 0, none⟩ : Addr) = some (.int .i64 t1) ∧ (Calls Tryz.prog 58 #[.int .i64 t1] w2 fun e w3 => ∃ (r5 : Option Addr) (r6 : Int), e = .returned (.tuple #[.pointer r5, .int .i64 r6]) ∧ (∃ (t2 : Int), w3.cell? (⟨b1, 1, none⟩ : Addr) = some (.int .i64 t2) ∧ (Calls Tryz.prog 58 #[.int .i64 t2] w3 fun e w4 => ∃ (r7 : Option Addr) (r8 : Int), e = .returned (.tuple #[.pointer r7, .int .i64 r8]) ∧ ((((!(r4 == 0) || !(r6 == 0)) || !(r8 == 0)) = true → R none 2 w4) ∧ (((!(r4 == 0) || !(r6 == 0)) || !(r8 == 0)) = false → ∃ (t3 : Int) (t4 : Int), CellsAt w4 (⟨b1, 0, none⟩ : Addr) 0 [.int .i64 t3, .int .i64 t4] ∧ (∀ b2 : Nat, b2 = World.size w4 → ∀ w5 : World, w5 = World.alloc w4 (.map #[] 0) → (∀ b3 : Nat, b3 = World.size w5 → ∀ w6 : World, w6 = World.alloc w5 (.cells #[.int .i64 t3, .int .i64 t4, .pointer r3, .pointer r5, .pointer r7, .map (some b2)] 101) → (R (some (⟨b3, 0, none⟩ : Addr)) 0 w6))))))))))
set_option maxRecDepth 100000 in
theorem ok_flow_New (form1 : Int) (form2 : Int) (most1 : Int) (w : World) (R : (Option Addr) → Int → World → Prop) (h : V_flow_New form1 form2 most1 w R) : Calls Tryz.prog 26 #[.agg #[.int .i64 form1, .int .i64 form2], .int .i64 most1] w (fun e w' => ∃ (r1 : Option Addr) (r2 : Int), e = .returned (.tuple #[.pointer r1, .int .i64 r2]) ∧ R r1 r2 w') := by
 unfold V_flow_New at h
 refine enter (N := 46) Tryz.func26 rfl rfl ?_
 refine CW.seq ?_
 refine CW.region fun L hL => ?_
 obtain ⟨b1, hb_b1⟩ : ∃ b1, b1 = World.size w := ⟨_, rfl⟩
 obtain ⟨w1, hw_w1⟩ : ∃ w1, w1 = World.alloc w (.cells #[.int .i64 form1, .int .i64 form2] 37) := ⟨_, rfl⟩
 replace h := h b1 hb_b1 w1 hw_w1
 refine LW.val hL rfl (Wants.free rfl) rfl (boxE hb_b1 hw_w1 (Vl.box (v := .agg #[.int .i64 form1, .int .i64 form2]) rfl)) ?_
 refine LW.rd hL rfl (Wants.free rfl) rfl (Rd.assign (v := .pointer none) rfl) ?_
 refine LW.rd hL rfl (Wants.free rfl) rfl (Rd.assign (v := .int .i64 0) rfl) ?_
 refine LW.nil hL rfl ?_
 refine NW.then ?_
 refine CW.seq ?_
 refine CW.region fun L hL => ?_
 refine LW.rd hL rfl (Wants.free rfl) rfl (Rd.move (v := .int .i64 most1) rfl) ?_
 refine LW.call hL rfl (Wants.free rfl) rfl (Cl.fn (f := 57) rfl Tryz.func57 (by kernel_rfl) rfl) h (fun e w2 h_ => ?_)
 clear h
 obtain ⟨r3, r4, rfl, h⟩ := h_
 refine ⟨_, rfl, ?_⟩
 refine LW.rd hL rfl (Wants.free rfl) rfl (Rd.move (v := .tuple #[.pointer r3, .int .i64 r4]) rfl) ?_
 refine LW.rd hL rfl (Wants.free rfl) rfl (Rd.extract (v := .pointer r3) rfl rfl) ?_
 refine LW.rd hL rfl (Wants.free rfl) rfl (Rd.extract (v := .int .i64 r4) rfl rfl) ?_
 refine LW.rd hL rfl (Wants.free rfl) rfl (Rd.assign (v := .pointer r3) rfl) ?_
 refine LW.rd hL rfl (Wants.free rfl) rfl (Rd.assign (v := .int .i64 r4) rfl) ?_
 refine LW.nil hL rfl ?_
 refine NW.then ?_
 refine CW.seq ?_
 refine CW.region fun L hL => ?_
 refine LW.rd hL rfl (Wants.free rfl) rfl (Rd.fa (v := .pointer (some (⟨b1, 0, none⟩ : Addr))) rfl (fun _ => by kernel_rfl)) ?_
 obtain ⟨t1, hc1, h⟩ := h
 refine LW.rd hL rfl (Wants.free rfl) rfl (Rd.ld (v := .int .i64 t1) rfl (by kernel_rfl) (eqs hc1)) ?_
 refine LW.call hL rfl (Wants.free rfl) rfl (Cl.fn (f := 58) rfl Tryz.func58 (by kernel_rfl) rfl) h (fun e w3 h_ => ?_)
 clear h
 obtain ⟨r5, r6, rfl, h⟩ := h_
 refine ⟨_, rfl, ?_⟩
 refine LW.rd hL rfl (Wants.free rfl) rfl (Rd.move (v := .tuple #[.pointer r5, .int .i64 r6]) rfl) ?_
 refine LW.rd hL rfl (Wants.free rfl) rfl (Rd.extract (v := .pointer r5) rfl rfl) ?_
 refine LW.rd hL rfl (Wants.free rfl) rfl (Rd.extract (v := .int .i64 r6) rfl rfl) ?_
 refine LW.rd hL rfl (Wants.free rfl) rfl (Rd.assign (v := .pointer r5) rfl) ?_
 refine LW.rd hL rfl (Wants.free rfl) rfl (Rd.assign (v := .int .i64 r6) rfl) ?_
 refine LW.nil hL rfl ?_
 refine NW.then ?_
 refine CW.seq ?_
 refine CW.region fun L hL => ?_
 refine LW.rd hL rfl (Wants.free rfl) rfl (Rd.fa (v := .pointer (some (⟨b1, 1, none⟩ : Addr))) rfl (fun _ => by kernel_rfl)) ?_
 obtain ⟨t2, hc2, h⟩ := h
 refine LW.rd hL rfl (Wants.free rfl) rfl (Rd.ld (v := .int .i64 t2) rfl (by kernel_rfl) (eqs hc2)) ?_
 refine LW.call hL rfl (Wants.free rfl) rfl (Cl.fn (f := 58) rfl Tryz.func58 (by kernel_rfl) rfl) h (fun e w4 h_ => ?_)
 clear h
 obtain ⟨r7, r8, rfl, h⟩ := h_
 refine ⟨_, rfl, ?_⟩
 refine LW.rd hL rfl (Wants.free rfl) rfl (Rd.move (v := .tuple #[.pointer r7, .int .i64 r8]) rfl) ?_
 refine LW.rd hL rfl (Wants.free rfl) rfl (Rd.extract (v := .pointer r7) rfl rfl) ?_
 refine LW.rd hL rfl (Wants.free rfl) rfl (Rd.extract (v := .int .i64 r8) rfl rfl) ?_
 refine LW.rd hL rfl (Wants.free rfl) rfl (Rd.assign (v := .pointer r7) rfl) ?_
 refine LW.rd hL rfl (Wants.free rfl) rfl (Rd.assign (v := .int .i64 r8) rfl) ?_
 refine LW.nil hL rfl ?_
 refine NW.then ?_
 refine CW.seq ?_
 refine CW.seq ?_
 refine CW.region fun L hL => ?_
 refine LW.rd hL rfl (Wants.free rfl) rfl (Rd.move (v := .int .i64 r4) rfl) ?_
 refine LW.rd hL rfl (Wants.free rfl) rfl (Rd.bin (v := .bool (!(r4 == 0))) rfl rfl (fun w => by kernel_rfl)) ?_
 refine LW.rd hL rfl (Wants.free rfl) rfl (Rd.move (v := .bool (!(r4 == 0))) rfl) ?_
 suffices K1 : L 6 [(2, .pointer (some (⟨b1, 0, none⟩ : Addr))), (4, .pointer none), (5, .int .i64 0), (6, .pointer r3), (8, .pointer r5), (10, .pointer r7), (11, .int .i64 r8), (34, .bool (!(r4 == 0) || !(r6 == 0)))] w4 by
  rcases Bool.eq_false_or_eq_true (!(r4 == 0)) with hb2 | hb2
  ·skip
   refine LW.skip hL rfl (Skips.on rfl rfl rfl rfl rfl hb2) rfl ?_
   refine LW.skip hL rfl (Skips.on rfl rfl rfl rfl rfl hb2) rfl ?_
   refine LW.rd hL rfl (Wants.free rfl) rfl (Rd.pickT rfl hb2 rfl) ?_
   exact LW.sub hL (by exact ⟨rfl, rfl, rfl, rfl, rfl, rfl, rfl, (by rw [hb2]; rfl), trivial⟩) K1
  ·skip
   refine LW.rd hL rfl (Wants.on rfl rfl rfl rfl rfl hb2) rfl (Rd.move (v := .int .i64 r6) rfl) ?_
   refine LW.rd hL rfl (Wants.on rfl rfl rfl rfl rfl hb2) rfl (Rd.bin (v := .bool (!(r6 == 0))) rfl rfl (fun w => by kernel_rfl)) ?_
   refine LW.rd hL rfl (Wants.free rfl) rfl (Rd.pickF rfl hb2 rfl) ?_
   exact LW.sub hL (by exact ⟨rfl, rfl, rfl, rfl, rfl, rfl, rfl, (by rw [hb2]; rfl), trivial⟩) K1
 refine LW.rd hL rfl (Wants.free rfl) rfl (Rd.move (v := .bool (!(r4 == 0) || !(r6 == 0))) rfl) ?_
 suffices K2 : L 10 [(2, .pointer (some (⟨b1, 0, none⟩ : Addr))), (4, .pointer none), (5, .int .i64 0), (6, .pointer r3), (8, .pointer r5), (10, .pointer r7), (38, .bool ((!(r4 == 0) || !(r6 == 0)) || !(r8 == 0)))] w4 by
  rcases Bool.eq_false_or_eq_true (!(r4 == 0) || !(r6 == 0)) with hb4 | hb4
  ·skip
   refine LW.skip hL rfl (Skips.on rfl rfl rfl rfl rfl hb4) rfl ?_
   refine LW.skip hL rfl (Skips.on rfl rfl rfl rfl rfl hb4) rfl ?_
   refine LW.rd hL rfl (Wants.free rfl) rfl (Rd.pickT rfl hb4 rfl) ?_
   exact LW.sub hL (by exact ⟨rfl, rfl, rfl, rfl, rfl, rfl, (by rw [hb4]; rfl), trivial⟩) K2
  ·skip
   refine LW.rd hL rfl (Wants.on rfl rfl rfl rfl rfl hb4) rfl (Rd.move (v := .int .i64 r8) rfl) ?_
   refine LW.rd hL rfl (Wants.on rfl rfl rfl rfl rfl hb4) rfl (Rd.bin (v := .bool (!(r8 == 0))) rfl rfl (fun w => by kernel_rfl)) ?_
   refine LW.rd hL rfl (Wants.free rfl) rfl (Rd.pickF rfl hb4 rfl) ?_
   exact LW.sub hL (by exact ⟨rfl, rfl, rfl, rfl, rfl, rfl, (by rw [hb4]; rfl), trivial⟩) K2
 refine LW.nil hL rfl ?_
 refine NW.then ?_
 refine CW.cond rfl (fun hb5 => ?_) (fun hb5 => ?_)
 ·replace h := h.1 hb5
  refine CW.seq ?_
  refine CW.region fun L hL => ?_
  refine LW.rd hL rfl (Wants.free rfl) rfl (Rd.assign (v := .pointer none) rfl) ?_
  refine LW.rd hL rfl (Wants.free rfl) rfl (Rd.assign (v := .int .i64 2) rfl) ?_
  refine LW.nil hL rfl ?_
  refine NW.then ?_
  refine CW.ret ?_
  refine RW.then ?_
  exact res2 rfl rfl rfl ⟨none, 2, rfl, h⟩
 ·replace h := h.2 hb5
  refine CW.skip ?_
  refine NW.then ?_
  refine CW.seq ?_
  refine CW.region fun L hL => ?_
  obtain ⟨t3, t4, hc3, h⟩ := h
  refine LW.rd hL rfl (Wants.free rfl) rfl (Rd.ldN (cs := [.int .i64 t3, .int .i64 t4]) rfl (by kernel_rfl) (by kernel_rfl) (cellsS hc3)) ?_
  refine LW.rd hL rfl (Wants.free rfl) rfl (Rd.move (v := .pointer r3) rfl) ?_
  refine LW.rd hL rfl (Wants.free rfl) rfl (Rd.move (v := .pointer r5) rfl) ?_
  refine LW.rd hL rfl (Wants.free rfl) rfl (Rd.move (v := .pointer r7) rfl) ?_
  obtain ⟨b2, hb_b2⟩ : ∃ b2, b2 = World.size w4 := ⟨_, rfl⟩
  obtain ⟨w5, hw_w5⟩ : ∃ w5, w5 = World.alloc w4 (.map #[] 0) := ⟨_, rfl⟩
  replace h := h b2 hb_b2 w5 hw_w5
  refine LW.val hL rfl (Wants.free rfl) rfl (mapE hb_b2 hw_w5 Vl.makeMap) ?_
  refine LW.rd hL rfl (Wants.free rfl) rfl (Rd.build (v := .agg #[.int .i64 t3, .int .i64 t4, .pointer r3, .pointer r5, .pointer r7, .map (some b2)]) rfl (fun _ => by kernel_rfl)) ?_
  obtain ⟨b3, hb_b3⟩ : ∃ b3, b3 = World.size w5 := ⟨_, rfl⟩
  obtain ⟨w6, hw_w6⟩ : ∃ w6, w6 = World.alloc w5 (.cells #[.int .i64 t3, .int .i64 t4, .pointer r3, .pointer r5, .pointer r7, .map (some b2)] 101) := ⟨_, rfl⟩
  replace h := h b3 hb_b3 w6 hw_w6
  refine LW.val hL rfl (Wants.free rfl) rfl (boxE hb_b3 hw_w6 (Vl.box (v := .agg #[.int .i64 t3, .int .i64 t4, .pointer r3, .pointer r5, .pointer r7, .map (some b2)]) rfl)) ?_
  refine LW.rd hL rfl (Wants.free rfl) rfl (Rd.assign (v := .pointer (some (⟨b3, 0, none⟩ : Addr))) rfl) ?_
  refine LW.rd hL rfl (Wants.free rfl) rfl (Rd.assign (v := .int .i64 0) rfl) ?_
  refine LW.nil hL rfl ?_
  refine NW.then ?_
  refine CW.ret ?_
  exact res2 rfl rfl rfl ⟨some (⟨b3, 0, none⟩ : Addr), 0, rfl, h⟩
/- pomander/pomanderref12.New -/
def V_pomanderref12_New (f1 : Int) (f2 : Int) (most1 : Int) (w : World) (R : Int → Int → Int → (Option Addr) → Nat → Nat → (Option Addr) → Nat → Nat → World → Prop) : Prop :=
 ∀ b1 : Nat, b1 = World.size w → ∀ w1 : World, w1 = World.alloc w (.cells #[.int .i64 f1, .int .i64 f2] 37) → (∀ b2 : Nat, b2 = World.size w1 → ∀ w2 : World, w2 = World.alloc w1 (.cells #[.int .i64 0, .int .i64 0, .int .i64 0, .slice none 0 0, .slice none 0 0] 43) → (∀ w3 : World, w3 = World.drew w2 → ∃ (t1 : Int) (t2 : Int), CellsAt w3 (⟨b1, 0, none⟩ : Addr) 0 [.int .i64 t1, .int .i64 t2] ∧ (Calls Tryz.prog 59 #[.int .i64 most1] w3 fun e w4 => ∃ (r6 : Int) (r7 : Option Addr) (r7n : Nat) (r7c : Nat), e = .returned (.agg #[.int .i64 r6, .slice r7 r7n r7c]) ∧ ((CellsAt w4 (⟨b1, 0, none⟩ : Addr) 0 [.int .i64 t1, .int .i64 t2] ∧ True) ∧ (Has w4 (⟨b2, 0, none⟩ : Addr) 5 ∧ Free w4 (⟨b2, 0, none⟩ : Addr) 5 ∧ ∀ w5 : World, w5 = setCells w4 (⟨b2, 0, none⟩ : Addr) 0 [.int .i64 t1, .int .i64 t2, .int .i64 r6, .slice r7 r7n r7c, .slice none 0 0] → (∃ (r8 : Int) (r9 : Int) (r10 : Int) (r11 : Option Addr) (r11n : Nat) (r11c : Nat) (r12 : Option Addr) (r12n : Nat) (r12c : Nat), CellsAt w5 (⟨b2, 0, none⟩ : Addr) 0 [.int .i64 r8, .int .i64 r9, .int .i64 r10, .slice r11 r11n r11c, .slice r12 r12n r12c] ∧ R r8 r9 r10 r11 r11n r11c r12 r12n r12c w5))))))
set_option maxRecDepth 100000 in
theorem ok_pomanderref12_New (f1 : Int) (f2 : Int) (most1 : Int) (w : World) (R : Int → Int → Int → (Option Addr) → Nat → Nat → (Option Addr) → Nat → Nat → World → Prop) (h : V_pomanderref12_New f1 f2 most1 w R) : Calls Tryz.prog 28 #[.agg #[.int .i64 f1, .int .i64 f2], .int .i64 most1] w (fun e w' => ∃ (r1 : Int) (r2 : Int) (r3 : Int) (r4 : Option Addr) (r4n : Nat) (r4c : Nat) (r5 : Option Addr) (r5n : Nat) (r5c : Nat), e = .returned (.agg #[.int .i64 r1, .int .i64 r2, .int .i64 r3, .slice r4 r4n r4c, .slice r5 r5n r5c]) ∧ R r1 r2 r3 r4 r4n r4c r5 r5n r5c w') := by
 unfold V_pomanderref12_New at h
 refine enter (N := 9) Tryz.func28 rfl rfl ?_
 refine CW.seq ?_
 refine CW.region fun L hL => ?_
 obtain ⟨b1, hb_b1⟩ : ∃ b1, b1 = World.size w := ⟨_, rfl⟩
 obtain ⟨w1, hw_w1⟩ : ∃ w1, w1 = World.alloc w (.cells #[.int .i64 f1, .int .i64 f2] 37) := ⟨_, rfl⟩
 replace h := h b1 hb_b1 w1 hw_w1
 refine LW.val hL rfl (Wants.free rfl) rfl (boxE hb_b1 hw_w1 (Vl.box (v := .agg #[.int .i64 f1, .int .i64 f2]) rfl)) ?_
 obtain ⟨b2, hb_b2⟩ : ∃ b2, b2 = World.size w1 := ⟨_, rfl⟩
 obtain ⟨w2, hw_w2⟩ : ∃ w2, w2 = World.alloc w1 (.cells #[.int .i64 0, .int .i64 0, .int .i64 0, .slice none 0 0, .slice none 0 0] 43) := ⟨_, rfl⟩
 replace h := h b2 hb_b2 w2 hw_w2
 refine LW.val hL rfl (Wants.free rfl) rfl (boxE hb_b2 hw_w2 (Vl.alloc (z := .agg #[.int .i64 0, .int .i64 0, .int .i64 0, .slice none 0 0, .slice none 0 0]) (by kernel_rfl))) ?_
 refine LW.nil hL rfl ?_
 refine NW.then ?_
 refine CW.seq ?_
 replace h := h _ rfl
 obtain ⟨t1, t2, hc1, h⟩ := h
 refine CW.drawn (fun w => CellsAt w (⟨b1, 0, none⟩ : Addr) 0 [.int .i64 t1, .int .i64 t2] ∧ True) 4 (by kernel_rfl) fun H hH => ?_
 generalize World.drew _ = w3 at *
 have hS1 : CellsAt w3 (⟨b1, 0, none⟩ : Addr) 0 [.int .i64 t1, .int .i64 t2] ∧ True := ⟨hc1, trivial⟩
 refine HW.take (i := 0) hH rfl (by kernel_rfl) (by kernel_rfl) (Wants.free rfl) rfl (fun _ => hS1) (Rd.ldN (cs := [.int .i64 t1, .int .i64 t2]) rfl (by kernel_rfl) (by kernel_rfl) (fun w h => cellsAt_get h.1)) ?_
 refine HW.pure (i := 1) hH rfl (by kernel_rfl) (Wants.free rfl) rfl (fun _ => hS1) (Rd.move (v := .int .i64 most1) rfl) ?_
 refine HW.call (i := 2) hH (by kernel_rfl) rfl (Wants.free rfl) rfl (Cl.fn (f := 59) rfl Tryz.func59 (by kernel_rfl) rfl) h (fun e w4 h_ => ?_)
 clear h
 obtain ⟨r6, r7, r7n, r7c, rfl, hS2, h⟩ := h_
 refine ⟨_, rfl, (fun _ => hS2), ?_⟩
 refine HW.pure (i := 3) hH rfl (by kernel_rfl) (Wants.free rfl) rfl (fun _ => hS2) (Rd.build (v := .agg #[.int .i64 t1, .int .i64 t2, .int .i64 r6, .slice r7 r7n r7c, .slice none 0 0]) rfl (fun _ => by kernel_rfl)) ?_
 obtain ⟨ho1, hf1, h⟩ := h
 obtain ⟨w5, hw_w5⟩ : ∃ w5, w5 = setCells w4 (⟨b2, 0, none⟩ : Addr) 0 [.int .i64 t1, .int .i64 t2, .int .i64 r6, .slice r7 r7n r7c, .slice none 0 0] := ⟨_, rfl⟩
 replace h := h w5 hw_w5
 refine HW.eff (i := 4) hH (by kernel_rfl) rfl (Wants.free rfl) rfl (stNE hw_w5 (Ef.stN (cs := [.int .i64 t1, .int .i64 t2, .int .i64 r6, .slice r7 r7n r7c, .slice none 0 0]) rfl rfl (by kernel_rfl) (List.forall_mem_cons.2 ⟨rfl, (List.forall_mem_cons.2 ⟨rfl, (List.forall_mem_cons.2 ⟨rfl, (List.forall_mem_cons.2 ⟨rfl, (List.forall_mem_cons.2 ⟨rfl, (List.forall_mem_nil _)⟩)⟩)⟩)⟩)⟩) ho1 hf1)) (fun hc => by cases hc) ?_
 refine HW.done hH (by kernel_rfl) ?_
 refine NW.then ?_
 refine CW.ret ?_
 obtain ⟨r8, r9, r10, r11, r11n, r11c, r12, r12n, r12c, hr1, h⟩ := h
 exact resN (vs := [.agg #[.int .i64 r8, .int .i64 r9, .int .i64 r10, .slice r11 r11n r11c, .slice r12 r12n r12c]]) (ResOK.c rfl (lvN (cs := [.int .i64 r8, .int .i64 r9, .int .i64 r10, .slice r11 r11n r11c, .slice r12 r12n r12c]) (by kernel_rfl) (by kernel_rfl) (cellsAt_get hr1)) ResOK.nil) rfl ⟨r8, r9, r10, r11, r11n, r11c, r12, r12n, r12c, rfl, h⟩
/- (*pomander/flow.Flow).Get -/
def V_flow_Flow_Get (f1 : Option Addr) (p1 : Int) (p2 : Int) (w : World) (R : Int → Int → World → Prop) : Prop :=
 ∀ b1 : Nat, b1 = World.size w → ∀ w1 : World, w1 = World.alloc w (.cells #[.int .i64 p1, .int .i64 p2] 62) → (∃ J1 : Int × Int → World → Prop, (∀ (s1 : Int × Int) (w2 : World), J1 s1 w2 → R 0 s1.2 w2) ∧ (Calls Tryz.prog 43 #[.pointer f1] w1 fun e w3 => ∃ (r3 : Bool), e = .returned (.bool r3) ∧ ((r3 = true → J1 (0, 1) w3) ∧ (r3 = false → ∃ (t1 : Int) (t2 : Int), CellsAt w3 (⟨b1, 0, none⟩ : Addr) 0 [.int .i64 t1, .int .i64 t2] ∧ (Calls Tryz.prog 63 #[.pointer f1, .agg #[.int .i64 t1, .int .i64 t2]] w3 fun e w4 => ∃ (r4 : Bool), e = .returned (.bool r4) ∧ (((!r4) = true → J1 (0, 2) w4) ∧ ((!r4) = false → ∃ (t3 : Int) (t4 : Int), CellsAt w4 (⟨b1, 0, none⟩ : Addr) 0 [.int .i64 t3, .int .i64 t4] ∧ (Calls Tryz.prog 73 #[.pointer f1, .agg #[.int .i64 t3, .int .i64 t4]] w4 fun e w5 => ∃ (r5 : Int), e = .returned (.int .u32 r5) ∧ (R r5 0 w5)))))))))
set_option maxRecDepth 100000 in
theorem ok_flow_Flow_Get (f1 : Option Addr) (p1 : Int) (p2 : Int) (w : World) (R : Int → Int → World → Prop) (h : V_flow_Flow_Get f1 p1 p2 w R) : Calls Tryz.prog 35 #[.pointer f1, .agg #[.int .i64 p1, .int .i64 p2]] w (fun e w' => ∃ (r1 : Int) (r2 : Int), e = .returned (.tuple #[.int .u32 r1, .int .i64 r2]) ∧ R r1 r2 w') := by
 unfold V_flow_Flow_Get at h
 refine enter (N := 16) Tryz.func35 rfl rfl ?_
 refine CW.seq ?_
 refine CW.region fun L hL => ?_
 obtain ⟨b1, hb_b1⟩ : ∃ b1, b1 = World.size w := ⟨_, rfl⟩
 obtain ⟨w1, hw_w1⟩ : ∃ w1, w1 = World.alloc w (.cells #[.int .i64 p1, .int .i64 p2] 62) := ⟨_, rfl⟩
 replace h := h b1 hb_b1 w1 hw_w1
 refine LW.val hL rfl (Wants.free rfl) rfl (boxE hb_b1 hw_w1 (Vl.box (v := .agg #[.int .i64 p1, .int .i64 p2]) rfl)) ?_
 refine LW.rd hL rfl (Wants.free rfl) rfl (Rd.assign (v := .int .u32 0) rfl) ?_
 refine LW.rd hL rfl (Wants.free rfl) rfl (Rd.assign (v := .int .i64 0) rfl) ?_
 refine LW.nil hL rfl ?_
 refine NW.then ?_
 obtain ⟨J1, hJ1, h⟩ := h
 refine CW.scope (S := Int × Int) 0 (fun s1 => [(4, .int .u32 s1.1), (5, .int .i64 s1.2)]) J1 rfl (fun s1 w2 h_ => ?_) ?_
 ·replace h := hJ1 s1 w2 h_; clear h_
  refine CW.seq ?_
  refine CW.skip ?_
  refine NW.then ?_
  refine CW.seq ?_
  refine CW.region fun L hL => ?_
  refine LW.rd hL rfl (Wants.free rfl) rfl (Rd.move (v := .int .i64 s1.2) rfl) ?_
  refine LW.rd hL rfl (Wants.free rfl) rfl (Rd.assign (v := .int .u32 0) rfl) ?_
  refine LW.rd hL rfl (Wants.free rfl) rfl (Rd.assign (v := .int .i64 s1.2) rfl) ?_
  refine LW.nil hL rfl ?_
  refine NW.then ?_
  refine CW.ret ?_
  refine RW.jump ?_
  exact res2 rfl rfl rfl ⟨0, s1.2, rfl, h⟩
 ·skip
  refine CW.seq ?_
  refine CW.seq ?_
  refine CW.region fun L hL => ?_
  refine LW.rd hL rfl (Wants.free rfl) rfl (Rd.assign (v := .int .i64 1) rfl) ?_
  refine LW.nil hL rfl ?_
  refine NW.then ?_
  refine CW.seq ?_
  refine CW.region fun L hL => ?_
  refine LW.rd hL rfl (Wants.free rfl) rfl (Rd.move (v := .pointer f1) rfl) ?_
  refine LW.call hL rfl (Wants.free rfl) rfl (Cl.fn (f := 43) rfl Tryz.func43 (by kernel_rfl) rfl) h (fun e w3 h_ => ?_)
  clear h
  obtain ⟨r3, rfl, h⟩ := h_
  refine ⟨_, rfl, ?_⟩
  refine LW.nil hL rfl ?_
  refine NW.then ?_
  refine CW.cond rfl (fun hb1 => ?_) (fun hb1 => ?_)
  ·replace h := h.1 hb1
   refine CW.goto ?_
   refine GW.then ?_
   exact GW.hit (S := Int × Int) (Ek := fun s1 => [(4, .int .u32 s1.1), (5, .int .i64 s1.2)]) (0, 1) (by exact ⟨rfl, rfl, trivial⟩) h
  ·replace h := h.2 hb1
   refine CW.skip ?_
   refine NW.then ?_
   refine CW.seq ?_
   refine CW.seq ?_
   refine CW.region fun L hL => ?_
   refine LW.rd hL rfl (Wants.free rfl) rfl (Rd.assign (v := .int .i64 2) rfl) ?_
   refine LW.nil hL rfl ?_
   refine NW.then ?_
   refine CW.seq ?_
   refine CW.region fun L hL => ?_
   refine LW.rd hL rfl (Wants.free rfl) rfl (Rd.move (v := .pointer f1) rfl) ?_
   obtain ⟨t1, t2, hc1, h⟩ := h
   refine LW.rd hL rfl (Wants.free rfl) rfl (Rd.ldN (cs := [.int .i64 t1, .int .i64 t2]) rfl (by kernel_rfl) (by kernel_rfl) (cellsS hc1)) ?_
   refine LW.call hL rfl (Wants.free rfl) rfl (Cl.fn (f := 63) rfl Tryz.func63 (by kernel_rfl) rfl) h (fun e w4 h_ => ?_)
   clear h
   obtain ⟨r4, rfl, h⟩ := h_
   refine ⟨_, rfl, ?_⟩
   refine LW.rd hL rfl (Wants.free rfl) rfl (Rd.un (v := .bool (!r4)) rfl (fun _ => by kernel_rfl)) ?_
   refine LW.nil hL rfl ?_
   refine NW.then ?_
   refine CW.cond rfl (fun hb2 => ?_) (fun hb2 => ?_)
   ·replace h := h.1 hb2
    refine CW.goto ?_
    refine GW.then ?_
    exact GW.hit (S := Int × Int) (Ek := fun s1 => [(4, .int .u32 s1.1), (5, .int .i64 s1.2)]) (0, 2) (by exact ⟨rfl, rfl, trivial⟩) h
   ·replace h := h.2 hb2
    refine CW.skip ?_
    refine NW.then ?_
    refine CW.seq ?_
    refine CW.seq ?_
    refine CW.region fun L hL => ?_
    refine LW.rd hL rfl (Wants.free rfl) rfl (Rd.move (v := .pointer f1) rfl) ?_
    obtain ⟨t3, t4, hc2, h⟩ := h
    refine LW.rd hL rfl (Wants.free rfl) rfl (Rd.ldN (cs := [.int .i64 t3, .int .i64 t4]) rfl (by kernel_rfl) (by kernel_rfl) (cellsS hc2)) ?_
    refine LW.call hL rfl (Wants.free rfl) rfl (Cl.fn (f := 73) rfl Tryz.func73 (by kernel_rfl) rfl) h (fun e w5 h_ => ?_)
    clear h
    obtain ⟨r5, rfl, h⟩ := h_
    refine ⟨_, rfl, ?_⟩
    refine LW.rd hL rfl (Wants.free rfl) rfl (Rd.assign (v := .int .u32 r5) rfl) ?_
    refine LW.rd hL rfl (Wants.free rfl) rfl (Rd.assign (v := .int .i64 0) rfl) ?_
    refine LW.nil hL rfl ?_
    refine NW.then ?_
    refine CW.ret ?_
    refine RW.then ?_
    refine RW.jump ?_
    exact res2 rfl rfl rfl ⟨r5, 0, rfl, h⟩
/- (pomander/pomanderref12.Flow).May -/
def V_pomanderref12_Flow_May (f1 : Int) (f2 : Int) (f3 : Int) (f4 : Option Addr) (f4n : Nat) (f4c : Nat) (f5 : Option Addr) (f5n : Nat) (f5c : Nat) (p1 : Int) (p2 : Int) (w : World) (R : Bool → World → Prop) : Prop :=
 ∀ b1 : Nat, b1 = World.size w → ∀ w1 : World, w1 = World.alloc w (.cells #[.int .i64 f1, .int .i64 f2, .int .i64 f3, .slice f4 f4n f4c, .slice f5 f5n f5c] 43) → (∀ b2 : Nat, b2 = World.size w1 → ∀ w2 : World, w2 = World.alloc w1 (.cells #[.int .i64 p1, .int .i64 p2] 62) → (∃ (t1 : Int), w2.cell? (⟨b2, 0, none⟩ : Addr) = some (.int .i64 t1) ∧ (∃ J1 : Bool × Int → World → Prop, (∀ (s1 : Bool × Int) (w3 : World), J1 s1 w3 → ∃ (t2 : Int), w3.cell? (⟨b2, 1, none⟩ : Addr) = some (.int .i64 t2) ∧ (∃ J2 : Bool → World → Prop, (∀ (b3 : Bool) (w4 : World), J2 b3 w4 → R b3 w4) ∧ (((decide (t2 ≥ 0)) = true → ∃ (t3 : Int), w3.cell? (⟨b2, 1, none⟩ : Addr) = some (.int .i64 t3) ∧ (J2 (decide (t3 < s1.2)) w3)) ∧ ((decide (t2 ≥ 0)) = false → J2 false w3)))) ∧ (((decide (t1 < 1) || decide (t1 > 17)) = true → R false w2) ∧ ((decide (t1 < 1) || decide (t1 > 17)) = false → ((t1 == 1) = true → J1 (false, 8) w2) ∧ ((t1 == 1) = false → ((t1 == 10) = true → ∃ (t4 : Int), w2.cell? (⟨b1, 0, none⟩ : Addr) = some (.int .i64 t4) ∧ (J1 (false, IntKind.wrap .i64 (64 * t4)) w2)) ∧ ((t1 == 10) = false → ((t1 == 11) = true → J1 (false, 4) w2) ∧ ((t1 == 11) = false → ((t1 == 12) = true → ∃ (t5 : Int), w2.cell? (⟨b1, 1, none⟩ : Addr) = some (.int .i64 t5) ∧ (J1 (false, IntKind.wrap .i64 (64 * t5)) w2)) ∧ ((t1 == 12) = false → ((decide (t1 ≥ 13) && decide (t1 ≤ 16)) = true → J1 (false, 2147483648) w2) ∧ ((decide (t1 ≥ 13) && decide (t1 ≤ 16)) = false → ((t1 == 17) = true → J1 (false, 2) w2) ∧ ((t1 == 17) = false → J1 (false, 1) w2)))))))))))
set_option maxRecDepth 100000 in
theorem ok_pomanderref12_Flow_May (f1 : Int) (f2 : Int) (f3 : Int) (f4 : Option Addr) (f4n : Nat) (f4c : Nat) (f5 : Option Addr) (f5n : Nat) (f5c : Nat) (p1 : Int) (p2 : Int) (w : World) (R : Bool → World → Prop) (h : V_pomanderref12_Flow_May f1 f2 f3 f4 f4n f4c f5 f5n f5c p1 p2 w R) : Calls Tryz.prog 49 #[.agg #[.int .i64 f1, .int .i64 f2, .int .i64 f3, .slice f4 f4n f4c, .slice f5 f5n f5c], .agg #[.int .i64 p1, .int .i64 p2]] w (fun e w' => ∃ (r1 : Bool), e = .returned (.bool r1) ∧ R r1 w') := by
 unfold V_pomanderref12_Flow_May at h
 refine enter (N := 55) Tryz.func49 rfl rfl ?_
 refine CW.seq ?_
 refine CW.region fun L hL => ?_
 obtain ⟨b1, hb_b1⟩ : ∃ b1, b1 = World.size w := ⟨_, rfl⟩
 obtain ⟨w1, hw_w1⟩ : ∃ w1, w1 = World.alloc w (.cells #[.int .i64 f1, .int .i64 f2, .int .i64 f3, .slice f4 f4n f4c, .slice f5 f5n f5c] 43) := ⟨_, rfl⟩
 replace h := h b1 hb_b1 w1 hw_w1
 refine LW.val hL rfl (Wants.free rfl) rfl (boxE hb_b1 hw_w1 (Vl.box (v := .agg #[.int .i64 f1, .int .i64 f2, .int .i64 f3, .slice f4 f4n f4c, .slice f5 f5n f5c]) rfl)) ?_
 obtain ⟨b2, hb_b2⟩ : ∃ b2, b2 = World.size w1 := ⟨_, rfl⟩
 obtain ⟨w2, hw_w2⟩ : ∃ w2, w2 = World.alloc w1 (.cells #[.int .i64 p1, .int .i64 p2] 62) := ⟨_, rfl⟩
 replace h := h b2 hb_b2 w2 hw_w2
 refine LW.val hL rfl (Wants.free rfl) rfl (boxE hb_b2 hw_w2 (Vl.box (v := .agg #[.int .i64 p1, .int .i64 p2]) rfl)) ?_
 refine LW.rd hL rfl (Wants.free rfl) rfl (Rd.assign (v := .bool false) rfl) ?_
 refine LW.nil hL rfl ?_
 refine NW.then ?_
 refine CW.seq ?_
 refine CW.region fun L hL => ?_
 refine LW.rd hL rfl (Wants.free rfl) rfl (Rd.fa (v := .pointer (some (⟨b2, 0, none⟩ : Addr))) rfl (fun _ => by kernel_rfl)) ?_
 obtain ⟨t1, hc1, h⟩ := h
 refine LW.rd hL rfl (Wants.free rfl) rfl (Rd.ld (v := .int .i64 t1) rfl (by kernel_rfl) (eqs hc1)) ?_
 refine LW.rd hL rfl (Wants.free rfl) rfl (Rd.assign (v := .int .i64 t1) rfl) ?_
 refine LW.nil hL rfl ?_
 refine NW.then ?_
 refine CW.seq ?_
 refine CW.region fun L hL => ?_
 refine LW.rd hL rfl (Wants.free rfl) rfl (Rd.assign (v := .int .i64 1) rfl) ?_
 refine LW.nil hL rfl ?_
 refine NW.then ?_
 obtain ⟨J1, hJ1, h⟩ := h
 refine CW.cut (S := Bool × Int) (fun s1 => [(3, .pointer (some (⟨b2, 0, none⟩ : Addr))), (4, .bool s1.1), (6, .int .i64 s1.2)]) J1 (fun s1 w3 h_ => ?_) ?_
 ·replace h := hJ1 s1 w3 h_; clear h_
  refine CW.seq ?_
  refine CW.region fun L hL => ?_
  refine LW.rd hL rfl (Wants.free rfl) rfl (Rd.fa (v := .pointer (some (⟨b2, 1, none⟩ : Addr))) rfl (fun _ => by kernel_rfl)) ?_
  obtain ⟨t2, hc2, h⟩ := h
  refine LW.rd hL rfl (Wants.free rfl) rfl (Rd.ld (v := .int .i64 t2) rfl (by kernel_rfl) (eqs hc2)) ?_
  refine LW.rd hL rfl (Wants.free rfl) rfl (Rd.bin (v := .bool (decide (t2 ≥ 0))) rfl rfl (fun w => by kernel_rfl)) ?_
  refine LW.rd hL rfl (Wants.free rfl) rfl (Rd.move (v := .bool (decide (t2 ≥ 0))) rfl) ?_
  obtain ⟨J2, hJ2, h1_J2, h0_J2⟩ := h
  suffices K1 : ∀ (b3 : Bool) (w4 : World), J2 b3 w4 → L 9 [(4, .bool s1.1), (54, .bool b3)] w4 by
   rcases Bool.eq_false_or_eq_true (decide (t2 ≥ 0)) with hb1 | hb1
   ·have h := h1_J2 hb1
    refine LW.rd hL rfl (Wants.on rfl rfl rfl rfl rfl hb1) rfl (Rd.fa (v := .pointer (some (⟨b2, 1, none⟩ : Addr))) rfl (fun _ => by kernel_rfl)) ?_
    obtain ⟨t3, hc3, h⟩ := h
    refine LW.rd hL rfl (Wants.on rfl rfl rfl rfl rfl hb1) rfl (Rd.ld (v := .int .i64 t3) rfl (by kernel_rfl) (eqs hc3)) ?_
    refine LW.rd hL rfl (Wants.on rfl rfl rfl rfl rfl hb1) rfl (Rd.move (v := .int .i64 s1.2) rfl) ?_
    refine LW.rd hL rfl (Wants.on rfl rfl rfl rfl rfl hb1) rfl (Rd.bin (v := .bool (decide (t3 < s1.2))) rfl rfl (fun w => by kernel_rfl)) ?_
    refine LW.rd hL rfl (Wants.free rfl) rfl (Rd.pickT rfl hb1 rfl) ?_
    exact LW.sub hL (by exact ⟨rfl, rfl, trivial⟩) (K1 (decide (t3 < s1.2)) w3 h)
   ·have h := h0_J2 hb1
    refine LW.skip hL rfl (Skips.on rfl rfl rfl rfl rfl hb1) rfl ?_
    refine LW.skip hL rfl (Skips.on rfl rfl rfl rfl rfl hb1) rfl ?_
    refine LW.skip hL rfl (Skips.on rfl rfl rfl rfl rfl hb1) rfl ?_
    refine LW.skip hL rfl (Skips.on rfl rfl rfl rfl rfl hb1) rfl ?_
    refine LW.rd hL rfl (Wants.free rfl) rfl (Rd.pickF rfl hb1 rfl) ?_
    exact LW.sub hL (by exact ⟨rfl, rfl, trivial⟩) (K1 false w3 h)
  intro b3 w4 h_
  have h := hJ2 b3 w4 h_; clear h_
  refine LW.rd hL rfl (Wants.free rfl) rfl (Rd.assign (v := .bool b3) rfl) ?_
  refine LW.nil hL rfl ?_
  refine NW.then ?_
  refine CW.ret ?_
  exact res1 rfl rfl ⟨b3, rfl, h⟩
 ·skip
  refine CW.block ?_
  refine CW.seq ?_
  refine CW.region fun L hL => ?_
  refine LW.rd hL rfl (Wants.free rfl) rfl (Rd.move (v := .int .i64 t1) rfl) ?_
  refine LW.rd hL rfl (Wants.free rfl) rfl (Rd.bin (v := .bool (decide (t1 < 1))) rfl rfl (fun w => by kernel_rfl)) ?_
  refine LW.rd hL rfl (Wants.free rfl) rfl (Rd.move (v := .bool (decide (t1 < 1))) rfl) ?_
  suffices K2 : L 6 [(2, .pointer (some (⟨b1, 0, none⟩ : Addr))), (3, .pointer (some (⟨b2, 0, none⟩ : Addr))), (4, .bool false), (5, .int .i64 t1), (6, .int .i64 1), (15, .bool (decide (t1 < 1) || decide (t1 > 17)))] w2 by
   rcases Bool.eq_false_or_eq_true (decide (t1 < 1)) with hb3 | hb3
   ·skip
    refine LW.skip hL rfl (Skips.on rfl rfl rfl rfl rfl hb3) rfl ?_
    refine LW.skip hL rfl (Skips.on rfl rfl rfl rfl rfl hb3) rfl ?_
    refine LW.rd hL rfl (Wants.free rfl) rfl (Rd.pickT rfl hb3 rfl) ?_
    exact LW.sub hL (by exact ⟨rfl, rfl, rfl, rfl, rfl, (by rw [hb3]; rfl), trivial⟩) K2
   ·skip
    refine LW.rd hL rfl (Wants.on rfl rfl rfl rfl rfl hb3) rfl (Rd.move (v := .int .i64 t1) rfl) ?_
    refine LW.rd hL rfl (Wants.on rfl rfl rfl rfl rfl hb3) rfl (Rd.bin (v := .bool (decide (t1 > 17))) rfl rfl (fun w => by kernel_rfl)) ?_
    refine LW.rd hL rfl (Wants.free rfl) rfl (Rd.pickF rfl hb3 rfl) ?_
    exact LW.sub hL (by exact ⟨rfl, rfl, rfl, rfl, rfl, (by rw [hb3]; rfl), trivial⟩) K2
  refine LW.rd hL rfl (Wants.free rfl) rfl (Rd.assign (v := .bool (decide (t1 < 1) || decide (t1 > 17))) rfl) ?_
  refine LW.nil hL rfl ?_
  refine NW.then ?_
  refine CW.cond rfl (fun hb4 => ?_) (fun hb4 => ?_)
  ·replace h := h.1 hb4
   refine CW.seq ?_
   refine CW.region fun L hL => ?_
   refine LW.rd hL rfl (Wants.free rfl) rfl (Rd.assign (v := .bool false) rfl) ?_
   refine LW.nil hL rfl ?_
   refine NW.then ?_
   refine CW.ret ?_
   refine RW.block ?_
   refine RW.then ?_
   exact res1 rfl rfl ⟨false, rfl, h⟩
  ·replace h := h.2 hb4
   refine CW.seq ?_
   refine CW.region fun L hL => ?_
   refine LW.rd hL rfl (Wants.free rfl) rfl (Rd.move (v := .int .i64 t1) rfl) ?_
   refine LW.rd hL rfl (Wants.free rfl) rfl (Rd.bin (v := .bool (t1 == 1)) rfl rfl (fun w => by kernel_rfl)) ?_
   refine LW.rd hL rfl (Wants.free rfl) rfl (Rd.assign (v := .bool (t1 == 1)) rfl) ?_
   refine LW.nil hL rfl ?_
   refine NW.then ?_
   refine CW.cond rfl (fun hb5 => ?_) (fun hb5 => ?_)
   ·replace h := h.1 hb5
    refine CW.region fun L hL => ?_
    refine LW.rd hL rfl (Wants.free rfl) rfl (Rd.assign (v := .int .i64 8) rfl) ?_
    refine LW.nil hL rfl ?_
    refine NW.block ?_
    exact NW.cut (S := Bool × Int) (Ek := fun s1 => [(3, .pointer (some (⟨b2, 0, none⟩ : Addr))), (4, .bool s1.1), (6, .int .i64 s1.2)]) (false, 8) (by exact ⟨rfl, rfl, rfl, trivial⟩) h
   ·replace h := h.2 hb5
    refine CW.seq ?_
    refine CW.region fun L hL => ?_
    refine LW.rd hL rfl (Wants.free rfl) rfl (Rd.move (v := .int .i64 t1) rfl) ?_
    refine LW.rd hL rfl (Wants.free rfl) rfl (Rd.bin (v := .bool (t1 == 10)) rfl rfl (fun w => by kernel_rfl)) ?_
    refine LW.rd hL rfl (Wants.free rfl) rfl (Rd.assign (v := .bool (t1 == 10)) rfl) ?_
    refine LW.nil hL rfl ?_
    refine NW.then ?_
    refine CW.cond rfl (fun hb6 => ?_) (fun hb6 => ?_)
    ·replace h := h.1 hb6
     refine CW.region fun L hL => ?_
     refine LW.rd hL rfl (Wants.free rfl) rfl (Rd.fa (v := .pointer (some (⟨b1, 0, none⟩ : Addr))) rfl (fun _ => by kernel_rfl)) ?_
     refine LW.rd hL rfl (Wants.free rfl) rfl (Rd.fa (v := .pointer (some (⟨b1, 0, none⟩ : Addr))) rfl (fun _ => by kernel_rfl)) ?_
     obtain ⟨t4, hc4, h⟩ := h
     refine LW.rd hL rfl (Wants.free rfl) rfl (Rd.ld (v := .int .i64 t4) rfl (by kernel_rfl) (eqs hc4)) ?_
     refine LW.rd hL rfl (Wants.free rfl) rfl (Rd.bin (v := .int .i64 (IntKind.wrap .i64 (64 * t4))) rfl rfl (fun w => by kernel_rfl)) ?_
     refine LW.rd hL rfl (Wants.free rfl) rfl (Rd.assign (v := .int .i64 (IntKind.wrap .i64 (64 * t4))) rfl) ?_
     refine LW.nil hL rfl ?_
     refine NW.block ?_
     exact NW.cut (S := Bool × Int) (Ek := fun s1 => [(3, .pointer (some (⟨b2, 0, none⟩ : Addr))), (4, .bool s1.1), (6, .int .i64 s1.2)]) (false, IntKind.wrap .i64 (64 * t4)) (by exact ⟨rfl, rfl, rfl, trivial⟩) h
    ·replace h := h.2 hb6
     refine CW.seq ?_
     refine CW.region fun L hL => ?_
     refine LW.rd hL rfl (Wants.free rfl) rfl (Rd.move (v := .int .i64 t1) rfl) ?_
     refine LW.rd hL rfl (Wants.free rfl) rfl (Rd.bin (v := .bool (t1 == 11)) rfl rfl (fun w => by kernel_rfl)) ?_
     refine LW.rd hL rfl (Wants.free rfl) rfl (Rd.assign (v := .bool (t1 == 11)) rfl) ?_
     refine LW.nil hL rfl ?_
     refine NW.then ?_
     refine CW.cond rfl (fun hb7 => ?_) (fun hb7 => ?_)
     ·replace h := h.1 hb7
      refine CW.region fun L hL => ?_
      refine LW.rd hL rfl (Wants.free rfl) rfl (Rd.assign (v := .int .i64 4) rfl) ?_
      refine LW.nil hL rfl ?_
      refine NW.block ?_
      exact NW.cut (S := Bool × Int) (Ek := fun s1 => [(3, .pointer (some (⟨b2, 0, none⟩ : Addr))), (4, .bool s1.1), (6, .int .i64 s1.2)]) (false, 4) (by exact ⟨rfl, rfl, rfl, trivial⟩) h
     ·replace h := h.2 hb7
      refine CW.seq ?_
      refine CW.region fun L hL => ?_
      refine LW.rd hL rfl (Wants.free rfl) rfl (Rd.move (v := .int .i64 t1) rfl) ?_
      refine LW.rd hL rfl (Wants.free rfl) rfl (Rd.bin (v := .bool (t1 == 12)) rfl rfl (fun w => by kernel_rfl)) ?_
      refine LW.rd hL rfl (Wants.free rfl) rfl (Rd.assign (v := .bool (t1 == 12)) rfl) ?_
      refine LW.nil hL rfl ?_
      refine NW.then ?_
      refine CW.cond rfl (fun hb8 => ?_) (fun hb8 => ?_)
      ·replace h := h.1 hb8
       refine CW.region fun L hL => ?_
       refine LW.rd hL rfl (Wants.free rfl) rfl (Rd.fa (v := .pointer (some (⟨b1, 0, none⟩ : Addr))) rfl (fun _ => by kernel_rfl)) ?_
       refine LW.rd hL rfl (Wants.free rfl) rfl (Rd.fa (v := .pointer (some (⟨b1, 1, none⟩ : Addr))) rfl (fun _ => by kernel_rfl)) ?_
       obtain ⟨t5, hc5, h⟩ := h
       refine LW.rd hL rfl (Wants.free rfl) rfl (Rd.ld (v := .int .i64 t5) rfl (by kernel_rfl) (eqs hc5)) ?_
       refine LW.rd hL rfl (Wants.free rfl) rfl (Rd.bin (v := .int .i64 (IntKind.wrap .i64 (64 * t5))) rfl rfl (fun w => by kernel_rfl)) ?_
       refine LW.rd hL rfl (Wants.free rfl) rfl (Rd.assign (v := .int .i64 (IntKind.wrap .i64 (64 * t5))) rfl) ?_
       refine LW.nil hL rfl ?_
       refine NW.block ?_
       exact NW.cut (S := Bool × Int) (Ek := fun s1 => [(3, .pointer (some (⟨b2, 0, none⟩ : Addr))), (4, .bool s1.1), (6, .int .i64 s1.2)]) (false, IntKind.wrap .i64 (64 * t5)) (by exact ⟨rfl, rfl, rfl, trivial⟩) h
      ·replace h := h.2 hb8
       refine CW.seq ?_
       refine CW.region fun L hL => ?_
       refine LW.rd hL rfl (Wants.free rfl) rfl (Rd.move (v := .int .i64 t1) rfl) ?_
       refine LW.rd hL rfl (Wants.free rfl) rfl (Rd.bin (v := .bool (decide (t1 ≥ 13))) rfl rfl (fun w => by kernel_rfl)) ?_
       refine LW.rd hL rfl (Wants.free rfl) rfl (Rd.move (v := .bool (decide (t1 ≥ 13))) rfl) ?_
       suffices K3 : L 6 [(3, .pointer (some (⟨b2, 0, none⟩ : Addr))), (4, .bool false), (5, .int .i64 t1), (6, .int .i64 1), (42, .bool (decide (t1 ≥ 13) && decide (t1 ≤ 16)))] w2 by
        rcases Bool.eq_false_or_eq_true (decide (t1 ≥ 13)) with hb10 | hb10
        ·skip
         refine LW.rd hL rfl (Wants.on rfl rfl rfl rfl rfl hb10) rfl (Rd.move (v := .int .i64 t1) rfl) ?_
         refine LW.rd hL rfl (Wants.on rfl rfl rfl rfl rfl hb10) rfl (Rd.bin (v := .bool (decide (t1 ≤ 16))) rfl rfl (fun w => by kernel_rfl)) ?_
         refine LW.rd hL rfl (Wants.free rfl) rfl (Rd.pickT rfl hb10 rfl) ?_
         exact LW.sub hL (by exact ⟨rfl, rfl, rfl, rfl, (by rw [hb10]; rfl), trivial⟩) K3
        ·skip
         refine LW.skip hL rfl (Skips.on rfl rfl rfl rfl rfl hb10) rfl ?_
         refine LW.skip hL rfl (Skips.on rfl rfl rfl rfl rfl hb10) rfl ?_
         refine LW.rd hL rfl (Wants.free rfl) rfl (Rd.pickF rfl hb10 rfl) ?_
         exact LW.sub hL (by exact ⟨rfl, rfl, rfl, rfl, (by rw [hb10]; rfl), trivial⟩) K3
       refine LW.rd hL rfl (Wants.free rfl) rfl (Rd.assign (v := .bool (decide (t1 ≥ 13) && decide (t1 ≤ 16))) rfl) ?_
       refine LW.nil hL rfl ?_
       refine NW.then ?_
       refine CW.cond rfl (fun hb11 => ?_) (fun hb11 => ?_)
       ·replace h := h.1 hb11
        refine CW.region fun L hL => ?_
        refine LW.rd hL rfl (Wants.free rfl) rfl (Rd.assign (v := .int .i64 2147483648) rfl) ?_
        refine LW.nil hL rfl ?_
        refine NW.block ?_
        exact NW.cut (S := Bool × Int) (Ek := fun s1 => [(3, .pointer (some (⟨b2, 0, none⟩ : Addr))), (4, .bool s1.1), (6, .int .i64 s1.2)]) (false, 2147483648) (by exact ⟨rfl, rfl, rfl, trivial⟩) h
       ·replace h := h.2 hb11
        refine CW.seq ?_
        refine CW.region fun L hL => ?_
        refine LW.rd hL rfl (Wants.free rfl) rfl (Rd.move (v := .int .i64 t1) rfl) ?_
        refine LW.rd hL rfl (Wants.free rfl) rfl (Rd.bin (v := .bool (t1 == 17)) rfl rfl (fun w => by kernel_rfl)) ?_
        refine LW.rd hL rfl (Wants.free rfl) rfl (Rd.assign (v := .bool (t1 == 17)) rfl) ?_
        refine LW.nil hL rfl ?_
        refine NW.then ?_
        refine CW.cond rfl (fun hb12 => ?_) (fun hb12 => ?_)
        ·replace h := h.1 hb12
         refine CW.region fun L hL => ?_
         refine LW.rd hL rfl (Wants.free rfl) rfl (Rd.assign (v := .int .i64 2) rfl) ?_
         refine LW.nil hL rfl ?_
         refine NW.block ?_
         exact NW.cut (S := Bool × Int) (Ek := fun s1 => [(3, .pointer (some (⟨b2, 0, none⟩ : Addr))), (4, .bool s1.1), (6, .int .i64 s1.2)]) (false, 2) (by exact ⟨rfl, rfl, rfl, trivial⟩) h
        ·replace h := h.2 hb12
         refine CW.skip ?_
         refine NW.block ?_
         exact NW.cut (S := Bool × Int) (Ek := fun s1 => [(3, .pointer (some (⟨b2, 0, none⟩ : Addr))), (4, .bool s1.1), (6, .int .i64 s1.2)]) (false, 1) (by exact ⟨rfl, rfl, rfl, trivial⟩) h
/- (*pomander/flow.Flow).Mark -/
def V_flow_Flow_Mark (f1 : Option Addr) (p1 : Int) (p2 : Int) (n1 : Int) (set1 : Int) (w : World) (R : Int → World → Prop) : Prop :=
 ∀ b1 : Nat, b1 = World.size w → ∀ w1 : World, w1 = World.alloc w (.cells #[.int .i64 p1, .int .i64 p2] 62) → (Calls Tryz.prog 43 #[.pointer f1] w1 fun e w2 => ∃ (r2 : Bool), e = .returned (.bool r2) ∧ ((r2 = true → R 1 w2) ∧ (r2 = false → ∃ (t1 : Int) (t2 : Int), CellsAt w2 (⟨b1, 0, none⟩ : Addr) 0 [.int .i64 t1, .int .i64 t2] ∧ (Calls Tryz.prog 63 #[.pointer f1, .agg #[.int .i64 t1, .int .i64 t2]] w2 fun e w3 => ∃ (r3 : Bool), e = .returned (.bool r3) ∧ (((!r3 || decide (set1 ≥ 65536)) = true → R 2 w3) ∧ ((!r3 || decide (set1 ≥ 65536)) = false → ∃ J1 : Bool → World → Prop, (∀ (b2 : Bool) (w4 : World), J1 b2 w4 → (b2 = true → R 4 w4) ∧ (b2 = false → Calls Tryz.prog 64 #[.pointer f1, .int .u32 set1] w4 fun e w7 => ∃ (r5 : Int), e = .returned (.int .i64 r5) ∧ (((!(r5 == 0)) = true → R r5 w7) ∧ ((!(r5 == 0)) = false → ∃ (I1 : Int → World → Prop) (m1 : Int → World → Nat), I1 0 w7 ∧ ∀ (s1 : Int) (w8 : World), I1 s1 w8 → ((decide (s1 < n1)) = true → ∃ (t5 : Int), w8.cell? (⟨b1, 0, none⟩ : Addr) = some (.int .i64 t5) ∧ (∃ (t6 : Int), w8.cell? (⟨b1, 1, none⟩ : Addr) = some (.int .i64 t6) ∧ (Calls Tryz.prog 65 #[.pointer f1, .agg #[.int .i64 t5, .int .i64 (IntKind.wrap .i64 (t6 + s1))], .int .u32 set1] w8 fun e w9 => e = .returned (.tuple #[]) ∧ ((I1 (IntKind.wrap .i64 (s1 + 1)) w9 ∧ m1 (IntKind.wrap .i64 (s1 + 1)) w9 < m1 s1 w8))))) ∧ ((decide (s1 < n1)) = false → R 0 w8))))) ∧ (((decide (n1 < 0) || decide (n1 > 65536)) = false → ∃ J2 : Bool → World → Prop, (∀ (b3 : Bool) (w5 : World), J2 b3 w5 → J1 b3 w5) ∧ (((decide (n1 > 0)) = true → ∃ (t3 : Int), w3.cell? (⟨b1, 0, none⟩ : Addr) = some (.int .i64 t3) ∧ (∃ (t4 : Int), w3.cell? (⟨b1, 1, none⟩ : Addr) = some (.int .i64 t4) ∧ (Calls Tryz.prog 63 #[.pointer f1, .agg #[.int .i64 t3, .int .i64 (IntKind.wrap .i64 ((IntKind.wrap .i64 (t4 + n1)) - 1))]] w3 fun e w6 => ∃ (r4 : Bool), e = .returned (.bool r4) ∧ (J2 (!r4) w6)))) ∧ ((decide (n1 > 0)) = false → J2 false w3))) ∧ ((decide (n1 < 0) || decide (n1 > 65536)) = true → J1 true w3))))))))
set_option maxRecDepth 100000 in
theorem ok_flow_Flow_Mark (f1 : Option Addr) (p1 : Int) (p2 : Int) (n1 : Int) (set1 : Int) (w : World) (R : Int → World → Prop) (h : V_flow_Flow_Mark f1 p1 p2 n1 set1 w R) : Calls Tryz.prog 31 #[.pointer f1, .agg #[.int .i64 p1, .int .i64 p2], .int .i64 n1, .int .u32 set1] w (fun e w' => ∃ (r1 : Int), e = .returned (.int .i64 r1) ∧ R r1 w') := by
 unfold V_flow_Flow_Mark at h
 refine enter (N := 68) Tryz.func31 rfl rfl ?_
 refine CW.seq ?_
 refine CW.region fun L hL => ?_
 obtain ⟨b1, hb_b1⟩ : ∃ b1, b1 = World.size w := ⟨_, rfl⟩
 obtain ⟨w1, hw_w1⟩ : ∃ w1, w1 = World.alloc w (.cells #[.int .i64 p1, .int .i64 p2] 62) := ⟨_, rfl⟩
 replace h := h b1 hb_b1 w1 hw_w1
 refine LW.val hL rfl (Wants.free rfl) rfl (boxE hb_b1 hw_w1 (Vl.box (v := .agg #[.int .i64 p1, .int .i64 p2]) rfl)) ?_
 refine LW.rd hL rfl (Wants.free rfl) rfl (Rd.assign (v := .int .i64 0) rfl) ?_
 refine LW.nil hL rfl ?_
 refine NW.then ?_
 refine CW.seq ?_
 refine CW.block ?_
 refine CW.seq ?_
 refine CW.region fun L hL => ?_
 refine LW.rd hL rfl (Wants.free rfl) rfl (Rd.move (v := .pointer f1) rfl) ?_
 refine LW.call hL rfl (Wants.free rfl) rfl (Cl.fn (f := 43) rfl Tryz.func43 (by kernel_rfl) rfl) h (fun e w2 h_ => ?_)
 clear h
 obtain ⟨r2, rfl, h⟩ := h_
 refine ⟨_, rfl, ?_⟩
 refine LW.rd hL rfl (Wants.free rfl) rfl (Rd.assign (v := .bool r2) rfl) ?_
 refine LW.nil hL rfl ?_
 refine NW.then ?_
 refine CW.cond rfl (fun hb1 => ?_) (fun hb1 => ?_)
 ·replace h := h.1 hb1
  refine CW.seq ?_
  refine CW.region fun L hL => ?_
  refine LW.rd hL rfl (Wants.free rfl) rfl (Rd.assign (v := .int .i64 1) rfl) ?_
  refine LW.nil hL rfl ?_
  refine NW.then ?_
  refine CW.ret ?_
  refine RW.block ?_
  refine RW.then ?_
  exact res1 rfl rfl ⟨1, rfl, h⟩
 ·replace h := h.2 hb1
  refine CW.seq ?_
  refine CW.region fun L hL => ?_
  refine LW.rd hL rfl (Wants.free rfl) rfl (Rd.move (v := .pointer f1) rfl) ?_
  obtain ⟨t1, t2, hc1, h⟩ := h
  refine LW.rd hL rfl (Wants.free rfl) rfl (Rd.ldN (cs := [.int .i64 t1, .int .i64 t2]) rfl (by kernel_rfl) (by kernel_rfl) (cellsS hc1)) ?_
  refine LW.call hL rfl (Wants.free rfl) rfl (Cl.fn (f := 63) rfl Tryz.func63 (by kernel_rfl) rfl) h (fun e w3 h_ => ?_)
  clear h
  obtain ⟨r3, rfl, h⟩ := h_
  refine ⟨_, rfl, ?_⟩
  refine LW.rd hL rfl (Wants.free rfl) rfl (Rd.un (v := .bool (!r3)) rfl (fun _ => by kernel_rfl)) ?_
  refine LW.rd hL rfl (Wants.free rfl) rfl (Rd.move (v := .bool (!r3)) rfl) ?_
  suffices K1 : L 8 [(0, .pointer f1), (2, .int .i64 n1), (3, .int .u32 set1), (5, .pointer (some (⟨b1, 0, none⟩ : Addr))), (8, .int .i64 0), (22, .bool (!r3 || decide (set1 ≥ 65536)))] w3 by
   rcases Bool.eq_false_or_eq_true (!r3) with hb3 | hb3
   ·skip
    refine LW.skip hL rfl (Skips.on rfl rfl rfl rfl rfl hb3) rfl ?_
    refine LW.skip hL rfl (Skips.on rfl rfl rfl rfl rfl hb3) rfl ?_
    refine LW.rd hL rfl (Wants.free rfl) rfl (Rd.pickT rfl hb3 rfl) ?_
    exact LW.sub hL (by exact ⟨rfl, rfl, rfl, rfl, rfl, (by rw [hb3]; rfl), trivial⟩) K1
   ·skip
    refine LW.rd hL rfl (Wants.on rfl rfl rfl rfl rfl hb3) rfl (Rd.move (v := .int .u32 set1) rfl) ?_
    refine LW.rd hL rfl (Wants.on rfl rfl rfl rfl rfl hb3) rfl (Rd.bin (v := .bool (decide (set1 ≥ 65536))) rfl rfl (fun w => by kernel_rfl)) ?_
    refine LW.rd hL rfl (Wants.free rfl) rfl (Rd.pickF rfl hb3 rfl) ?_
    exact LW.sub hL (by exact ⟨rfl, rfl, rfl, rfl, rfl, (by rw [hb3]; rfl), trivial⟩) K1
  refine LW.rd hL rfl (Wants.free rfl) rfl (Rd.assign (v := .bool (!r3 || decide (set1 ≥ 65536))) rfl) ?_
  refine LW.nil hL rfl ?_
  refine NW.then ?_
  refine CW.cond rfl (fun hb4 => ?_) (fun hb4 => ?_)
  ·replace h := h.1 hb4
   refine CW.seq ?_
   refine CW.region fun L hL => ?_
   refine LW.rd hL rfl (Wants.free rfl) rfl (Rd.assign (v := .int .i64 2) rfl) ?_
   refine LW.nil hL rfl ?_
   refine NW.then ?_
   refine CW.ret ?_
   refine RW.block ?_
   refine RW.then ?_
   exact res1 rfl rfl ⟨2, rfl, h⟩
  ·replace h := h.2 hb4
   refine CW.seq ?_
   refine CW.region fun L hL => ?_
   refine LW.rd hL rfl (Wants.free rfl) rfl (Rd.move (v := .int .i64 n1) rfl) ?_
   refine LW.rd hL rfl (Wants.free rfl) rfl (Rd.bin (v := .bool (decide (n1 < 0))) rfl rfl (fun w => by kernel_rfl)) ?_
   refine LW.rd hL rfl (Wants.free rfl) rfl (Rd.move (v := .bool (decide (n1 < 0))) rfl) ?_
   suffices K2 : L 6 [(0, .pointer f1), (2, .int .i64 n1), (3, .int .u32 set1), (5, .pointer (some (⟨b1, 0, none⟩ : Addr))), (8, .int .i64 0), (29, .bool (decide (n1 < 0) || decide (n1 > 65536)))] w3 by
    rcases Bool.eq_false_or_eq_true (decide (n1 < 0)) with hb6 | hb6
    ·skip
     refine LW.skip hL rfl (Skips.on rfl rfl rfl rfl rfl hb6) rfl ?_
     refine LW.skip hL rfl (Skips.on rfl rfl rfl rfl rfl hb6) rfl ?_
     refine LW.rd hL rfl (Wants.free rfl) rfl (Rd.pickT rfl hb6 rfl) ?_
     exact LW.sub hL (by exact ⟨rfl, rfl, rfl, rfl, rfl, (by rw [hb6]; rfl), trivial⟩) K2
    ·skip
     refine LW.rd hL rfl (Wants.on rfl rfl rfl rfl rfl hb6) rfl (Rd.move (v := .int .i64 n1) rfl) ?_
     refine LW.rd hL rfl (Wants.on rfl rfl rfl rfl rfl hb6) rfl (Rd.bin (v := .bool (decide (n1 > 65536))) rfl rfl (fun w => by kernel_rfl)) ?_
     refine LW.rd hL rfl (Wants.free rfl) rfl (Rd.pickF rfl hb6 rfl) ?_
     exact LW.sub hL (by exact ⟨rfl, rfl, rfl, rfl, rfl, (by rw [hb6]; rfl), trivial⟩) K2
   refine LW.rd hL rfl (Wants.free rfl) rfl (Rd.move (v := .bool (decide (n1 < 0) || decide (n1 > 65536))) rfl) ?_
   obtain ⟨J1, hJ1, h1_J1, h0_J1⟩ := h
   suffices K3 : ∀ (b2 : Bool) (w4 : World), J1 b2 w4 → L 23 [(0, .pointer f1), (2, .int .i64 n1), (3, .int .u32 set1), (5, .pointer (some (⟨b1, 0, none⟩ : Addr))), (8, .int .i64 0), (46, .bool b2)] w4 by
    rcases Bool.eq_false_or_eq_true (decide (n1 < 0) || decide (n1 > 65536)) with hb7 | hb7
    ·have h := h0_J1 hb7
     refine LW.skip hL rfl (Skips.on rfl rfl rfl rfl rfl hb7) rfl ?_
     refine LW.skip hL rfl (Skips.on rfl rfl rfl rfl rfl hb7) rfl ?_
     refine LW.skip hL rfl (Skips.on rfl rfl rfl rfl rfl hb7) rfl ?_
     refine LW.skip hL rfl (Skips.un rfl rfl rfl rfl rfl) rfl ?_
     refine LW.skip hL rfl (Skips.un rfl rfl rfl rfl rfl) rfl ?_
     refine LW.skip hL rfl (Skips.un rfl rfl rfl rfl rfl) rfl ?_
     refine LW.skip hL rfl (Skips.un rfl rfl rfl rfl rfl) rfl ?_
     refine LW.skip hL rfl (Skips.un rfl rfl rfl rfl rfl) rfl ?_
     refine LW.skip hL rfl (Skips.un rfl rfl rfl rfl rfl) rfl ?_
     refine LW.skip hL rfl (Skips.un rfl rfl rfl rfl rfl) rfl ?_
     refine LW.skip hL rfl (Skips.un rfl rfl rfl rfl rfl) rfl ?_
     refine LW.skip hL rfl (Skips.un rfl rfl rfl rfl rfl) rfl ?_
     refine LW.skip hL rfl (Skips.un rfl rfl rfl rfl rfl) rfl ?_
     refine LW.skip hL rfl (Skips.un rfl rfl rfl rfl rfl) rfl ?_
     refine LW.skip hL rfl (Skips.on rfl rfl rfl rfl rfl hb7) rfl ?_
     refine LW.rd hL rfl (Wants.free rfl) rfl (Rd.pickT rfl hb7 rfl) ?_
     exact LW.sub hL (by exact ⟨rfl, rfl, rfl, rfl, rfl, rfl, trivial⟩) (K3 true w3 h)
    ·have h := h1_J1 hb7
     refine LW.rd hL rfl (Wants.on rfl rfl rfl rfl rfl hb7) rfl (Rd.move (v := .int .i64 n1) rfl) ?_
     refine LW.rd hL rfl (Wants.on rfl rfl rfl rfl rfl hb7) rfl (Rd.bin (v := .bool (decide (n1 > 0))) rfl rfl (fun w => by kernel_rfl)) ?_
     refine LW.rd hL rfl (Wants.on rfl rfl rfl rfl rfl hb7) rfl (Rd.move (v := .bool (decide (n1 > 0))) rfl) ?_
     obtain ⟨J2, hJ2, h1_J2, h0_J2⟩ := h
     suffices K4 : ∀ (b3 : Bool) (w5 : World), J2 b3 w5 → L 22 [(0, .pointer f1), (2, .int .i64 n1), (3, .int .u32 set1), (5, .pointer (some (⟨b1, 0, none⟩ : Addr))), (8, .int .i64 0), (30, .bool (decide (n1 < 0) || decide (n1 > 65536))), (45, .bool b3)] w5 by
      rcases Bool.eq_false_or_eq_true (decide (n1 > 0)) with hb8 | hb8
      ·have h := h1_J2 hb8
       refine LW.rd hL rfl (Wants.on rfl rfl rfl rfl rfl hb8) rfl (Rd.move (v := .pointer f1) rfl) ?_
       refine LW.rd hL rfl (Wants.on rfl rfl rfl rfl rfl hb8) rfl (Rd.fa (v := .pointer (some (⟨b1, 0, none⟩ : Addr))) rfl (fun _ => by kernel_rfl)) ?_
       obtain ⟨t3, hc2, h⟩ := h
       refine LW.rd hL rfl (Wants.on rfl rfl rfl rfl rfl hb8) rfl (Rd.ld (v := .int .i64 t3) rfl (by kernel_rfl) (eqs hc2)) ?_
       refine LW.rd hL rfl (Wants.on rfl rfl rfl rfl rfl hb8) rfl (Rd.fa (v := .pointer (some (⟨b1, 1, none⟩ : Addr))) rfl (fun _ => by kernel_rfl)) ?_
       obtain ⟨t4, hc3, h⟩ := h
       refine LW.rd hL rfl (Wants.on rfl rfl rfl rfl rfl hb8) rfl (Rd.ld (v := .int .i64 t4) rfl (by kernel_rfl) (eqs hc3)) ?_
       refine LW.rd hL rfl (Wants.on rfl rfl rfl rfl rfl hb8) rfl (Rd.move (v := .int .i64 n1) rfl) ?_
       refine LW.rd hL rfl (Wants.on rfl rfl rfl rfl rfl hb8) rfl (Rd.bin (v := .int .i64 (IntKind.wrap .i64 (t4 + n1))) rfl rfl (fun w => by kernel_rfl)) ?_
       refine LW.rd hL rfl (Wants.on rfl rfl rfl rfl rfl hb8) rfl (Rd.bin (v := .int .i64 (IntKind.wrap .i64 ((IntKind.wrap .i64 (t4 + n1)) - 1))) rfl rfl (fun w => by kernel_rfl)) ?_
       refine LW.rd hL rfl (Wants.on rfl rfl rfl rfl rfl hb8) rfl (Rd.build (v := .agg #[.int .i64 t3, .int .i64 (IntKind.wrap .i64 ((IntKind.wrap .i64 (t4 + n1)) - 1))]) rfl (fun _ => by kernel_rfl)) ?_
       refine LW.call hL rfl (Wants.on rfl rfl rfl rfl rfl hb8) rfl (Cl.fn (f := 63) rfl Tryz.func63 (by kernel_rfl) rfl) h (fun e w6 h_ => ?_)
       clear h
       obtain ⟨r4, rfl, h⟩ := h_
       refine ⟨_, rfl, ?_⟩
       refine LW.rd hL rfl (Wants.on rfl rfl rfl rfl rfl hb8) rfl (Rd.un (v := .bool (!r4)) rfl (fun _ => by kernel_rfl)) ?_
       refine LW.rd hL rfl (Wants.on rfl rfl rfl rfl rfl hb7) rfl (Rd.pickT rfl hb8 rfl) ?_
       exact LW.sub hL (by exact ⟨rfl, rfl, rfl, rfl, rfl, rfl, rfl, trivial⟩) (K4 (!r4) w6 h)
      ·have h := h0_J2 hb8
       refine LW.skip hL rfl (Skips.on rfl rfl rfl rfl rfl hb8) rfl ?_
       refine LW.skip hL rfl (Skips.on rfl rfl rfl rfl rfl hb8) rfl ?_
       refine LW.skip hL rfl (Skips.on rfl rfl rfl rfl rfl hb8) rfl ?_
       refine LW.skip hL rfl (Skips.on rfl rfl rfl rfl rfl hb8) rfl ?_
       refine LW.skip hL rfl (Skips.on rfl rfl rfl rfl rfl hb8) rfl ?_
       refine LW.skip hL rfl (Skips.on rfl rfl rfl rfl rfl hb8) rfl ?_
       refine LW.skip hL rfl (Skips.on rfl rfl rfl rfl rfl hb8) rfl ?_
       refine LW.skip hL rfl (Skips.on rfl rfl rfl rfl rfl hb8) rfl ?_
       refine LW.skip hL rfl (Skips.on rfl rfl rfl rfl rfl hb8) rfl ?_
       refine LW.skip hL rfl (Skips.on rfl rfl rfl rfl rfl hb8) rfl ?_
       refine LW.skip hL rfl (Skips.on rfl rfl rfl rfl rfl hb8) rfl ?_
       refine LW.rd hL rfl (Wants.on rfl rfl rfl rfl rfl hb7) rfl (Rd.pickF rfl hb8 rfl) ?_
       exact LW.sub hL (by exact ⟨rfl, rfl, rfl, rfl, rfl, rfl, rfl, trivial⟩) (K4 false w3 h)
     intro b3 w5 h_
     have h := hJ2 b3 w5 h_; clear h_
     refine LW.rd hL rfl (Wants.free rfl) rfl (Rd.pickF rfl hb7 rfl) ?_
     exact LW.sub hL (by exact ⟨rfl, rfl, rfl, rfl, rfl, rfl, trivial⟩) (K3 b3 w5 h)
   intro b2 w4 h_
   have h := hJ1 b2 w4 h_; clear h_
   refine LW.rd hL rfl (Wants.free rfl) rfl (Rd.assign (v := .bool b2) rfl) ?_
   refine LW.nil hL rfl ?_
   refine NW.then ?_
   refine CW.cond rfl (fun hb9 => ?_) (fun hb9 => ?_)
   ·replace h := h.1 hb9
    refine CW.seq ?_
    refine CW.region fun L hL => ?_
    refine LW.rd hL rfl (Wants.free rfl) rfl (Rd.assign (v := .int .i64 4) rfl) ?_
    refine LW.nil hL rfl ?_
    refine NW.then ?_
    refine CW.ret ?_
    refine RW.block ?_
    refine RW.then ?_
    exact res1 rfl rfl ⟨4, rfl, h⟩
   ·replace h := h.2 hb9
    refine CW.skip ?_
    refine NW.block ?_
    refine NW.then ?_
    refine CW.seq ?_
    refine CW.seq ?_
    refine CW.region fun L hL => ?_
    refine LW.rd hL rfl (Wants.free rfl) rfl (Rd.move (v := .pointer f1) rfl) ?_
    refine LW.rd hL rfl (Wants.free rfl) rfl (Rd.move (v := .int .u32 set1) rfl) ?_
    refine LW.call hL rfl (Wants.free rfl) rfl (Cl.fn (f := 64) rfl Tryz.func64 (by kernel_rfl) rfl) h (fun e w7 h_ => ?_)
    clear h
    obtain ⟨r5, rfl, h⟩ := h_
    refine ⟨_, rfl, ?_⟩
    refine LW.rd hL rfl (Wants.free rfl) rfl (Rd.assign (v := .int .i64 r5) rfl) ?_
    refine LW.nil hL rfl ?_
    refine NW.then ?_
    refine CW.seq ?_
    refine CW.region fun L hL => ?_
    refine LW.rd hL rfl (Wants.free rfl) rfl (Rd.move (v := .int .i64 r5) rfl) ?_
    refine LW.rd hL rfl (Wants.free rfl) rfl (Rd.bin (v := .bool (!(r5 == 0))) rfl rfl (fun w => by kernel_rfl)) ?_
    refine LW.nil hL rfl ?_
    refine NW.then ?_
    refine CW.cond rfl (fun hb10 => ?_) (fun hb10 => ?_)
    ·replace h := h.1 hb10
     refine CW.seq ?_
     refine CW.region fun L hL => ?_
     refine LW.rd hL rfl (Wants.free rfl) rfl (Rd.move (v := .int .i64 r5) rfl) ?_
     refine LW.rd hL rfl (Wants.free rfl) rfl (Rd.assign (v := .int .i64 r5) rfl) ?_
     refine LW.nil hL rfl ?_
     refine NW.then ?_
     refine CW.ret ?_
     refine RW.then ?_
     exact res1 rfl rfl ⟨r5, rfl, h⟩
    ·replace h := h.2 hb10
     refine CW.skip ?_
     refine NW.then ?_
     refine CW.seq ?_
     refine CW.seq ?_
     refine CW.region fun L hL => ?_
     refine LW.rd hL rfl (Wants.free rfl) rfl (Rd.move (v := .int .i64 n1) rfl) ?_
     refine LW.rd hL rfl (Wants.free rfl) rfl (Rd.move (v := .int .i64 0) rfl) ?_
     refine LW.nil hL rfl ?_
     refine NW.then ?_
     refine CW.block ?_
     obtain ⟨I1, m1, hI1, h⟩ := h
     refine CW.loop (S := Int) (fun s1 => [(0, .pointer f1), (3, .int .u32 set1), (5, .pointer (some (⟨b1, 0, none⟩ : Addr))), (8, .int .i64 0), (53, .int .i64 n1), (54, .int .i64 s1)]) I1 m1 0 (by exact ⟨rfl, rfl, rfl, rfl, rfl, rfl, trivial⟩) hI1 (fun s1 w8 hI1 => ?_)
     replace h := h s1 w8 hI1
     refine CW.seq ?_
     refine CW.region fun L hL => ?_
     refine LW.rd hL rfl (Wants.free rfl) rfl (Rd.bin (v := .bool (decide (s1 < n1))) rfl rfl (fun w => by kernel_rfl)) ?_
     refine LW.nil hL rfl ?_
     refine NW.then ?_
     refine CW.seq ?_
     refine CW.cond rfl (fun hb11 => ?_) (fun hb11 => ?_)
     ·replace h := h.1 hb11
      refine CW.skip ?_
      refine NW.then ?_
      refine CW.seq ?_
      refine CW.block ?_
      refine CW.seq ?_
      refine CW.region fun L hL => ?_
      refine LW.rd hL rfl (Wants.free rfl) rfl (Rd.move (v := .int .i64 s1) rfl) ?_
      refine LW.rd hL rfl (Wants.free rfl) rfl (Rd.assign (v := .int .i64 s1) rfl) ?_
      refine LW.nil hL rfl ?_
      refine NW.then ?_
      refine CW.region fun L hL => ?_
      refine LW.rd hL rfl (Wants.free rfl) rfl (Rd.move (v := .pointer f1) rfl) ?_
      refine LW.rd hL rfl (Wants.free rfl) rfl (Rd.fa (v := .pointer (some (⟨b1, 0, none⟩ : Addr))) rfl (fun _ => by kernel_rfl)) ?_
      obtain ⟨t5, hc4, h⟩ := h
      refine LW.rd hL rfl (Wants.free rfl) rfl (Rd.ld (v := .int .i64 t5) rfl (by kernel_rfl) (eqs hc4)) ?_
      refine LW.rd hL rfl (Wants.free rfl) rfl (Rd.fa (v := .pointer (some (⟨b1, 1, none⟩ : Addr))) rfl (fun _ => by kernel_rfl)) ?_
      obtain ⟨t6, hc5, h⟩ := h
      refine LW.rd hL rfl (Wants.free rfl) rfl (Rd.ld (v := .int .i64 t6) rfl (by kernel_rfl) (eqs hc5)) ?_
      refine LW.rd hL rfl (Wants.free rfl) rfl (Rd.move (v := .int .i64 s1) rfl) ?_
      refine LW.rd hL rfl (Wants.free rfl) rfl (Rd.bin (v := .int .i64 (IntKind.wrap .i64 (t6 + s1))) rfl rfl (fun w => by kernel_rfl)) ?_
      refine LW.rd hL rfl (Wants.free rfl) rfl (Rd.build (v := .agg #[.int .i64 t5, .int .i64 (IntKind.wrap .i64 (t6 + s1))]) rfl (fun _ => by kernel_rfl)) ?_
      refine LW.rd hL rfl (Wants.free rfl) rfl (Rd.move (v := .int .u32 set1) rfl) ?_
      refine LW.call hL rfl (Wants.free rfl) rfl (Cl.fn (f := 65) rfl Tryz.func65 (by kernel_rfl) rfl) h (fun e w9 h_ => ?_)
      clear h
      obtain ⟨rfl, h⟩ := h_
      refine ⟨_, rfl, ?_⟩
      refine LW.nil hL rfl ?_
      refine NW.block ?_
      refine NW.then ?_
      refine CW.region fun L hL => ?_
      refine LW.rd hL rfl (Wants.free rfl) rfl (Rd.bin (v := .int .i64 (IntKind.wrap .i64 (s1 + 1))) rfl rfl (fun w => by kernel_rfl)) ?_
      refine LW.rd hL rfl (Wants.free rfl) rfl (Rd.move (v := .int .i64 (IntKind.wrap .i64 (s1 + 1))) rfl) ?_
      refine LW.nil hL rfl ?_
      exact NW.loop (S := Int) (Ek := fun s1 => [(0, .pointer f1), (3, .int .u32 set1), (5, .pointer (some (⟨b1, 0, none⟩ : Addr))), (8, .int .i64 0), (53, .int .i64 n1), (54, .int .i64 s1)]) (IntKind.wrap .i64 (s1 + 1)) (by exact ⟨rfl, rfl, rfl, rfl, rfl, rfl, trivial⟩) h
     ·replace h := h.2 hb11
      refine CW.exit ?_
      refine XW.then ?_
      refine XW.then ?_
      refine XW.hit ?_
      refine NW.then ?_
      refine CW.seq ?_
      refine CW.region fun L hL => ?_
      refine LW.rd hL rfl (Wants.free rfl) rfl (Rd.assign (v := .int .i64 0) rfl) ?_
      refine LW.nil hL rfl ?_
      refine NW.then ?_
      refine CW.ret ?_
      exact res1 rfl rfl ⟨0, rfl, h⟩
end Go.Proofs.YtfcfkhbkkfpehaaGreat
end
section
/- Flows: get, put, keep, Mark, New. -/
namespace Go.Proofs.YtfcfkhbkkfpehaaGreat
open Go Go.RowKit Go.X
def i64s (n : Int) : Prop := -9223372036854775808 ≤ n ∧ n ≤ 9223372036854775807
theorem nd_swap {A B B' C : List Nat} {n : Nat} (h : (A ++ (B ++ C)).Nodup) (hB' : B'.Nodup) (hs : ∀ i ∈ B', i ∈ B ∨ n ≤ i) (hA : ∀ i ∈ A, i < n) (hC : ∀ i ∈ C, i < n) : (A ++ (B' ++ C)).Nodup := by
 rw [List.nodup_append] at h ⊢
 obtain ⟨h1, h2, h3⟩ := h
 rw [List.nodup_append] at h2
 obtain ⟨h4, h5, h6⟩ := h2
 refine ⟨h1, ?_, ?_⟩
 ·rw [List.nodup_append]
  refine ⟨hB', h5, fun a ha c hc e => ?_⟩
  rcases hs a ha with h | h
  ·exact h6 a h c hc e
  ·have := hC c hc; omega
 ·intro a ha c hc e
  rcases List.mem_append.1 hc with hc | hc
  ·rcases hs c hc with h | h
   ·exact h3 a ha c (List.mem_append.2 (.inl h)) e
   ·have := hA a ha; omega
  ·exact h3 a ha c (List.mem_append.2 (.inr hc)) e
theorem flow_get {w : World} {b : Nat} {F : Fl} {fp : List Nat} (h : FlowAt w b F fp) {p1 p2 : Int} (hp : i64s p2) :
  Calls Tryz.prog 73 #[.pointer (some ⟨b, 0, none⟩), .agg #[.int .i64 p1, .int .i64 p2]] w fun e w' => ∃ r : Int, e = .returned (.int .u32 r) ∧ (r = F.g (p1, p2) ∧ Chg [] w w') := by
 obtain ⟨T, m, d, r, l, fpT, fpm, fpd, gm, gd, h1, h2, h3, h4, h5, h6, h7, h8, h9, rfl⟩ := h.there
 refine ok_flow_Flow_get _ _ _ _ _ ?_
 unfold V_flow_Flow_get
 refine v_alloc fun b1 w1 e1 hb1 c1 => ?_
 refine ⟨p1, by rw [cell_of hb1]; rfl, fun hk => ?_, fun hk => ⟨fun hk2 => ?_, fun hk2 => ?_⟩⟩
 ·have hk' : p1 = 10 := by simpa using hk
  subst hk'
  refine v_drew fun w2 c2 => ?_
  have c02 := c1.trans0 c2
  refine ⟨_, rfl, _, by rw [add_at, cell_of (c02.obj (by simp) h1)]; rfl, p2, by rw [cell_of (c2.obj (by simp) hb1)]; rfl, ?_⟩
  refine (shadow_getp (h3.chg c02 (by simp)) hp).mono ?_
  rintro _ w3 ⟨r1, r2, rfl, c3, rfl, _⟩
  exact ⟨_, _, rfl, (h6 p2).symm, c02.trans0 c3⟩
 ·have hk' : p1 = 12 := by simpa using hk2
  subst hk'
  refine v_drew fun w2 c2 => ?_
  have c02 := c1.trans0 c2
  refine ⟨_, rfl, _, by rw [add_at, cell_of (c02.obj (by simp) h1)]; rfl, p2, by rw [cell_of (c2.obj (by simp) hb1)]; rfl, ?_⟩
  refine (shadow_getp (h4.chg c02 (by simp)) hp).mono ?_
  rintro _ w3 ⟨r1, r2, rfl, c3, rfl, _⟩
  exact ⟨_, _, rfl, (h7 p2).symm, c02.trans0 c3⟩
 ·have hk' : p1 ≠ 10 := by simpa using hk
  have hk2' : p1 ≠ 12 := by simpa using hk2
  refine v_drew fun w2 c2 => ?_
  have c02 := c1.trans0 c2
  refine ⟨_, rfl, _, by rw [add_at, cell_of (c02.obj (by simp) h1)]; rfl, p1, p2, cellsAt_of (c2.obj (by simp) hb1), ?_⟩
  have hl := (h5.chg c02 (by simp)).lookup (P := Tryz.prog) (T := 99) u143 keyPlace zero22 (p1, p2) false
  refine ⟨F.g (p1, p2), ?_, rfl, c02⟩
  rw [h8 _ hk' hk2']
  rw [show (Value.agg #[.int .i64 p1, .int .i64 p2]) = encP (p1, p2) from rfl, hl]
  cases lookK (p1, p2) l <;> rfl
def putP (g : Int × Int → Int) (p : Int × Int) (set : Int) : Int × Int → Int := fun q => if q = p then set else g q
theorem flow_put {w : World} {b : Nat} {F : Fl} {fp : List Nat} (h : FlowAt w b F fp) {p1 p2 set : Int} (hm : mayP F.fr F.se (p1, p2)) (hs0 : 0 ≤ set) (hs1 : set < 65536) :
  Calls Tryz.prog 65 #[.pointer (some ⟨b, 0, none⟩), .agg #[.int .i64 p1, .int .i64 p2], .int .u32 set] w fun e w' => e = .returned (.tuple #[]) ∧
   (∃ fp', FlowAt w' b { F with g := putP F.g (p1, p2) set } fp' ∧ Chg fp w w' ∧ ∀ i ∈ fp', i ∈ fp ∨ w.heap.size ≤ i) := by
 have hlt := h.lt
 have hnd := h.nodup
 have hw := h.wide
 obtain ⟨T, m, d, r, l, fpT, fpm, fpd, gm, gd, h1, h2, h3, h4, h5, h6, h7, h8, h9, rfl⟩ := h.there
 have hm' := hm
 unfold mayP boundP at hm'
 simp only [] at hm'
 have hnd0 := hnd
 simp only [List.nodup_cons, List.mem_cons, List.mem_append, not_or, List.nodup_append] at hnd
 obtain ⟨⟨nbr, nbT, nbm, nbd⟩, ⟨nrT, nrm, nrd⟩, ndT, ⟨ndm, ndd, nmd⟩, nTmd⟩ := hnd
 have hcase : ∀ {w1 : World}, Chg [] w w1 → w1.heap[b]? = some (.cells #[.int .i64 F.fr, .int .i64 F.se, .pointer (some ⟨T, 0, none⟩), .pointer (some ⟨m, 0, none⟩), .pointer (some ⟨d, 0, none⟩), .map (some r)] 101 (0, 0)) := fun c => c.obj (by simp) h1
 refine ok_flow_Flow_put _ _ _ _ _ _ ?_
 unfold V_flow_Flow_put
 refine v_alloc fun b1 w1 e1 hb1 c1 => ?_
 refine ⟨p1, by rw [cell_of hb1]; rfl, fun hk => ?_, fun hk => ⟨p1, by rw [cell_of hb1]; rfl, fun hk2 => ?_, fun hk2 => ?_⟩⟩
 ·have hk' : p1 = 10 := by simpa using hk
  subst hk'
  simp at hm'
  refine v_drew fun w2 c2 => ?_
  have c02 := c1.trans0 c2
  refine ⟨_, rfl, _, by rw [add_at, cell_of (hcase c02)]; rfl, p2, by rw [cell_of (c2.obj (by simp) hb1)]; rfl, ?_⟩
  refine (shadow_setp (h3.chg c02 (by simp)) ⟨by omega, by omega⟩ hs0).mono ?_
  rintro _ w3 ⟨r1, rfl, hr⟩
  rw [if_neg (by omega), if_pos (by omega)] at hr
  obtain ⟨rfl, fpm', hS, c3, hf⟩ := hr
  have c03 : Chg fpm w w3 := c02.nil.trans c3 (fun _ h _ => h)
  have hf' : ∀ i ∈ fpm', i ∈ fpm ∨ w.heap.size ≤ i := fun i hi => (hf i hi).imp id (fun h => Nat.le_trans c02.size h)
  refine ⟨_, rfl, b :: r :: (fpT ++ (fpm' ++ fpd)), ⟨⟨T, m, d, r, l, fpT, fpm', fpd, putG gm p2 set, gd, c03.obj nbm h1, h2.chg c03 (fun i hi hm => nTmd i hi i (.inl hm) rfl), hS, h4.chg c03 (fun i hi hm => nmd i hm i hi rfl), h5.chg c03 nrm, ?_, ?_, ?_, h9, rfl⟩, ?_⟩, ?_, ?_⟩
  ·intro n; simp only [putP, putG]
   by_cases e : n = p2 <;> simp [e, h6]
  ·intro n; simp [putP, h7]
  ·intro p hp1 hp2; simp only [putP]
   rw [if_neg (by intro e; rw [e] at hp1; exact hp1 rfl)]; exact h8 p hp1 hp2
  ·have := nd_swap (A := b :: r :: fpT) (B := fpm) (B' := fpm') (C := fpd) (n := w.heap.size) (by simpa using hnd0) hS.nodup hf' (fun i hi => hlt i (by simp at hi ⊢; rcases hi with h | h | h <;> simp [h])) (fun i hi => hlt i (by simp [hi]))
   simpa using this
  ·exact c03.mono (fun i hi _ => by simp [hi])
  ·intro i hi
   simp only [List.mem_cons, List.mem_append] at hi ⊢
   rcases hi with h | h | h | h | h
   ·simp [h]
   ·simp [h]
   ·simp [h]
   ·rcases hf' i h with h | h <;> simp [h]
   ·simp [h]
 ·have hk' : p1 = 12 := by simpa using hk2
  subst hk'
  simp at hm'
  refine v_drew fun w2 c2 => ?_
  have c02 := c1.trans0 c2
  refine ⟨_, rfl, _, by rw [add_at, cell_of (hcase c02)]; rfl, p2, by rw [cell_of (c2.obj (by simp) hb1)]; rfl, ?_⟩
  refine (shadow_setp (h4.chg c02 (by simp)) ⟨by omega, by omega⟩ hs0).mono ?_
  rintro _ w3 ⟨r1, rfl, hr⟩
  rw [if_neg (by omega), if_pos (by omega)] at hr
  obtain ⟨rfl, fpd', hS, c3, hf⟩ := hr
  have c03 : Chg fpd w w3 := c02.nil.trans c3 (fun _ h _ => h)
  have hf' : ∀ i ∈ fpd', i ∈ fpd ∨ w.heap.size ≤ i := fun i hi => (hf i hi).imp id (fun h => Nat.le_trans c02.size h)
  refine ⟨_, rfl, b :: r :: (fpT ++ (fpm ++ fpd')), ⟨⟨T, m, d, r, l, fpT, fpm, fpd', gm, putG gd p2 set, c03.obj nbd h1, h2.chg c03 (fun i hi hm => nTmd i hi i (.inr hm) rfl), h3.chg c03 (fun i hi hm => nmd i hi i hm rfl), hS, h5.chg c03 nrd, ?_, ?_, ?_, h9, rfl⟩, ?_⟩, ?_, ?_⟩
  ·intro n; simp [putP, h6]
  ·intro n; simp only [putP, putG]
   by_cases e : n = p2 <;> simp [e, h7]
  ·intro p hp1 hp2; simp only [putP]
   rw [if_neg (by intro e; rw [e] at hp2; exact hp2 rfl)]; exact h8 p hp1 hp2
  ·have := nd_swap (A := b :: r :: (fpT ++ fpm)) (B := fpd) (B' := fpd') (C := []) (n := w.heap.size) (by simpa using hnd0) hS.nodup hf' (fun i hi => hlt i (by simp at hi ⊢; rcases hi with h | h | h | h <;> simp [h])) (by simp)
   simpa using this
  ·exact c03.mono (fun i hi _ => by simp [hi])
  ·intro i hi
   simp only [List.mem_cons, List.mem_append] at hi ⊢
   rcases hi with h | h | h | h | h
   ·simp [h]
   ·simp [h]
   ·simp [h]
   ·simp [h]
   ·rcases hf' i h with h | h <;> simp [h]
 ·have hk' : p1 ≠ 10 := by simpa using hk
  have hk2' : p1 ≠ 12 := by simpa using hk2
  refine ⟨fun hz => ?_, fun hz => ?_⟩
  ·have hz' : set = 0 := by simpa using hz
   subst hz'
   refine v_drew fun w2 c2 => ?_
   have c02 := c1.trans0 c2
   obtain ⟨w3, hd, c3, _, hm3⟩ := (h5.chg c02 (by simp)).delete (P := Tryz.prog) (T := 99) u143 keyPlace (p1, p2) (ty := 0)
   have c03 : Chg [r] w w3 := c02.nil.trans c3 (fun _ h _ => h)
   refine ⟨_, rfl, _, by rw [add_at, cell_of (hcase c02)]; rfl, p1, p2, cellsAt_of (c2.obj (by simp) hb1), w3, hd, ?_⟩
   refine ⟨b :: r :: (fpT ++ (fpm ++ fpd)), ⟨⟨T, m, d, r, _, fpT, fpm, fpd, gm, gd, c03.obj (by simpa using nbr) h1, h2.chg c03 (fun i hi hm => nrT (by simp at hm; exact hm ▸ hi)), h3.chg c03 (fun i hi hm => nrm (by simp at hm; exact hm ▸ hi)), h4.chg c03 (fun i hi hm => nrd (by simp at hm; exact hm ▸ hi)), hm3, ?_, ?_, ?_, ?_, rfl⟩, hnd0⟩, ?_, fun i hi => .inl hi⟩
   ·intro n; simp only [putP]; rw [if_neg (by intro e; exact hk' (congrArg Prod.fst e).symm)]; exact h6 n
   ·intro n; simp only [putP]; rw [if_neg (by intro e; exact hk2' (congrArg Prod.fst e).symm)]; exact h7 n
   ·intro p hp1 hp2; simp only [putP]
    simp only [lookK_del]
    by_cases e : p = (p1, p2)
    ·simp [e]
    ·simp [e, h8 p hp1 hp2]
   ·intro x hx; exact h9 x (List.mem_filter.1 hx).1
   ·exact c03.mono (by simp)
  ·have hz' : set ≠ 0 := by simpa using hz
   refine v_drew fun w2 c2 => ?_
   have c02 := c1.trans0 c2
   obtain ⟨w3, hd, c3, _, hm3⟩ := (h5.chg c02 (by simp)).update (P := Tryz.prog) (T := 99) u143 keyPlace (p1, p2) set
   have c03 : Chg [r] w w3 := c02.nil.trans c3 (fun _ h _ => h)
   refine ⟨_, rfl, _, by rw [add_at, cell_of (hcase c02)]; rfl, p1, p2, cellsAt_of (c2.obj (by simp) hb1), w3, hd, ?_⟩
   refine ⟨b :: r :: (fpT ++ (fpm ++ fpd)), ⟨⟨T, m, d, r, _, fpT, fpm, fpd, gm, gd, c03.obj (by simpa using nbr) h1, h2.chg c03 (fun i hi hm => nrT (by simp at hm; exact hm ▸ hi)), h3.chg c03 (fun i hi hm => nrm (by simp at hm; exact hm ▸ hi)), h4.chg c03 (fun i hi hm => nrd (by simp at hm; exact hm ▸ hi)), hm3, ?_, ?_, ?_, ?_, rfl⟩, hnd0⟩, ?_, fun i hi => .inl hi⟩
   ·intro n; simp only [putP]; rw [if_neg (by intro e; exact hk' (congrArg Prod.fst e).symm)]; exact h6 n
   ·intro n; simp only [putP]; rw [if_neg (by intro e; exact hk2' (congrArg Prod.fst e).symm)]; exact h7 n
   ·intro p hp1 hp2; simp only [putP]
    simp only [lookK_upd]
    by_cases e : p = (p1, p2)
    ·simp [e]
    ·simp [e, h8 p hp1 hp2]
   ·intro x hx
    unfold upd at hx
    split at hx
    ·obtain ⟨y, hy, rfl⟩ := List.mem_map.1 hx
     by_cases e : y.1 = (p1, p2)
     ·rw [if_pos e]; exact ⟨hk', hk2', hm, by show 0 < set; omega, hs1⟩
     ·rw [if_neg e]; exact h9 y hy
    ·rcases List.mem_append.1 hx with hx | hx
     ·exact h9 x hx
     ·simp at hx; subst hx; exact ⟨hk', hk2', hm, by show 0 < set; omega, hs1⟩
   ·exact c03.mono (by simp)
theorem flow_keep {w : World} {b : Nat} {F : Fl} {fp : List Nat} (h : FlowAt w b F fp) {set : Int} (hs0 : 0 ≤ set) :
  Calls Tryz.prog 64 #[.pointer (some ⟨b, 0, none⟩), .int .u32 set] w fun e w' => ∃ r : Int, e = .returned (.int .i64 r) ∧
   (r = keepE F.most F.sets set ∧ ∃ fp', FlowAt w' b { F with sets := keepS F.most F.sets set } fp' ∧ Chg fp w w' ∧ ∀ i ∈ fp', i ∈ fp ∨ w.heap.size ≤ i) := by
 have hlt := h.lt
 have hnd := h.nodup
 obtain ⟨T, m, d, r, l, fpT, fpm, fpd, gm, gd, h1, h2, h3, h4, h5, h6, h7, h8, h9, rfl⟩ := h.there
 have hnd0 := hnd
 simp only [List.nodup_cons, List.mem_cons, List.mem_append, not_or, List.nodup_append] at hnd
 obtain ⟨⟨nbr, nbT, nbm, nbd⟩, ⟨nrT, nrm, nrd⟩, ndT, ⟨ndm, ndd, nmd⟩, nTmd⟩ := hnd
 refine ok_flow_Flow_keep _ _ _ _ ?_
 unfold V_flow_Flow_keep
 refine ⟨_, rfl, _, by rw [add_at, cell_of h1]; rfl, ?_⟩
 refine (table_keep h2 hs0).mono ?_
 rintro _ w3 ⟨r1, r2, rfl, rfl, fpT', hT, c3, hf⟩
 refine ⟨_, _, rfl, rfl, b :: r :: (fpT' ++ (fpm ++ fpd)), ⟨⟨T, m, d, r, l, fpT', fpm, fpd, gm, gd, c3.obj nbT h1, hT, h3.chg c3 (fun i hi hm => nTmd i hm i (.inl hi) rfl), h4.chg c3 (fun i hi hm => nTmd i hm i (.inr hi) rfl), h5.chg c3 nrT, h6, h7, h8, h9, rfl⟩, ?_⟩, ?_, ?_⟩
 ·have := nd_swap (A := [b, r]) (B := fpT) (B' := fpT') (C := fpm ++ fpd) (n := w.heap.size) (by simpa using hnd0) hT.nodup hf (fun i hi => hlt i (by simp at hi ⊢; rcases hi with h | h <;> simp [h])) (fun i hi => hlt i (by simp at hi ⊢; rcases hi with h | h <;> simp [h]))
  simpa using this
 ·exact c3.mono (fun i hi _ => by simp [hi])
 ·intro i hi
  simp only [List.mem_cons, List.mem_append] at hi ⊢
  rcases hi with h | h | h | h | h
  ·simp [h]
  ·simp [h]
  ·rcases hf i h with h | h <;> simp [h]
  ·simp [h]
  ·simp [h]
def flowNew (fr se most : Int) : Fl := ⟨fr, se, most, [0], fun _ => 0⟩
def rightP (fr se most : Int) : Prop := 1 ≤ fr ∧ fr ≤ 32 ∧ 1 ≤ se ∧ se ≤ 32 ∧ 1 ≤ most ∧ most ≤ 65536
instance (fr se most : Int) : Decidable (rightP fr se most) := by unfold rightP; exact inferInstance
theorem flow_new (w : World) (fr se most : Int) :
  Calls Tryz.prog 26 #[.agg #[.int .i64 fr, .int .i64 se], .int .i64 most] w fun e w' => ∃ (r1 : Option Addr) (r2 : Int), e = .returned (.tuple #[.pointer r1, .int .i64 r2]) ∧
   (Chg [] w w' ∧ if rightP fr se most then r2 = 0 ∧ ∃ b fp, r1 = some ⟨b, 0, none⟩ ∧ FlowAt w' b (flowNew fr se most) fp ∧ ∀ i ∈ fp, w.heap.size ≤ i else r1 = none ∧ r2 = 2) := by
 refine ok_flow_New _ _ _ _ _ ?_
 unfold V_flow_New
 refine v_alloc fun b1 w1 e1 hb1 c1 => ?_
 refine (table_new w1 most).mono ?_
 rintro _ w2 ⟨r3, r4, rfl, c2, ht⟩
 have hb2 := c2.obj (by simp) hb1
 refine ⟨_, _, rfl, fr, by rw [cell_of hb2]; rfl, ?_⟩
 refine (shadow_new w2 fr).mono ?_
 rintro _ w3 ⟨r5, r6, rfl, c3, hm⟩
 have hb3 := c3.obj (by simp) hb2
 refine ⟨_, _, rfl, se, by rw [cell_of hb3]; rfl, ?_⟩
 refine (shadow_new w3 se).mono ?_
 rintro _ w4 ⟨r7, r8, rfl, c4, hd⟩
 have hb4 := c4.obj (by simp) hb3
 have c04 : Chg [] w w4 := ((c1.trans0 c2).trans0 c3).trans0 c4
 refine ⟨_, _, rfl, fun hbad => ?_, fun hgood => ?_⟩
 ·refine ⟨c04, ?_⟩
  rw [if_neg]
  ·exact ⟨rfl, rfl⟩
  ·rintro ⟨k1, k2, k3, k4, k5, k6⟩
   rw [if_pos ⟨k5, k6⟩] at ht
   rw [if_pos ⟨k1, k2⟩] at hm
   rw [if_pos ⟨k3, k4⟩] at hd
   simp [ht.1, hm.1, hd.1] at hbad
 simp at hgood
 by_cases k1 : 1 ≤ most ∧ most ≤ 65536
 case neg => rw [if_neg k1] at ht; omega
 by_cases k2 : 1 ≤ fr ∧ fr ≤ 32
 case neg => rw [if_neg k2] at hm; omega
 by_cases k3 : 1 ≤ se ∧ se ≤ 32
 case neg => rw [if_neg k3] at hd; omega
 rw [if_pos k1] at ht
 rw [if_pos k2] at hm
 rw [if_pos k3] at hd
 obtain ⟨rfl, T, fpT, rfl, hT, fT⟩ := ht
 obtain ⟨rfl, m, fpm, rfl, hM, fM⟩ := hm
 obtain ⟨rfl, d, fpd, rfl, hD, fD⟩ := hd
 refine ⟨fr, se, cellsAt_of hb4, ?_⟩
 refine v_alloc fun b2 w5 e5 h5 c5 => ?_
 refine v_alloc fun b3 w6 e6 h6 c6 => ?_
 have c06 := (c04.trans0 c5).trans0 c6
 have l5 : b2 < w5.heap.size := lt_of_heap h5
 have s1 := c1.size
 have s2 := c2.size
 have s3 := c3.size
 have s4 := c4.size
 have s5 := c5.size
 have lT := hT.lt
 have lM := hM.lt
 have lD := hD.lt
 refine ⟨c06, ?_⟩
 rw [if_pos ⟨k2.1, k2.2, k3.1, k3.2, k1.1, k1.2⟩]
 have hmap : MapIs w5 b2 encP (fun n : Int => .int .u32 n) [] := ⟨#[], 0, h5, rfl, by simp, by simp, by simp⟩
 have c26 := ((c3.trans0 c4).trans0 c5).trans0 c6
 have c36 := (c4.trans0 c5).trans0 c6
 have c46 := c5.trans0 c6
 refine ⟨rfl, b3, b3 :: b2 :: (fpT ++ (fpm ++ fpd)), rfl, ⟨⟨T, m, d, b2, [], fpT, fpm, fpd, fun _ => 0, fun _ => 0, h6, hT.chg c26 (by simp), hM.chg c36 (by simp), hD.chg c46 (by simp), hmap.chg c6 (by simp), fun _ => rfl, fun _ => rfl, fun _ _ _ => rfl, by simp, rfl⟩, ?_⟩, ?_⟩
 ·simp only [List.nodup_cons, List.mem_cons, List.mem_append, not_or, List.nodup_append]
  refine ⟨⟨by omega, fun h => ?_, fun h => ?_, fun h => ?_⟩, ⟨fun h => ?_, fun h => ?_, fun h => ?_⟩, hT.nodup, ⟨hM.nodup, hD.nodup, fun a ha c hc e => ?_⟩, fun a ha c hc e => ?_⟩
  ·have := lT _ h; omega
  ·have := lM _ h; omega
  ·have := lD _ h; omega
  ·have := lT _ h; omega
  ·have := lM _ h; omega
  ·have := lD _ h; omega
  ·have := lM _ ha; have := fD _ hc; omega
  ·have := lT _ ha
   rcases hc with hc | hc
   ·have := fM _ hc; omega
   ·have := fD _ hc; omega
 ·intro i hi
  simp only [List.mem_cons, List.mem_append] at hi
  rcases hi with h | h | h | h | h
  ·omega
  ·omega
  ·have := fT i h; omega
  ·have := fM i h; omega
  ·have := fD i h; omega
end Go.Proofs.YtfcfkhbkkfpehaaGreat
end
section
/- Flows: Mark, Get, together, right, Decides; places and touches that lie somewhere. -/
namespace Go.Proofs.YtfcfkhbkkfpehaaGreat
open Go Go.RowKit Go.X
def fillP (g : Int × Int → Int) (p : Int × Int) (set : Int) : Nat → Int × Int → Int
 | 0 => g
 | n + 1 => putP (fillP g p set n) (p.1, p.2 + n) set
def markE (F : Fl) (p : Int × Int) (n set : Int) : Int :=
 if ¬ mayP F.fr F.se p ∨ 65536 ≤ set then 2 else if n < 0 ∨ 65536 < n ∨ (0 < n ∧ ¬ mayP F.fr F.se (p.1, p.2 + n - 1)) then 4 else keepE F.most F.sets set
def markF (F : Fl) (p : Int × Int) (n set : Int) : Fl := if markE F p n set = 0 then { F with sets := keepS F.most F.sets set, g := fillP F.g p set n.toNat } else F
theorem keepS_bad {most : Int} {sets : List Int} {set : Int} (h : keepE most sets set ≠ 0) : keepS most sets set = sets := by
 unfold keepE at h; unfold keepS
 split at h
 ·rename_i h1; rw [if_pos (.inl h1)]
 split at h
 ·simp at h
 split at h
 ·rename_i h1; rw [if_pos (.inr (.inr h1))]
 ·simp at h
theorem grow_trans {fp fp' fp'' : List Nat} {w w' w'' : World} (c : Chg fp w w') (f : ∀ i ∈ fp', i ∈ fp ∨ w.heap.size ≤ i) (c' : Chg fp' w' w'') (f' : ∀ i ∈ fp'', i ∈ fp' ∨ w'.heap.size ≤ i) :
  Chg fp w w'' ∧ ∀ i ∈ fp'', i ∈ fp ∨ w.heap.size ≤ i :=
 ⟨c.trans c' (fun i hi hlt => (f i hi).resolve_right (by omega)), fun i hi => by
  rcases f' i hi with h | h
  ·exact f i h
  ·exact .inr (Nat.le_trans c.size h)⟩
theorem flow_mark {w : World} {b : Nat} {F : Fl} {fp : List Nat} (h : FlowAt w b F fp) {p1 p2 n set : Int} (hp : i64s p2) (hs0 : 0 ≤ set) :
  Calls Tryz.prog 31 #[.pointer (some ⟨b, 0, none⟩), .agg #[.int .i64 p1, .int .i64 p2], .int .i64 n, .int .u32 set] w fun e w' => ∃ r : Int, e = .returned (.int .i64 r) ∧
   (r = markE F (p1, p2) n set ∧ ∃ fp', FlowAt w' b (markF F (p1, p2) n set) fp' ∧ Chg fp w w' ∧ ∀ i ∈ fp', i ∈ fp ∨ w.heap.size ≤ i) := by
 have hwide := h.wide
 refine ok_flow_Flow_Mark _ _ _ _ _ _ _ ?_
 unfold V_flow_Flow_Mark
 refine v_alloc fun b1 w1 e1 hb1 c1 => ?_
 refine (flow_none (h.chg c1 (by simp))).mono ?_
 rintro _ w2 ⟨_, rfl, rfl, hw⟩
 subst w2
 refine ⟨_, rfl, fun h => by simp at h, fun _ => ⟨p1, p2, cellsAt_of hb1, ?_⟩⟩
 refine (flow_may (h.chg c1 (by simp)) p1 p2).mono ?_
 rintro _ w3 ⟨_, rfl, rfl, c3⟩
 have c03 := c1.trans0 c3
 have hb3 := c3.obj (by simp) hb1
 refine ⟨_, rfl, fun hbad => ?_, fun hgood => ?_⟩
 ·have hb : ¬ mayP F.fr F.se (p1, p2) ∨ 65536 ≤ set := by simpa using hbad
  have hE : markE F (p1, p2) n set = 2 := by unfold markE; rw [if_pos hb]
  exact ⟨hE.symm, fp, by unfold markF; rw [if_neg (by omega)]; exact h.chg c03 (by simp), c03.nil, fun i hi => .inl hi⟩
 have hg : mayP F.fr F.se (p1, p2) ∧ set < 65536 := by simpa using hgood
 have hm := hg.1
 unfold mayP boundP at hm
 simp only [] at hm
 have hp2 : 0 ≤ p2 ∧ p2 < 2147483648 := by
  refine ⟨hm.2.2.1, ?_⟩
  have := hm.2.2.2
  split at this
  ·omega
  split at this
  ·omega
  split at this
  ·omega
  split at this
  ·omega
  split at this
  ·omega
  split at this <;> omega
 have hnot : ¬ (¬ mayP F.fr F.se (p1, p2) ∨ 65536 ≤ set) := by
  rintro (h | h)
  ·exact h hg.1
  ·omega
 refine ⟨fun b2 w4 => Chg [] w w4 ∧ w4.heap[b1]? = some (.cells #[.int .i64 p1, .int .i64 p2] 62 (0, 0)) ∧ b2 = decide (n < 0 ∨ 65536 < n ∨ (0 < n ∧ ¬ mayP F.fr F.se (p1, p2 + n - 1))), ?_, fun hn => ?_, fun hn => ?_⟩
 rotate_left
 ·have hn' : 0 ≤ n ∧ n ≤ 65536 := by simpa using hn
  refine ⟨_, fun b3 w5 h => h, fun hpos => ?_, fun hpos => ?_⟩
  ·have hpos' : 0 < n := by simpa using hpos
   refine ⟨p1, by rw [cell_of hb3]; rfl, p2, by rw [cell_of hb3]; rfl, ?_⟩
   rw [wr (n := p2 + n) (by omega) (by omega), wr (by omega) (by omega)]
   refine (flow_may (h.chg c03 (by simp)) p1 (p2 + n - 1)).mono ?_
   rintro _ w6 ⟨_, rfl, rfl, c6⟩
   refine ⟨_, rfl, c03.trans0 c6, c6.obj (by simp) hb3, ?_⟩
   rw [← decide_not]
   exact decide_eq_decide.2 ⟨fun h => .inr (.inr ⟨hpos', h⟩), fun h => by
    rcases h with h | h | h
    ·omega
    ·omega
    ·exact h.2⟩
  ·have hpos' : ¬ 0 < n := by simpa using hpos
   refine ⟨c03, hb3, ?_⟩
   symm; rw [decide_eq_false_iff_not]; omega
 ·have hn' : n < 0 ∨ 65536 < n := by simpa using hn
  refine ⟨c03, hb3, ?_⟩
  symm; rw [decide_eq_true_eq]; omega
 rintro b2 w4 ⟨c04, hb4, rfl⟩
 refine ⟨fun hbad => ?_, fun hok => ?_⟩
 ·rw [decide_eq_true_eq] at hbad
  have hE : markE F (p1, p2) n set = 4 := by unfold markE; rw [if_neg hnot, if_pos hbad]
  exact ⟨hE.symm, fp, by unfold markF; rw [if_neg (by omega)]; exact h.chg c04 (by simp), c04.nil, fun i hi => .inl hi⟩
 rw [decide_eq_false_iff_not] at hok
 have hE : markE F (p1, p2) n set = keepE F.most F.sets set := by unfold markE; rw [if_neg hnot, if_neg hok]
 refine (flow_keep (h.chg c04 (by simp)) hs0).mono ?_
 rintro _ w7 ⟨r5, rfl, rfl, fp', hF, c7, hf⟩
 obtain ⟨c07, hf07⟩ := grow_trans (fp := fp) (fp' := fp) c04.nil (fun i hi => .inl hi) c7 hf
 have hlt := h.lt
 have hb7 : w7.heap[b1]? = some (.cells #[.int .i64 p1, .int .i64 p2] 62 (0, 0)) := c7.obj (fun hm => by have := hlt _ hm; omega) hb4
 refine ⟨_, rfl, fun hbad => ?_, fun hz => ?_⟩
 ·have hbad' : keepE F.most F.sets set ≠ 0 := by simpa using hbad
  refine ⟨hE.symm, fp', ?_, c07, hf07⟩
  unfold markF; rw [if_neg (by rw [hE]; exact hbad')]
  rw [keepS_bad hbad'] at hF; exact hF
 have hz' : keepE F.most F.sets set = 0 := by simpa using hz
 have hn0 : 0 ≤ n ∧ n ≤ 65536 := by omega
 refine ⟨fun s w' => ∃ i : Nat, s = (i : Int) ∧ (i : Int) ≤ n ∧ w'.heap[b1]? = some (.cells #[.int .i64 p1, .int .i64 p2] 62 (0, 0)) ∧ ∃ fp', FlowAt w' b { F with sets := keepS F.most F.sets set, g := fillP F.g (p1, p2) set i } fp' ∧ Chg fp w w' ∧ ∀ i ∈ fp', i ∈ fp ∨ w.heap.size ≤ i ∧ i ≠ b1,
  fun s _ => (n - s).toNat, ⟨0, rfl, by omega, hb7, fp', hF, c07, fun i hi => ?_⟩, ?_⟩
 ·rcases hf i hi with h | h
  ·exact .inl h
  ·exact .inr ⟨Nat.le_trans c04.size h, fun e => by have := lt_of_heap hb4; omega⟩
 rintro _ w8 ⟨i, rfl, hi, hb8, fp8, hF8, c8, hf8⟩
 refine ⟨fun hlt8 => ?_, fun hge => ?_⟩
 ·have hlt' : (i : Int) < n := by simpa using hlt8
  refine ⟨p1, by rw [cell_of hb8]; rfl, p2, by rw [cell_of hb8]; rfl, ?_⟩
  rw [wr (n := p2 + i) (by omega) (by omega)]
  have hmi : mayP F.fr F.se (p1, p2 + i) := by
   have h1 : mayP F.fr F.se (p1, p2 + n - 1) := Classical.byContradiction fun h => hok (.inr (.inr ⟨by omega, h⟩))
   unfold mayP at h1 hg ⊢
   simp only [] at h1 hg ⊢
   omega
  refine (flow_put hF8 hmi hs0 hg.2).mono ?_
  rintro _ w9 ⟨rfl, fp9, hF9, c9, hf9⟩
  rw [wr (by omega) (by omega)]
  refine ⟨rfl, ⟨i + 1, by omega, by omega, c9.obj (fun hm => ?_) hb8, fp9, hF9, ?_, ?_⟩, by simp only []; omega⟩
  ·rcases hf8 _ hm with h | h
   ·have := hlt _ h; omega
   ·exact h.2 rfl
  ·exact c8.trans c9 (fun j hj hl => (hf8 j hj).resolve_right (fun h => by omega))
  ·intro j hj
   rcases hf9 j hj with h | h
   ·exact hf8 j h
   ·exact .inr ⟨Nat.le_trans c8.size h, fun e => by have := lt_of_heap hb8; omega⟩
 ·have hge' : ¬ (i : Int) < n := by simpa using hge
  have : n.toNat = i := by omega
  refine ⟨by rw [hE, hz'], fp8, ?_, c8, fun j hj => (hf8 j hj).imp id And.left⟩
  unfold markF; rw [if_pos (by rw [hE]; exact hz'), this]; exact hF8
theorem flow_Get {w : World} {b : Nat} {F : Fl} {fp : List Nat} (h : FlowAt w b F fp) {p1 p2 : Int} (hp : i64s p2) :
  Calls Tryz.prog 35 #[.pointer (some ⟨b, 0, none⟩), .agg #[.int .i64 p1, .int .i64 p2]] w fun e w' => ∃ (r1 : Int) (r2 : Int), e = .returned (.tuple #[.int .u32 r1, .int .i64 r2]) ∧
   (Chg [] w w' ∧ if mayP F.fr F.se (p1, p2) then r1 = F.g (p1, p2) ∧ r2 = 0 else r1 = 0 ∧ r2 = 2) := by
 refine ok_flow_Flow_Get _ _ _ _ _ ?_
 unfold V_flow_Flow_Get
 refine v_alloc fun b1 w1 e1 hb1 c1 => ?_
 refine ⟨fun s w2 => Chg [] w w2 ∧ s.2 = 2 ∧ ¬ mayP F.fr F.se (p1, p2), ?_, ?_⟩
 ·rintro ⟨s1, s2⟩ w2 ⟨c2, rfl, hn⟩
  exact ⟨c2, by rw [if_neg hn]; exact ⟨rfl, rfl⟩⟩
 refine (flow_none (h.chg c1 (by simp))).mono ?_
 rintro _ w3 ⟨_, rfl, rfl, hw⟩
 subst w3
 refine ⟨_, rfl, fun h => by simp at h, fun _ => ⟨p1, p2, cellsAt_of hb1, ?_⟩⟩
 refine (flow_may (h.chg c1 (by simp)) p1 p2).mono ?_
 rintro _ w4 ⟨_, rfl, rfl, c4⟩
 have c04 := c1.trans0 c4
 refine ⟨_, rfl, fun hb => ⟨c04, rfl, by simpa using hb⟩, fun hb => ⟨p1, p2, cellsAt_of (c4.obj (by simp) hb1), ?_⟩⟩
 have hm : mayP F.fr F.se (p1, p2) := by simpa using hb
 refine (flow_get (h.chg c04 (by simp)) hp).mono ?_
 rintro _ w5 ⟨_, rfl, rfl, c5⟩
 exact ⟨_, rfl, c04.trans0 c5, by rw [if_pos hm]; exact ⟨rfl, rfl⟩⟩
/-! ### Places and touches -/
structure PlacesAt (w : World) (S : Nat → Prop) (p : Option Addr) (n : Nat) (ps : List (Int × Int)) : Prop where
 length : ps.length = n
 each : ∀ j x, ps[j]? = some x → i64s x.1 ∧ i64s x.2 ∧ ∃ a, p = some a ∧ S a.block ∧ CellsAt w (a.add (j * 2)) 0 [.int .i64 x.1, .int .i64 x.2]
theorem PlacesAt.chg {w w' : World} {S : Nat → Prop} {p : Option Addr} {n : Nat} {ps : List (Int × Int)} {f : List Nat} (h : PlacesAt w S p n ps) (hc : Chg f w w') (hf : ∀ i ∈ f, ¬ S i) : PlacesAt w' S p n ps :=
 ⟨h.length, fun j x hx => let ⟨h1, h2, a, h3, h4, h5⟩ := h.each j x hx; ⟨h1, h2, a, h3, h4, hc.cells (by rw [add_block]; exact fun hm => hf _ hm h4) h5⟩⟩
abbrev Tch := (Int × Int) × List (Int × Int)
structure TouchesAt (w : World) (S : Nat → Prop) (p : Option Addr) (n : Nat) (ts : List Tch) : Prop where
 length : ts.length = n
 each : ∀ j t, ts[j]? = some t → i64s t.1.1 ∧ i64s t.1.2 ∧ ∃ a q qn qc, p = some a ∧ S a.block ∧ CellsAt w (a.add (j * 3)) 0 [.int .i64 t.1.1, .int .i64 t.1.2, .slice q qn qc] ∧ PlacesAt w S q qn t.2
theorem TouchesAt.chg {w w' : World} {S : Nat → Prop} {p : Option Addr} {n : Nat} {ts : List Tch} {f : List Nat} (h : TouchesAt w S p n ts) (hc : Chg f w w') (hf : ∀ i ∈ f, ¬ S i) : TouchesAt w' S p n ts :=
 ⟨h.length, fun j x hx => let ⟨h1, h2, a, q, qn, qc, h3, h4, h5, h6⟩ := h.each j x hx; ⟨h1, h2, a, q, qn, qc, h3, h4, hc.cells (by rw [add_block]; exact fun hm => hf _ hm h4) h5, h6.chg hc hf⟩⟩
theorem get_of {α : Type} {l : List α} {j : Nat} (h : j < l.length) : ∃ x, l[j]? = some x := ⟨l[j], List.getElem?_eq_getElem h⟩
theorem take_snoc {α : Type} {l : List α} {j : Nat} {x : α} (h : l[j]? = some x) : l.take (j + 1) = l.take j ++ [x] := by
 rw [List.take_add_one, h]; rfl
def joinP (g : Int × Int → Int) (ps : List (Int × Int)) : Int := ps.foldl (fun s p => bits .or .u32 s (g p)) 0
theorem joinP_snoc (g : Int × Int → Int) (ps : List (Int × Int)) (p : Int × Int) : joinP g (ps ++ [p]) = bits .or .u32 (joinP g ps) (g p) := by simp [joinP]
theorem flow_together {w : World} {b : Nat} {F : Fl} {fp : List Nat} (h : FlowAt w b F fp) {S : Nat → Prop} {p : Option Addr} {n c : Nat} {ps : List (Int × Int)} (hp : PlacesAt w S p n ps) (hn : n ≤ 9223372036854775807) :
  Calls Tryz.prog 67 #[.pointer (some ⟨b, 0, none⟩), .slice p n c] w fun e w' => ∃ r : Int, e = .returned (.int .u32 r) ∧ (r = joinP F.g ps ∧ Chg [] w w') := by
 refine ok_flow_Flow_together _ _ _ _ _ _ ?_
 unfold V_flow_Flow_together
 refine ⟨fun s w' => ∃ j : Nat, s.2 = (j : Int) ∧ j ≤ n ∧ s.1 = joinP F.g (ps.take j) ∧ Chg [] w w', fun s _ => (n - s.2).toNat, ⟨0, rfl, by omega, rfl, Chg.refl _ _⟩, ?_⟩
 rintro ⟨s1, s2⟩ w1 ⟨j, rfl, hj, rfl, c1⟩
 refine ⟨fun hlt => ?_, fun hge => ?_⟩
 ·have hlt' : j < n := by simpa using hlt
  obtain ⟨x, hj'⟩ := get_of (l := ps) (j := j) (by rw [hp.length]; exact hlt')
  obtain ⟨k1, k2, a, rfl, ha, hc⟩ := (hp.chg c1 (by simp)).each j _ hj'
  refine ⟨a, rfl, by simp only []; omega, by simp only []; omega, _, _, by simpa using hc, ?_⟩
  refine v_box (by rfl) (by rfl) fun b1 w3 e3 h3 c3 => ?_
  refine ⟨_, _, cellsAt_of h3, ?_⟩
  have c13 := c1.trans0 c3
  refine (flow_get (h.chg c13 (by simp)) k2).mono ?_
  rintro _ w4 ⟨r2, rfl, rfl, c4⟩
  refine ⟨_, rfl, ?_⟩
  simp only []
  rw [wr (by omega) (by omega)]
  refine ⟨⟨j + 1, by omega, by omega, ?_, c13.trans0 c4⟩, by omega⟩
  rw [take_snoc hj', joinP_snoc]
 ·have hge' : ¬ j < n := by simpa using hge
  refine ⟨?_, c1⟩
  rw [List.take_of_length_le (by rw [hp.length]; omega)]
def rightT (fr se : Int) (t : Tch) : Prop := (t.1 = (0, 0) ∨ mayP fr se t.1) ∧ ∀ p ∈ t.2, mayP fr se p
instance (fr se : Int) (t : Tch) : Decidable (rightT fr se t) := by unfold rightT; exact inferInstance
theorem flow_right {w : World} {b : Nat} {F : Fl} {fp : List Nat} (h : FlowAt w b F fp) {S : Nat → Prop} {p : Option Addr} {n c : Nat} {ts : List Tch} (hp : TouchesAt w S p n ts) (hn : n ≤ 9223372036854775807) (hin : ∀ t ∈ ts, t.2.length ≤ 9223372036854775807) :
  Calls Tryz.prog 66 #[.pointer (some ⟨b, 0, none⟩), .slice p n c] w fun e w' => ∃ r : Bool, e = .returned (.bool r) ∧ (r = decide (∀ t ∈ ts, rightT F.fr F.se t) ∧ Chg [] w w') := by
 refine ok_flow_Flow_right _ _ _ _ _ _ ?_
 unfold V_flow_Flow_right
 refine ⟨fun s w' => ∃ j : Nat, s.2 = (j : Int) ∧ j ≤ n ∧ (∀ t ∈ ts.take j, rightT F.fr F.se t) ∧ Chg [] w w', fun s _ => (n - s.2).toNat, ⟨0, rfl, by omega, by simp, Chg.refl _ _⟩, ?_⟩
 rintro ⟨s1, s2⟩ w1 ⟨j, rfl, hj, hall, c1⟩
 refine ⟨fun hlt => ?_, fun hge => ?_⟩
 ·have hlt' : j < n := by simpa using hlt
  obtain ⟨t, hj'⟩ := get_of (l := ts) (j := j) (by rw [hp.length]; exact hlt')
  have hmem : t ∈ ts := List.mem_of_getElem? hj'
  obtain ⟨k1, k2, a, q, qn, qc, rfl, ha, hc, hps⟩ := (hp.chg c1 (by simp)).each j _ hj'
  refine ⟨a, rfl, by simp only []; omega, by simp only []; omega, t.1.1, t.1.2, q, qn, qc, by simpa using hc, ?_⟩
  refine v_box (by rfl) (by rfl) fun b1 w3 e3 h3 c3 => ?_
  have c03 := c1.trans0 c3
  refine ⟨t.1.1, t.1.2, ⟨by rw [add_at, cell_of h3]; rfl, by rw [add_at, cell_of h3]; rfl, trivial⟩, ?_⟩
  have hno : ¬ (∀ t ∈ ts, rightT F.fr F.se t) → decide (∀ t ∈ ts, rightT F.fr F.se t) = false := fun h => decide_eq_false h
  refine ⟨fun b2 w4 => b2 = decide (¬ (t.1 = (0, 0) ∨ mayP F.fr F.se t.1)) ∧ Chg [] w w4 ∧ Chg [] w3 w4, ?_, fun hne => ?_, fun he => ?_⟩
  rotate_left
  ·have hne' : t.1 ≠ (0, 0) := by
    intro e; rw [e] at hne; simp at hne
   refine ⟨t.1.1, t.1.2, ⟨by rw [add_at, cell_of h3]; rfl, by rw [add_at, cell_of h3]; rfl, trivial⟩, ?_⟩
   refine (flow_may (h.chg c03 (by simp)) _ _).mono ?_
   rintro _ w5 ⟨_, rfl, rfl, c5⟩
   refine ⟨_, rfl, ?_, c03.trans0 c5, c5⟩
   rw [← decide_not]
   exact decide_eq_decide.2 ⟨fun h h' => h'.elim hne' h, fun h h' => h (.inr h')⟩
  ·have he' : t.1 = (0, 0) := by
    have : t.1.1 = 0 ∧ t.1.2 = 0 := by simpa using he
    exact Prod.ext this.1 this.2
   exact ⟨by simp [he'], c03, Chg.refl _ _⟩
  rintro b2 w4 ⟨rfl, c04, c34⟩
  refine ⟨fun hb => ?_, fun hb => ?_⟩
  ·rw [decide_eq_true_eq] at hb
   exact ⟨(decide_eq_false (fun h => hb (h t hmem).1)).symm, c04⟩
  rw [decide_eq_false_iff_not] at hb
  have hto : t.1 = (0, 0) ∨ mayP F.fr F.se t.1 := Classical.byContradiction hb
  refine ⟨q, qn, qc, by rw [cell_of (c34.obj (by simp) h3)]; rfl, ?_⟩
  have hps4 := (hps.chg c3 (by simp)).chg c34 (by simp)
  have hqn : qn ≤ 9223372036854775807 := by rw [← hps.length]; exact hin t hmem
  refine ⟨fun s w' => ∃ i : Nat, s.2 = (i : Int) ∧ i ≤ qn ∧ (∀ x ∈ t.2.take i, mayP F.fr F.se x) ∧ Chg [] w w' ∧ Chg [] w4 w', fun s _ => (qn - s.2).toNat, ⟨0, rfl, by omega, by simp, c04, Chg.refl _ _⟩, ?_⟩
  rintro ⟨u1, u2⟩ w6 ⟨i, rfl, hi, hsome, c06, c46⟩
  refine ⟨fun hlt2 => ?_, fun hge2 => ?_⟩
  ·have hlt2' : i < qn := by simpa using hlt2
   obtain ⟨y, hi'⟩ := get_of (l := t.2) (j := i) (by rw [hps.length]; exact hlt2')
   have hmem2 : y ∈ t.2 := List.mem_of_getElem? hi'
   obtain ⟨k3, k4, a2, rfl, _, hc2⟩ := (hps4.chg c46 (by simp)).each i _ hi'
   refine ⟨a2, rfl, by simp only []; omega, by simp only []; omega, _, _, by simpa using hc2, ?_⟩
   refine v_box (by rfl) (by rfl) fun b3 w8 e8 h8 c8 => ?_
   refine ⟨_, _, cellsAt_of h8, ?_⟩
   have c08 := c06.trans0 c8
   refine (flow_may (h.chg c08 (by simp)) _ _).mono ?_
   rintro _ w9 ⟨_, rfl, rfl, c9⟩
   refine ⟨_, rfl, fun hb => ?_, fun hb => ?_⟩
   ·have hb' : ¬ mayP F.fr F.se y := by simpa using hb
    exact ⟨(decide_eq_false (fun h => hb' ((h t hmem).2 _ hmem2))).symm, c08.trans0 c9⟩
   ·have hb' : mayP F.fr F.se y := by simpa using hb
    simp only []
    rw [wr (by omega) (by omega)]
    refine ⟨⟨i + 1, by omega, by omega, ?_, c08.trans0 c9, (c46.trans0 c8).trans0 c9⟩, by omega⟩
    rw [take_snoc hi']
    intro x hx
    rcases List.mem_append.1 hx with hx | hx
    ·exact hsome x hx
    ·simp at hx; rw [hx]; exact hb'
  ·have hge2' : ¬ i < qn := by simpa using hge2
   simp only []
   rw [wr (by omega) (by omega)]
   refine ⟨⟨j + 1, by omega, by omega, ?_, c06⟩, by omega⟩
   rw [take_snoc hj']
   intro x hx
   rcases List.mem_append.1 hx with hx | hx
   ·exact hall x hx
   ·simp at hx; rw [hx]
    rw [List.take_of_length_le (by rw [hps.length]; omega)] at hsome
    exact ⟨hto, hsome⟩
 ·have hge' : ¬ j < n := by simpa using hge
  rw [List.take_of_length_le (by rw [hp.length]; omega)] at hall
  exact ⟨(decide_eq_true hall).symm, c1⟩
def decidesP (g : Int × Int → Int) (ts : List Tch) : Int := ts.foldl (fun s t => if t.1 = (0, 0) then bits .or .u32 s (joinP g t.2) else s) 0
theorem decidesP_snoc (g : Int × Int → Int) (ts : List Tch) (t : Tch) : decidesP g (ts ++ [t]) = if t.1 = (0, 0) then bits .or .u32 (decidesP g ts) (joinP g t.2) else decidesP g ts := by simp [decidesP]
theorem flow_decides {w : World} {b : Nat} {F : Fl} {fp : List Nat} (h : FlowAt w b F fp) {S : Nat → Prop} {p : Option Addr} {n c : Nat} {ts : List Tch} (hp : TouchesAt w S p n ts) (hn : n ≤ 9223372036854775807) (hin : ∀ t ∈ ts, t.2.length ≤ 9223372036854775807) :
  Calls Tryz.prog 38 #[.pointer (some ⟨b, 0, none⟩), .slice p n c] w fun e w' => ∃ (r1 : Int) (r2 : Int), e = .returned (.tuple #[.int .u32 r1, .int .i64 r2]) ∧
   (Chg [] w w' ∧ if ∀ t ∈ ts, rightT F.fr F.se t then r1 = decidesP F.g ts ∧ r2 = 0 else r1 = 0 ∧ r2 = 2) := by
 refine ok_flow_Flow_Decides _ _ _ _ _ _ ?_
 unfold V_flow_Flow_Decides
 refine (flow_none h).mono ?_
 rintro _ w1 ⟨_, rfl, rfl, hw⟩
 subst w1
 refine ⟨_, rfl, fun h => by simp at h, fun _ => ?_⟩
 refine (flow_right (c := c) h hp hn hin).mono ?_
 rintro _ w2 ⟨_, rfl, rfl, c2⟩
 refine ⟨_, rfl, fun hb => ?_, fun hb => ?_⟩
 ·have hb' : ¬ ∀ t ∈ ts, rightT F.fr F.se t := by simpa using hb
  exact ⟨c2, by rw [if_neg hb']; exact ⟨rfl, rfl⟩⟩
 have hb' : ∀ t ∈ ts, rightT F.fr F.se t := by simpa using hb
 refine ⟨fun s w' => ∃ j : Nat, s.2 = (j : Int) ∧ j ≤ n ∧ s.1 = decidesP F.g (ts.take j) ∧ Chg [] w w', fun s _ => (n - s.2).toNat, ⟨0, rfl, by omega, rfl, c2⟩, ?_⟩
 rintro ⟨s1, s2⟩ w3 ⟨j, rfl, hj, rfl, c3⟩
 refine ⟨fun hlt => ?_, fun hge => ?_⟩
 ·have hlt' : j < n := by simpa using hlt
  obtain ⟨t, hj'⟩ := get_of (l := ts) (j := j) (by rw [hp.length]; exact hlt')
  have hmem : t ∈ ts := List.mem_of_getElem? hj'
  obtain ⟨k1, k2, a, q, qn, qc, rfl, ha, hc, hps⟩ := (hp.chg c3 (by simp)).each j _ hj'
  refine ⟨fun s w' => s = decidesP F.g (ts.take (j + 1)) ∧ Chg [] w w', ?_, ?_⟩
  ·rintro s w4 ⟨rfl, c4⟩
   simp only []
   rw [wr (by omega) (by omega)]
   exact ⟨⟨j + 1, by omega, by omega, rfl, c4⟩, by omega⟩
  refine ⟨a, rfl, by simp only []; omega, by simp only []; omega, t.1.1, t.1.2, q, qn, qc, by simpa using hc, ?_⟩
  refine v_box (by rfl) (by rfl) fun b1 w6 e6 h6 c6 => ?_
  have c06 := c3.trans0 c6
  refine ⟨t.1.1, t.1.2, ⟨by rw [add_at, cell_of h6]; rfl, by rw [add_at, cell_of h6]; rfl, trivial⟩, fun he => ?_, fun hne => ?_⟩
  ·have he' : t.1 = (0, 0) := by
    have : t.1.1 = 0 ∧ t.1.2 = 0 := by simpa using he
    exact Prod.ext this.1 this.2
   refine ⟨q, qn, qc, by rw [cell_of h6]; rfl, ?_⟩
   refine (flow_together (c := qc) (h.chg c06 (by simp)) (hps.chg c6 (by simp)) (by rw [← hps.length]; exact hin t hmem)).mono ?_
   rintro _ w7 ⟨_, rfl, rfl, c7⟩
   refine ⟨_, rfl, ?_, c06.trans0 c7⟩
   rw [take_snoc hj', decidesP_snoc, if_pos he']
  ·have hne' : t.1 ≠ (0, 0) := by
    intro e; rw [e] at hne; simp at hne
   refine ⟨?_, c06⟩
   rw [take_snoc hj', decidesP_snoc, if_neg hne']
 ·have hge' : ¬ j < n := by simpa using hge
  refine ⟨c3, ?_⟩
  rw [if_pos hb', List.take_of_length_le (by rw [hp.length]; omega)]
  exact ⟨rfl, rfl⟩
end Go.Proofs.YtfcfkhbkkfpehaaGreat
end
section
/- The document's flows: New, May, Keep, Put, Mark. -/
namespace Go.Proofs.YtfcfkhbkkfpehaaGreat
open Go Go.RowKit Go.X
/-! ### Rows of equal elements -/
theorem flat_get {α : Type} (enc : α → List Value) {size : Nat} (hs : ∀ x, (enc x).length = size) : ∀ (l : List α) (j : Nat) (x : α), l[j]? = some x → ∀ k, k < size → (l.flatMap enc)[j * size + k]? = (enc x)[k]?
 | [], _, _, h, _, _ => by simp at h
 | a :: l, 0, x, h, k, hk => by
  simp at h; subst h
  simp only [List.flatMap_cons, Nat.zero_mul, Nat.zero_add]
  rw [List.getElem?_append_left (by rw [hs]; exact hk)]
 | a :: l, j + 1, x, h, k, hk => by
  simp only [List.flatMap_cons]
  rw [List.getElem?_append_right (by rw [hs, Nat.add_mul]; omega), hs]
  have : (j + 1) * size + k - size = j * size + k := by rw [Nat.add_mul]; omega
  rw [this]
  exact flat_get enc hs l j x (by simpa using h) k hk
theorem cellsAt_iff {w : World} {q : Addr} : ∀ {i : Nat} {vs : List Value}, CellsAt w q i vs ↔ ∀ k v, vs[k]? = some v → w.cell? (q.add (i + k)) = some v
 | i, [] => by simp [CellsAt]
 | i, v :: vs => by
  simp only [CellsAt]
  rw [cellsAt_iff (i := i + 1) (vs := vs)]
  constructor
  ·rintro ⟨h1, h2⟩ k u hk
   cases k with
   | zero => simp at hk; subst hk; simpa using h1
   | succ k => simp at hk; have := h2 k u hk; rw [show i + (k + 1) = i + 1 + k by omega]; exact this
  ·intro h
   exact ⟨by simpa using h 0 v rfl, fun k u hk => by have := h (k + 1) u (by simpa using hk); rw [show i + 1 + k = i + (k + 1) by omega]; exact this⟩
theorem RowAt.elem {w : World} {e : TypeId} {size n c : Nat} {p : Option Addr} {α : Type} {enc : α → List Value} {l : List α} (hs : ∀ x, (enc x).length = size) (h : RowAt w e size p n c (l.flatMap enc)) {j : Nat} {x : α} (hj : l[j]? = some x) (h0 : 0 < size) :
  ∃ a, p = some a ∧ CellsAt w (a.add (j * size)) 0 (enc x) := by
 have hget := flat_get enc hs l j x hj
 have hex : ∃ a, p = some a := by
  have h1 := hget 0 h0
  obtain ⟨v, hv⟩ : ∃ v, (enc x)[0]? = some v := ⟨_, List.getElem?_eq_getElem (by rw [hs]; exact h0)⟩
  rw [hv] at h1
  obtain ⟨a, ha, _⟩ := RowAt.at h h1
  exact ⟨a, ha⟩
 obtain ⟨a, rfl⟩ := hex
 refine ⟨a, rfl, cellsAt_iff.2 fun k v hk => ?_⟩
 have hk' : k < size := by rw [← hs x]; exact (List.getElem?_eq_some_iff.1 hk).1
 have h1 := hget k hk'
 rw [hk] at h1
 obtain ⟨a', ha', hc⟩ := RowAt.at h h1
 cases ha'
 have hadd : (a.add (j * size)).add (0 + k) = a.add (j * size + k) := by
  unfold Addr.add; split <;> split <;> simp_all [Nat.add_assoc]
  all_goals omega
 rw [hadd]; exact hc
theorem flat_length {α : Type} {enc : α → List Value} {size : Nat} (hs : ∀ x, (enc x).length = size) (l : List α) : (l.flatMap enc).length = l.length * size := by
 induction l with
 | nil => simp
 | cons a l ih => simp only [List.flatMap_cons, List.length_append, hs, ih, List.length_cons]; rw [Nat.add_mul]; omega
abbrev Pr := (Int × Int) × Int
def encPr (x : Pr) : List Value := [.int .i64 x.1.1, .int .i64 x.1.2, .int .u32 x.2]
def encU (n : Int) : List Value := [.int .u32 n]
theorem encU_map (l : List Int) : l.map (Value.int .u32) = l.flatMap encU := by induction l with | nil => rfl | cons a l ih => simp [List.flatMap_cons, encU, ih]
structure Rf where
 fr : Int
 se : Int
 most : Int
 sets : List Int
 pairs : List Pr
structure RefAt (w : World) (R : Rf) (p4 : Option Addr) (n4 c4 : Nat) (p5 : Option Addr) (n5 c5 : Nat) : Prop where
 sets : RowAt w 22 1 p4 n4 c4 (R.sets.map (.int .u32))
 pairs : RowAt w 131 3 p5 n5 c5 (R.pairs.flatMap encPr)
theorem RefAt.chg {w w' : World} {R : Rf} {p4 p5 : Option Addr} {n4 c4 n5 c5 : Nat} {f : List Nat} (h : RefAt w R p4 n4 c4 p5 n5 c5) (hc : Chg f w w') (h4 : ∀ i ∈ rowB p4, i ∉ f) (h5 : ∀ i ∈ rowB p5, i ∉ f) : RefAt w' R p4 n4 c4 p5 n5 c5 :=
 ⟨h.sets.chg hc h4, h.pairs.chg hc h5⟩
theorem RefAt.n4 {w : World} {R : Rf} {p4 p5 : Option Addr} {n4 c4 n5 c5 : Nat} (h : RefAt w R p4 n4 c4 p5 n5 c5) : n4 = R.sets.length := by have := h.sets.length; simp at this; omega
theorem RefAt.n5 {w : World} {R : Rf} {p4 p5 : Option Addr} {n4 c4 n5 c5 : Nat} (h : RefAt w R p4 n4 c4 p5 n5 c5) : n5 = R.pairs.length := by
 have := h.pairs.length; rw [flat_length (size := 3) (fun _ => rfl)] at this; omega
theorem ref_may {w : World} (fr se f3 : Int) (p4 p5 : Option Addr) (n4 c4 n5 c5 : Nat) (p1 p2 : Int) (hw : i64s (64 * fr) ∧ i64s (64 * se)) :
  Calls Tryz.prog 49 #[.agg #[.int .i64 fr, .int .i64 se, .int .i64 f3, .slice p4 n4 c4, .slice p5 n5 c5], .agg #[.int .i64 p1, .int .i64 p2]] w fun e w' => ∃ r : Bool, e = .returned (.bool r) ∧ (r = decide (mayP fr se (p1, p2)) ∧ Chg [] w w') := by
 obtain ⟨⟨hw1, hw2⟩, hw3, hw4⟩ := hw
 refine ok_pomanderref12_Flow_May _ _ _ _ _ _ _ _ _ _ _ _ _ ?_
 unfold V_pomanderref12_Flow_May
 refine v_alloc fun b1 w1 e1 h1 c1 => ?_
 refine v_alloc fun b2 w2 e2 h2 c2 => ?_
 have h12 := c2.obj (by simp) h1
 have c02 := c1.trans0 c2
 refine ⟨p1, by rw [cell_of h2]; rfl, fun s w3 => w3 = w2 ∧ 1 ≤ p1 ∧ p1 ≤ 17 ∧ s.2 = boundP fr se p1, ?_, fun hb => ?_, fun hb => ?_⟩
 ·rintro ⟨s1, s2⟩ w3 ⟨hw, k1, k2, rfl⟩
  subst w3
  refine ⟨p2, by rw [cell_of h2]; rfl, _, fun b w h => h, fun hb => ⟨p2, by rw [cell_of h2]; rfl, ?_, c02⟩, fun hb => ⟨?_, c02⟩⟩
  ·have : 0 ≤ p2 := by simpa using hb
   exact decide_eq_decide.2 (by unfold mayP; simp only []; omega)
  ·have : ¬ 0 ≤ p2 := by simpa using hb
   symm; rw [decide_eq_false_iff_not]; unfold mayP; simp only []; omega
 ·have : p1 < 1 ∨ 17 < p1 := by simpa using hb
  refine ⟨?_, c02⟩
  symm; rw [decide_eq_false_iff_not]; unfold mayP; simp only []; omega
 have hk : 1 ≤ p1 ∧ p1 ≤ 17 := by simpa using hb
 have hbd : ∀ v, v = boundP fr se p1 → (w2 = w2 ∧ 1 ≤ p1 ∧ p1 ≤ 17 ∧ v = boundP fr se p1) := fun v hv => ⟨rfl, hk.1, hk.2, hv⟩
 refine ⟨fun e => hbd _ ?_, fun n1 => ⟨fun e => ?_, fun n10 => ⟨fun e => hbd _ ?_, fun n11 => ⟨fun e => ?_, fun n12 => ⟨fun e => hbd _ ?_, fun n13 => ⟨fun e => hbd _ ?_, fun n17 => hbd _ ?_⟩⟩⟩⟩⟩⟩
 ·have : p1 = 1 := by simpa using e
  unfold boundP; rw [if_pos this]
 ·have : p1 = 10 := by simpa using e
  refine ⟨fr, by rw [cell_of h12]; rfl, hbd _ ?_⟩
  simp only []
  rw [wr hw1 hw2]; unfold boundP; rw [if_neg (by omega), if_pos this]
 ·have : p1 = 11 := by simpa using e
  unfold boundP; rw [if_neg (by omega), if_neg (by omega), if_pos this]
 ·have : p1 = 12 := by simpa using e
  refine ⟨se, by rw [cell_of h12]; rfl, hbd _ ?_⟩
  simp only []
  rw [wr hw3 hw4]; unfold boundP; rw [if_neg (by omega), if_neg (by omega), if_neg (by omega), if_pos this]
 ·have : 13 ≤ p1 ∧ p1 ≤ 16 := by simpa using e
  unfold boundP; rw [if_neg (by omega), if_neg (by omega), if_neg (by omega), if_neg (by omega), if_neg (by omega), if_pos (by omega)]
 ·have : p1 = 17 := by simpa using e
  unfold boundP; rw [if_neg (by omega), if_neg (by omega), if_neg (by omega), if_neg (by omega), if_pos this]
 ·simp at n1 n10 n11 n12 n13 n17
  unfold boundP; rw [if_neg n1, if_neg n10, if_neg n11, if_neg n12, if_neg n17, if_neg (by omega)]
theorem ref_has {w : World} {t1 : Int} {p4 : Option Addr} {n4 c4 : Nat} {sets : List Int} (h : RowAt w 22 1 p4 n4 c4 (sets.map (.int .u32))) (hn : n4 ≤ 1000000000) (set : Int) :
  Calls Tryz.prog 98 #[.agg #[.int .i64 t1, .slice p4 n4 c4], .int .u32 set] w fun e w' => ∃ r : Int, e = .returned (.int .i64 r) ∧ ((if set ∈ sets then 0 ≤ r ∧ r < n4 else r = -1) ∧ Chg [] w w') := by
 have hl : n4 = sets.length := by have := h.length; simp at this; omega
 refine ok_pomanderref02_Table_Has _ _ _ _ _ _ _ ?_
 unfold V_pomanderref02_Table_Has
 refine v_alloc fun b1 w1 e1 h1 c1 => ?_
 refine ⟨fun s w' => ∃ j : Nat, s.2 = (j : Int) ∧ j ≤ n4 ∧ (∀ x ∈ sets.take j, x ≠ set) ∧ w' = w1, fun s _ => (n4 - s.2).toNat, ⟨0, rfl, by omega, by intro x hx; simp at hx, rfl⟩, ?_⟩
 rintro ⟨s1, s2⟩ w2 ⟨j, rfl, hj, hno, hw⟩
 subst w2
 refine ⟨p4, n4, c4, by rw [cell_of h1]; rfl, fun hlt => ?_, fun hge => ?_⟩
 ·have hlt' : j < n4 := by simpa using hlt
  obtain ⟨x, hx⟩ := get_of (l := sets) (j := j) (by omega)
  obtain ⟨a, rfl, hc⟩ := RowAt.at (h.chg c1 (by simp)) (j := j) (u := .int .u32 x) (by rw [List.getElem?_map, hx]; rfl)
  refine ⟨_, n4, c4, by rw [cell_of h1]; rfl, a, rfl, by simp only []; omega, by simp only []; omega, x, by simpa using hc, fun he => ?_, fun hne => ?_⟩
  ·have he' : x = set := by simpa using he
   refine ⟨?_, c1⟩
   rw [if_pos (he' ▸ List.mem_of_getElem? hx)]
   simp only []; omega
  ·have hne' : x ≠ set := by simpa using hne
   simp only []
   rw [wr (by omega) (by omega)]
   refine ⟨⟨j + 1, by omega, by omega, ?_, trivial⟩, by omega⟩
   rw [take_snoc hx]
   intro y hy
   rcases List.mem_append.1 hy with hy | hy
   ·exact hno y hy
   ·simp at hy; rw [hy]; exact hne'
 ·have hge' : ¬ j < n4 := by simpa using hge
  rw [List.take_of_length_le (by omega)] at hno
  refine ⟨?_, c1⟩
  rw [if_neg (fun hm => hno set hm rfl)]
end Go.Proofs.YtfcfkhbkkfpehaaGreat
end
section
/- The document's flows: Keep, ahead, Put. -/
namespace Go.Proofs.YtfcfkhbkkfpehaaGreat
open Go Go.RowKit Go.X
theorem ref_keep {w : World} {most : Int} {p4 : Option Addr} {n4 cc : Nat} {sets : List Int} (h : RowAt w 22 1 p4 n4 cc (sets.map (.int .u32))) (hn : n4 ≤ 1000000) (hne : sets ≠ []) {set : Int} (hs0 : 0 ≤ set) :
  Calls Tryz.prog 75 #[.agg #[.int .i64 most, .slice p4 n4 cc], .int .u32 set] w fun e w' => ∃ (r1 : Int) (r2 : Option Addr) (r2n : Nat) (r2c : Nat) (r3 : Int) (r4 : Int), e = .returned (.tuple #[.agg #[.int .i64 r1, .slice r2 r2n r2c], .int .i64 r3, .int .i64 r4]) ∧
   (r1 = most ∧ r4 = keepE most sets set ∧ RowAt w' 22 1 r2 r2n r2c ((keepS most sets set).map (.int .u32)) ∧ Chg [] w w' ∧ ∀ i ∈ rowB r2, i ∈ rowB p4 ∨ w.heap.size ≤ i) := by
 have hl : n4 = sets.length := by have := h.length; simp at this; omega
 refine ok_pomanderref02_Table_Keep _ _ _ _ _ _ _ ?_
 unfold V_pomanderref02_Table_Keep
 refine v_alloc fun b1 w1 e1 h1 c1 => ?_
 refine v_alloc fun b2 w2 e2 h2 c2 => ?_
 have l1 : b1 < w1.heap.size := lt_of_heap h1
 have l2 : b2 < w2.heap.size := lt_of_heap h2
 have s1 := c1.size
 have s2 := c2.size
 have h12 := c2.obj (by simp) h1
 have c02 := c1.trans0 c2
 have hlt := h.lt
 refine ⟨fun hb => ?_, fun hb => ?_⟩
 ·have hb' : 65536 ≤ set := by simpa using hb
  refine ⟨most, p4, n4, cc, cellsAt_of h12, v_fill h2 (by rfl) (by rfl) fun w3 h3 c3 _ => ?_⟩
  have c03 : Chg [] w w3 := c02.trans c3 (fun i hi hlt => by simp at hi; omega)
  refine ⟨most, p4, n4, cc, cellsAt_of h3, rfl, by simp [keepE, hb'], ?_, c03, fun i hi => .inl hi⟩
  rw [show keepS most sets set = sets by simp [keepS, hb']]
  exact h.chg c03 (by simp)
 have hb' : ¬ 65536 ≤ set := by simpa using hb
 refine ⟨most, p4, n4, cc, cellsAt_of h12, ?_⟩
 refine (ref_has (h.chg c02 (by simp)) (by omega) set).mono ?_
 rintro _ w4 ⟨r7, rfl, hr, c4⟩
 have h14 := c4.obj (by simp) h12
 have h24 := c4.obj (by simp) h2
 have c04 := c02.trans0 c4
 refine ⟨_, rfl, fun hin => ?_, fun hnin => ?_⟩
 ·have hin' : 0 ≤ r7 := by simpa using hin
  have hm : set ∈ sets := Classical.byContradiction fun hm => by rw [if_neg hm] at hr; omega
  refine ⟨most, p4, n4, cc, cellsAt_of h14, v_fill h24 (by rfl) (by rfl) fun w3 h3 c3 _ => ?_⟩
  have c03 : Chg [] w w3 := c04.trans c3 (fun i hi hlt => by simp at hi; omega)
  refine ⟨most, p4, n4, cc, cellsAt_of h3, rfl, by simp [keepE, hb', hm], ?_, c03, fun i hi => .inl hi⟩
  rw [show keepS most sets set = sets by simp [keepS, hm]]
  exact h.chg c03 (by simp)
 have hnin' : ¬ 0 ≤ r7 := by simpa using hnin
 have hm : set ∉ sets := fun hm => by rw [if_pos hm] at hr; omega
 refine ⟨p4, n4, cc, by rw [cell_of h14]; rfl, most, by rw [cell_of h14]; rfl, fun hfull => ?_, fun hroom => ?_⟩
 ·have hfull' : most ≤ (n4 : Int) := by simpa using hfull
  refine ⟨most, p4, n4, cc, cellsAt_of h14, v_fill h24 (by rfl) (by rfl) fun w3 h3 c3 _ => ?_⟩
  have c03 : Chg [] w w3 := c04.trans c3 (fun i hi hlt => by simp at hi; omega)
  refine ⟨most, p4, n4, cc, cellsAt_of h3, rfl, by simp [keepE, hb', hm]; omega, ?_, c03, fun i hi => .inl hi⟩
  rw [show keepS most sets set = sets by simp [keepS]; intro h; omega]
  exact h.chg c03 (by simp)
 have hroom' : ¬ most ≤ (n4 : Int) := by simpa using hroom
 -- the row as the source of an append
 obtain ⟨x0, hx0⟩ := get_of (l := sets) (j := 0) (by cases sets with | nil => exact absurd rfl hne | cons a l => simp)
 obtain ⟨a, rfl, _⟩ := RowAt.at h (j := 0) (u := .int .u32 x0) (by rw [List.getElem?_map, hx0]; rfl)
 have h4 := h.chg c04 (by simp)
 refine ⟨some a, n4, cc, by rw [cell_of h14]; rfl, ?_⟩
 obtain ⟨p', c', w7, happ, hrow7, c7, hf7⟩ := (RowAt.nil (w := w4) (e := 22) (size := 1)).append (P := Tryz.prog) (t := 38) (ty := 38) (i := Tryz.t22) (z := .int .u32 0) (bytes := 4) (by kernel_rfl) (by kernel_rfl) (by kernel_rfl) (by kernel_rfl) (by kernel_rfl) rfl (by omega)
  (a := a) (m := n4) (mc := cc) (news := sets.map (.int .u32)) (by simpa using hl.symm) (fun j u hu => by
   obtain ⟨a', ha', hc'⟩ := RowAt.at h4 hu
   cases ha'; exact hc') (by simp [Value.oneCell']) (by simp only [maxLen]; omega) (by omega)
 rw [Nat.zero_add] at happ hrow7
 simp only [rowB, Option.toList_none, List.map_nil] at c7
 refine ⟨p', n4, c', w7, happ, ?_⟩
 refine v_alloc fun b3 w8 e3 h3 c8 => ?_
 obtain ⟨p'', c'', w9, happ2, hrow9, c9, hf9⟩ := (hrow7.chg c8 (by simp)).append (P := Tryz.prog) (t := 38) (ty := 38) (i := Tryz.t22) (z := .int .u32 0) (bytes := 4) (by kernel_rfl) (by kernel_rfl) (by kernel_rfl) (by kernel_rfl) (by kernel_rfl) rfl (by omega)
  (a := ⟨b3, 0, none⟩) (m := 1) (mc := 1) (news := [.int .u32 set]) rfl (fun i u hi => by
   cases i with
   | zero => simp at hi; subst hi; rw [add_at, cell_of h3]; rfl
   | succ i => simp at hi) (by simp [Value.oneCell']) (by simp only [maxLen]; omega) (by omega)
 refine ⟨p'', n4 + 1, c'', w9, happ2, ?_⟩
 have s4 := c4.size
 have s7 := c7.size
 have s8 := c8.size
 have s9 := c9.size
 have hf7' : ∀ i ∈ rowB p', w4.heap.size ≤ i := fun i hi => (hf7 i hi).resolve_left (by simp [rowB])
 have hf9' : ∀ i ∈ rowB p'', w4.heap.size ≤ i := fun i hi => by
  rcases hf9 i hi with h | h
  ·exact hf7' i h
  ·omega
 have c49 : Chg [] w4 w9 := (c7.trans0 c8).trans c9 (fun i hi hlt => by have := hf7' i hi; omega)
 have h19 := c49.obj (by simp) h14
 have h29 := c49.obj (by simp) h24
 have c09 := c04.trans0 c49
 refine v_set0 (v := .slice p'' (n4 + 1) c'') h19 (by simp) fun w10 h10 c10 hs10 => ?_
 refine v_drew fun w11 c11 => ?_
 have h11 : w11.heap[b1]? = some (.cells #[.int .i64 most, .slice p'' (n4 + 1) c''] 40 (0, 0)) := c11.obj (by simp) (by simpa using h10)
 have h211 : w11.heap[b2]? = some (.cells #[.int .i64 0, .slice none 0 0] 40 (0, 0)) := c11.obj (by simp) (c10.obj (by simp; omega) h29)
 refine ⟨most, p'', n4 + 1, c'', cellsAt_of h11, p'', n4 + 1, c'', by rw [cell_of h11]; rfl, v_fill h211 (by rfl) (by rfl) fun w12 h212 c1112 _ => ?_⟩
 have c012 : Chg [] w w11 := (c09.trans c10 (fun i hi hlt => by simp at hi; omega)).trans0 c11
 have c12 : Chg [] w w12 := c012.trans c1112 (fun i hi hlt => by simp at hi; omega)
 have h112 := c1112.obj (by simp; omega) h11
 refine ⟨⟨cellsAt_of h112, by rw [cell_of h112]; rfl, trivial⟩, most, p'', n4 + 1, c'', cellsAt_of h212, rfl, by simp [keepE, hb', hm]; omega, ?_, c12, fun i hi => .inr (by have := hf9' i hi; omega)⟩
 have hS : keepS most sets set = sets ++ [set] := by unfold keepS; rw [if_neg (fun h => h.elim hb' fun h => h.elim hm fun h => hroom' (by omega))]
 rw [hS, List.map_append]
 have := ((hrow9.chg c10 (fun i hi hmm => by simp at hmm; have := hf9' i hi; omega)).chg c11 (by simp)).chg c1112 (fun i hi hmm => by simp at hmm; have := hf9' i hi; omega)
 simpa using this
def aheadP (a b : Int × Int) : Prop := a.1 < b.1 ∨ a.1 = b.1 ∧ a.2 < b.2
instance (a b : Int × Int) : Decidable (aheadP a b) := by unfold aheadP; exact inferInstance
theorem ref_ahead {w : World} (a1 a2 b1 b2 : Int) :
  Calls Tryz.prog 99 #[.agg #[.int .i64 a1, .int .i64 a2], .agg #[.int .i64 b1, .int .i64 b2]] w fun e w' => ∃ r : Bool, e = .returned (.bool r) ∧ (r = decide (aheadP (a1, a2) (b1, b2)) ∧ Chg [] w w') := by
 refine ok_pomanderref12_ahead _ _ _ _ _ _ ?_
 unfold V_pomanderref12_ahead
 refine v_alloc fun x1 w1 e1 h1 c1 => ?_
 refine v_alloc fun x2 w2 e2 h2 c2 => ?_
 have h12 := c2.obj (by simp) h1
 have c02 := c1.trans0 c2
 refine ⟨a1, by rw [cell_of h12]; rfl, b1, by rw [cell_of h2]; rfl, _, fun b w h => h, fun hb => ?_, fun hb => ?_⟩
 ·have hb' : ¬ a1 < b1 := by simpa using hb
  refine ⟨a1, by rw [cell_of h12]; rfl, b1, by rw [cell_of h2]; rfl, _, fun b w h => h, fun he => ?_, fun he => ?_⟩
  ·have he' : a1 = b1 := by simpa using he
   refine ⟨a2, by rw [cell_of h12]; rfl, b2, by rw [cell_of h2]; rfl, ?_, c02⟩
   exact decide_eq_decide.2 (by unfold aheadP; simp only []; omega)
  ·have he' : a1 ≠ b1 := by simpa using he
   refine ⟨?_, c02⟩
   symm; rw [decide_eq_false_iff_not]; unfold aheadP; simp only []; omega
 ·have hb' : a1 < b1 := by simpa using hb
  refine ⟨?_, c02⟩
  symm; rw [decide_eq_true_eq]; exact .inl hb'
def stepPut (p : Int × Int) (set : Int) (s : List Pr × Bool) (x : Pr) : List Pr × Bool :=
 let s1 := if !s.2 && decide (aheadP p x.1) then (s.1 ++ [(p, set)], true) else s
 let o2 := if x.1 = p then s1.1 else s1.1 ++ [x]
 if x.1 = p ∧ s1.2 = false then (o2 ++ [(p, set)], true) else (o2, s1.2)
def foldPut (p : Int × Int) (set : Int) (l : List Pr) : List Pr × Bool := l.foldl (stepPut p set) ([], set == 0)
def refPut (p : Int × Int) (set : Int) (l : List Pr) : List Pr := let s := foldPut p set l; if s.2 then s.1 else s.1 ++ [(p, set)]
theorem foldPut_snoc (p : Int × Int) (set : Int) (l : List Pr) (x : Pr) : foldPut p set (l ++ [x]) = stepPut p set (foldPut p set l) x := by simp [foldPut]
theorem stepPut_length (p : Int × Int) (set : Int) (s : List Pr × Bool) (x : Pr) : (stepPut p set s x).1.length ≤ s.1.length + 2 := by
 unfold stepPut
 simp only []
 split <;> split <;> split <;> simp_all
theorem foldPut_length (p : Int × Int) (set : Int) (l : List Pr) : (foldPut p set l).1.length ≤ 2 * l.length := by
 unfold foldPut
 have : ∀ (l : List Pr) (s : List Pr × Bool), (l.foldl (stepPut p set) s).1.length ≤ s.1.length + 2 * l.length := by
  intro l
  induction l with
  | nil => intro s; simp
  | cons x l ih => intro s; simp only [List.foldl_cons, List.length_cons]; have := ih (stepPut p set s x); have := stepPut_length p set s x; omega
 have := this l ([], set == 0)
 simpa using this
end Go.Proofs.YtfcfkhbkkfpehaaGreat
end
section
/- The document's flows: Put. -/
namespace Go.Proofs.YtfcfkhbkkfpehaaGreat
open Go Go.RowKit Go.X
theorem pair_beq (a b : Int × Int) : ((a.1 == b.1) && (a.2 == b.2)) = decide (a = b) := by
 obtain ⟨a1, a2⟩ := a
 obtain ⟨b1, b2⟩ := b
 apply Bool.eq_iff_iff.2
 simp
theorem append_pr {w : World} {p : Option Addr} {n c : Nat} {out : List Pr} (h : RowAt w 131 3 p n c (out.flatMap encPr)) {b : Nat} {x : Pr} (hb : w.heap[b]? = some (.cells (encPr x).toArray 131 (0, 0))) (hn : n ≤ 1000000000) :
  ∃ p' c' w', (Builtin.append_ #[41, 41] 41 #[.slice p n c, .slice (some (⟨b, 0, none⟩ : Addr)) 1 1]).run Tryz.prog w = .ok (.slice p' (n + 1) c') w' ∧ RowAt w' 131 3 p' (n + 1) c' ((out ++ [x]).flatMap encPr) ∧ Chg (rowB p) w w' ∧
   (∀ i ∈ rowB p', i ∈ rowB p ∨ w.heap.size ≤ i) := by
 obtain ⟨p', c', w', h1, h2, h3, h4⟩ := h.append (P := Tryz.prog) (t := 41) (ty := 41) (i := Tryz.t131) (z := .agg #[.int .i64 0, .int .i64 0, .int .u32 0]) (bytes := 24) (by kernel_rfl) (by kernel_rfl) (by kernel_rfl) (by kernel_rfl) (by kernel_rfl) rfl (by omega)
  (a := ⟨b, 0, none⟩) (m := 1) (mc := 1) (news := encPr x) rfl (fun i u hi => by
   rw [add_at, cell_of hb, Nat.zero_add]; simpa using hi) (by simp [encPr, Value.oneCell']) (by simp only [maxLen]; omega) (by omega)
 exact ⟨p', c', w', h1, by simpa [List.flatMap_append] using h2, h3, h4⟩
theorem ref_put {w : World} {R : Rf} {p4 p5 : Option Addr} {n4 c4 n5 c5 : Nat} (h : RefAt w R p4 n4 c4 p5 n5 c5) (hn : n5 ≤ 100000000) (p1 p2 set : Int) :
  Calls Tryz.prog 76 #[.agg #[.int .i64 R.fr, .int .i64 R.se, .int .i64 R.most, .slice p4 n4 c4, .slice p5 n5 c5], .agg #[.int .i64 p1, .int .i64 p2], .int .u32 set] w fun e w' =>
   ∃ (r1 : Int) (r2 : Int) (r3 : Int) (r4 : Option Addr) (r4n : Nat) (r4c : Nat) (r5 : Option Addr) (r5n : Nat) (r5c : Nat), e = .returned (.agg #[.int .i64 r1, .int .i64 r2, .int .i64 r3, .slice r4 r4n r4c, .slice r5 r5n r5c]) ∧
   (r1 = R.fr ∧ r2 = R.se ∧ r3 = R.most ∧ r4 = p4 ∧ r4n = n4 ∧ r4c = c4 ∧ RefAt w' { R with pairs := refPut (p1, p2) set R.pairs } r4 r4n r4c r5 r5n r5c ∧ Chg [] w w' ∧ ∀ i ∈ rowB r5, w.heap.size ≤ i) := by
 have hl := h.n5
 have hlt4 := h.sets.lt
 have hlt5 := h.pairs.lt
 refine ok_pomanderref12_Flow_Put _ _ _ _ _ _ _ _ _ _ _ _ _ _ ?_
 unfold V_pomanderref12_Flow_Put
 refine v_alloc fun b1 w1 e1 h1 c1 => ?_
 refine v_alloc fun b2 w2 e2 h2 c2 => ?_
 refine v_alloc fun b3 w3 e3 h3 c3 => ?_
 have l1 : b1 < w1.heap.size := lt_of_heap h1
 have l2 : b2 < w2.heap.size := lt_of_heap h2
 have l3 : b3 < w3.heap.size := lt_of_heap h3
 have s1 := c1.size
 have s2 := c2.size
 have s3 := c3.size
 have c03 := (c1.trans0 c2).trans0 c3
 have h13 := (c2.trans0 c3).obj (by simp) h1
 have h23 := c3.obj (by simp) h2
 generalize hp : ((p1, p2) : Int × Int) = p
 have hp1 : p.1 = p1 := by rw [← hp]
 have hp2 : p.2 = p2 := by rw [← hp]
 -- what goes on being so
 let Base (w' : World) (o : Option Addr) : Prop := Chg [] w w' ∧ w'.heap[b1]? = some (.cells #[.int .i64 R.fr, .int .i64 R.se, .int .i64 R.most, .slice p4 n4 c4, .slice p5 n5 c5] 43 (0, 0)) ∧
  w'.heap[b2]? = some (.cells #[.int .i64 p1, .int .i64 p2] 62 (0, 0)) ∧ w'.heap[b3]? = some (.cells #[.int .i64 0, .int .i64 0, .int .i64 0, .slice none 0 0, .slice none 0 0] 43 (0, 0)) ∧ w3.heap.size ≤ w'.heap.size ∧ ∀ i ∈ rowB o, w3.heap.size ≤ i
 have base_step : ∀ {w' w'' : World} {o o' : Option Addr}, Base w' o → Chg (rowB o) w' w'' → (∀ i ∈ rowB o', i ∈ rowB o ∨ w'.heap.size ≤ i) → Base w'' o' := by
  rintro w' w'' o o' ⟨k1, k2, k3, k4, k5, k6⟩ c f
  refine ⟨k1.trans c (fun i hi hlt => by have := k6 i hi; omega), c.obj (fun hm => by have := k6 _ hm; omega) k2, c.obj (fun hm => by have := k6 _ hm; omega) k3, c.obj (fun hm => by have := k6 _ hm; omega) k4, Nat.le_trans k5 c.size, fun i hi => ?_⟩
  rcases f i hi with h | h
  ·exact k6 i h
  ·omega
 have base_nil : ∀ {w' w'' : World} {o : Option Addr}, Base w' o → Chg [] w' w'' → Base w'' o := fun hb c => base_step hb c.nil (fun i hi => .inl hi)
 have fold_len : ∀ j, (foldPut p set (R.pairs.take j)).1.length ≤ 2 * n5 := fun j => by
  have := foldPut_length p set (R.pairs.take j)
  have := List.length_take_le j R.pairs
  have := List.length_take_le' j R.pairs
  omega
 refine ⟨fun s w' => ∃ j : Nat, s.2.2.2.2 = (j : Int) ∧ j ≤ n5 ∧ s.2.2.2.1 = (foldPut p set (R.pairs.take j)).2 ∧ RowAt w' 131 3 s.1 s.2.1 s.2.2.1 ((foldPut p set (R.pairs.take j)).1.flatMap encPr) ∧ Base w' s.1,
  fun s _ => (n5 - s.2.2.2.2).toNat, ⟨0, rfl, by omega, rfl, RowAt.nil, c03, h13, h23, h3, Nat.le_refl _, by simp [rowB]⟩, ?_⟩
 rintro ⟨o, on, oc, put, i⟩ w4 ⟨j, hij, hj, hput, hrow, hbase⟩
 simp only [] at hij hput hrow hbase
 subst hij
 obtain ⟨c04, h14, h24, h34, s4, ho⟩ := id hbase
 have hon : on = (foldPut p set (R.pairs.take j)).1.length := by
  have := hrow.length; rw [flat_length (size := 3) (fun _ => rfl)] at this; omega
 have hlen := fold_len j
 refine ⟨p5, n5, c5, by rw [cell_of h14]; rfl, fun hlt => ?_, fun hge => ?_⟩
 ·have hlt' : j < n5 := by simpa using hlt
  obtain ⟨x, hx⟩ := get_of (l := R.pairs) (j := j) (by omega)
  have hsnoc : foldPut p set (R.pairs.take (j + 1)) = stepPut p set (foldPut p set (R.pairs.take j)) x := by rw [take_snoc hx, foldPut_snoc]
  obtain ⟨a, rfl, hc⟩ := RowAt.elem (size := 3) (fun _ => rfl) (h.pairs.chg c04 (by simp)) hx (by omega)
  refine ⟨fun s w' => s.2.2.2 = (foldPut p set (R.pairs.take (j + 1))).2 ∧ RowAt w' 131 3 s.1 s.2.1 s.2.2.1 ((foldPut p set (R.pairs.take (j + 1))).1.flatMap encPr) ∧ Base w' s.1, ?_, ?_⟩
  ·rintro ⟨o', on', oc', put'⟩ w5 ⟨k1, k2, k3⟩
   simp only [] at k1 k2 k3 ⊢
   rw [wr (by omega) (by omega)]
   exact ⟨⟨j + 1, by omega, by omega, k1, k2, k3⟩, by omega⟩
  refine ⟨some a, n5, c5, by rw [cell_of h14]; rfl, a, rfl, by simp only []; omega, by simp only []; omega, x.1.1, x.1.2, x.2, by simpa [encPr] using hc, ?_⟩
  refine v_box (by rfl) (by rfl) fun b4 w7 e7 h7 c7 => ?_
  have hx1 : ((x.1.1, x.1.2) : Int × Int) = x.1 := rfl
  have hrow7 := hrow.chg c7 (by simp)
  have hbase7 := base_nil hbase c7
  have hrlt := hrow.lt
  generalize hs0 : foldPut p set (R.pairs.take j) = s0 at hput hrow hsnoc hrow7 hon hlen
  rw [hsnoc]
  obtain ⟨out, pu⟩ := s0
  simp only [] at hput hrow hrow7 hon hlen
  subst hput
  have ho4 : ∀ i ∈ rowB o, i ≠ b4 := fun i hi e => by have := hrlt i hi; omega
  -- the state behind the first choice
  let s1 : List Pr × Bool := if !put && decide (aheadP p x.1) then (out ++ [(p, set)], true) else (out, put)
  have hs1 : s1 = if !put && decide (aheadP p x.1) then (out ++ [(p, set)], true) else (out, put) := rfl
  have hl1 : s1.1.length ≤ on + 1 := by rw [hs1]; split <;> simp <;> omega
  refine ⟨fun s w' => s.2.2.2 = s1.2 ∧ RowAt w' 131 3 s.1 s.2.1 s.2.2.1 (s1.1.flatMap encPr) ∧ Base w' s.1 ∧ w'.heap[b4]? = some (.cells (encPr x).toArray 131 (0, 0)) ∧ ∀ i ∈ rowB s.1, i ≠ b4, ?_, ?_⟩
  rotate_left
  · -- is p ahead?
   refine ⟨fun b7 w' => b7 = (!put && decide (aheadP p x.1)) ∧ RowAt w' 131 3 o on oc (out.flatMap encPr) ∧ Base w' o ∧ w'.heap[b4]? = some (.cells (encPr x).toArray 131 (0, 0)), ?_, fun hnp => ?_, fun hnp => ?_⟩
   ·rintro b7 w14 ⟨hb7, hrow14, hbase14, h414⟩
    obtain ⟨c014, h114, h214, h314, s14, ho14⟩ := id hbase14
    refine ⟨fun ht => ?_, fun hf => ?_⟩
    ·rw [ht] at hb7
     have hs1' : s1 = (out ++ [(p, set)], true) := by rw [hs1, if_pos hb7.symm]
     refine ⟨p1, p2, cellsAt_of h214, ?_⟩
     refine v_alloc fun b8 w16 e16 h16 c16 => ?_
     obtain ⟨p', c', w17, happ, hr17, c17, f17⟩ := append_pr (x := (p, set)) (hrow14.chg c16 (by simp)) (by rw [h16, ← hp]; rfl) (by omega)
     refine ⟨p', on + 1, c', w17, happ, by rw [hs1'], by rw [hs1']; exact hr17, base_step (base_nil hbase14 c16) c17 f17, c17.obj (fun hm => ho4 _ hm rfl) (c16.obj (by simp) h414), fun i hi e => ?_⟩
     rcases f17 i hi with h | h
     ·exact ho4 i h e
     ·have := lt_of_heap h414; have := c16.size; omega
    ·rw [hf] at hb7
     have hs1' : s1 = (out, put) := by rw [hs1, if_neg (by rw [← hb7]; simp)]
     rw [hs1']
     exact ⟨rfl, hrow14, hbase14, h414, ho4⟩
   ·have hnp' : put = false := by simpa using hnp
    refine ⟨p1, p2, cellsAt_of (c7.obj (by simp) h24), x.1.1, x.1.2, ⟨by rw [add_at, cell_of h7]; rfl, by rw [add_at, cell_of h7]; rfl, trivial⟩, ?_⟩
    refine (ref_ahead p1 p2 x.1.1 x.1.2).mono ?_
    rintro _ w15 ⟨_, rfl, rfl, c15⟩
    refine ⟨_, rfl, ?_, hrow7.chg c15 (by simp), base_nil hbase7 c15, c15.obj (by simp) h7⟩
    rw [hnp', hp, hx1]; rfl
   ·have hnp' : put = true := by simpa using hnp
    exact ⟨by simp [hnp'], hrow7, hbase7, h7⟩
  rintro ⟨o8, on8, oc8, put8⟩ w8 ⟨hput8, hrow8, hbase8, h48, ho8⟩
  simp only [] at hput8 hrow8 hbase8 ho8
  have hon8 : on8 = s1.1.length := by have := hrow8.length; rw [flat_length (size := 3) (fun _ => rfl)] at this; omega
  obtain ⟨c08, h18, h28, h38, s8, hb8⟩ := id hbase8
  let o2 : List Pr := if x.1 = p then s1.1 else s1.1 ++ [x]
  have ho2 : o2 = if x.1 = p then s1.1 else s1.1 ++ [x] := rfl
  have hl2 : o2.length ≤ on + 2 := by
   rw [ho2]
   split
   ·omega
   ·rw [List.length_append, List.length_singleton]; omega
  have hfin : stepPut p set (out, put) x = if x.1 = p ∧ s1.2 = false then (o2 ++ [(p, set)], true) else (o2, s1.2) := rfl
  rw [hfin]
  have heq : ((x.1.1 == p1) && (x.1.2 == p2)) = decide (x.1 = p) := by
   rw [← hp1, ← hp2]
   exact pair_beq x.1 p
  refine ⟨fun s w' => RowAt w' 131 3 s.1 s.2.1 s.2.2 (o2.flatMap encPr) ∧ Base w' s.1 ∧ w'.heap[b4]? = some (.cells (encPr x).toArray 131 (0, 0)), ?_, ?_⟩
  ·rintro ⟨o9, on9, oc9⟩ w9 ⟨hrow9, hbase9, h49⟩
   simp only [] at hrow9 hbase9
   have hon9 : on9 = o2.length := by have := hrow9.length; rw [flat_length (size := 3) (fun _ => rfl)] at this; omega
   obtain ⟨c09, h19, h29, h39, s9, hb9⟩ := id hbase9
   refine ⟨x.1.1, x.1.2, ⟨by rw [add_at, cell_of h49]; rfl, by rw [add_at, cell_of h49]; rfl, trivial⟩, p1, p2, cellsAt_of h29, fun ht => ?_, fun hf => ?_⟩
   ·have ht' : x.1 = p ∧ s1.2 = false := by
     simp only [] at ht
     rw [heq, hput8] at ht
     simpa using ht
    rw [if_pos ht']
    refine ⟨p1, p2, cellsAt_of h29, ?_⟩
    refine v_alloc fun b5 w10 e10 h10 c10 => ?_
    obtain ⟨p', c', w11, happ, hr11, c11, f11⟩ := append_pr (x := (p, set)) (hrow9.chg c10 (by simp)) (by rw [h10, ← hp]; rfl) (by omega)
    exact ⟨p', on9 + 1, c', w11, happ, rfl, hr11, base_step (base_nil hbase9 c10) c11 f11⟩
   ·have hf' : ¬ (x.1 = p ∧ s1.2 = false) := by
     simp only [] at hf
     rw [heq, hput8] at hf
     simpa using hf
    rw [if_neg hf']
    exact ⟨hput8, hrow9, hbase9⟩
  ·refine ⟨x.1.1, x.1.2, ⟨by rw [add_at, cell_of h48]; rfl, by rw [add_at, cell_of h48]; rfl, trivial⟩, p1, p2, cellsAt_of h28, fun ht => ?_, fun hf => ?_⟩
   ·have ht' : x.1 ≠ p := by
     rw [heq] at ht; simpa using ht
    have ho2' : o2 = s1.1 ++ [x] := by rw [ho2, if_neg ht']
    refine ⟨x.1.1, x.1.2, x.2, cellsAt_of h48, ?_⟩
    refine v_alloc fun b6 w12 e12 h12 c12 => ?_
    obtain ⟨p', c', w13, happ, hr13, c13, f13⟩ := append_pr (x := x) (hrow8.chg c12 (by simp)) h12 (by omega)
    refine ⟨p', on8 + 1, c', w13, happ, by rw [ho2']; exact hr13, base_step (base_nil hbase8 c12) c13 f13, c13.obj (fun hm => ho8 _ hm rfl) (c12.obj (by simp) h48)⟩
   ·have hf' : x.1 = p := by
     rw [heq] at hf; simpa using hf
    have ho2' : o2 = s1.1 := by rw [ho2, if_pos hf']
    rw [ho2']
    exact ⟨hrow8, hbase8, h48⟩
 ·have hge' : ¬ j < n5 := by simpa using hge
  rw [List.take_of_length_le (by omega)] at hput hrow hon hlen
  refine ⟨fun s w' => RowAt w' 131 3 s.1 s.2.1 s.2.2 ((refPut p set R.pairs).flatMap encPr) ∧ Base w' s.1, ?_, fun hnp => ?_, fun hnp => ?_⟩
  ·rintro ⟨o', on', oc'⟩ w18 ⟨hrow18, hbase18⟩
   simp only [] at hrow18 hbase18
   obtain ⟨c018, h118, h218, h318, s18, hb18⟩ := id hbase18
   refine v_set0 h118 (by simp) fun w19 h19 c19 _ => ?_
   have h19' : w19.heap[b1]? = some (.cells #[.int .i64 R.fr, .int .i64 R.se, .int .i64 R.most, .slice p4 n4 c4, .slice o' on' oc'] 43 (0, 0)) := by simpa using h19
   refine ⟨_, _, _, _, _, _, _, _, _, cellsAt_of h19', ?_⟩
   refine v_fill (c19.obj (by simp; omega) h318) (by rfl) (by rfl) fun w20 h20 c20 _ => ?_
   have c1820 : Chg [b1, b3] w18 w20 := (c19.mono (by simp)).trans c20 (by simp)
   have c020 : Chg [] w w20 := c018.trans c1820 (fun i hi hlt => by simp at hi; omega)
   refine ⟨_, _, _, _, _, _, _, _, _, cellsAt_of h20, rfl, rfl, rfl, rfl, rfl, rfl, ⟨h.sets.chg c020 (by simp), hrow18.chg c1820 (fun i hi hm => by have := hb18 i hi; simp at hm; omega)⟩, c020, fun i hi => by have := hb18 i hi; omega⟩
  ·have hnp' : put = false := by simpa using hnp
   have hr : refPut p set R.pairs = (foldPut p set R.pairs).1 ++ [(p, set)] := by unfold refPut; simp only []; rw [← hput, hnp']; rfl
   refine ⟨p1, p2, cellsAt_of h24, ?_⟩
   refine v_alloc fun b9 w21 e21 h21 c21 => ?_
   obtain ⟨p', c', w22, happ, hr22, c22, f22⟩ := append_pr (x := (p, set)) (hrow.chg c21 (by simp)) (by rw [h21, ← hp]; rfl) (by omega)
   exact ⟨p', on + 1, c', w22, happ, by rw [hr]; exact hr22, base_step (base_nil hbase c21) c22 f22⟩
  ·have hnp' : put = true := by simpa using hnp
   have hr : refPut p set R.pairs = (foldPut p set R.pairs).1 := by unfold refPut; simp only []; rw [← hput, hnp']; rfl
   exact ⟨by rw [hr]; exact hrow, hbase⟩
end Go.Proofs.YtfcfkhbkkfpehaaGreat
end
section
/- The document's flows: New, Mark. -/
namespace Go.Proofs.YtfcfkhbkkfpehaaGreat
open Go Go.RowKit Go.X
def muP (s : List Pr × Bool) : Nat := s.1.length + (if s.2 then 0 else 1)
theorem stepPut_mu (p : Int × Int) (set : Int) (s : List Pr × Bool) (x : Pr) : muP (stepPut p set s x) ≤ muP s + 1 := by
 obtain ⟨o, put⟩ := s
 unfold stepPut muP
 generalize decide (aheadP p x.1) = A
 by_cases h2 : x.1 = p <;> cases put <;> cases A <;> simp [h2]
theorem refPut_length (p : Int × Int) (set : Int) (l : List Pr) : (refPut p set l).length ≤ l.length + 1 := by
 have : ∀ (l : List Pr) (s : List Pr × Bool), muP (l.foldl (stepPut p set) s) ≤ muP s + l.length := by
  intro l
  induction l with
  | nil => intro s; exact Nat.le_refl _
  | cons x l ih => intro s; simp only [List.foldl_cons, List.length_cons]; have := ih (stepPut p set s x); have := stepPut_mu p set s x; omega
 have h := this l ([], set == 0)
 have h0 : muP (([], set == 0) : List Pr × Bool) ≤ 1 := by unfold muP; simp only []; split <;> simp
 have he : (refPut p set l).length = muP (l.foldl (stepPut p set) ([], set == 0)) := by
  unfold refPut foldPut muP
  simp only []
  split <;> simp
 omega
def refFill (p : Int × Int) (set : Int) (l : List Pr) : Nat → List Pr
 | 0 => l
 | n + 1 => refPut (p.1, p.2 + n) set (refFill p set l n)
theorem refFill_length (p : Int × Int) (set : Int) (l : List Pr) (n : Nat) : (refFill p set l n).length ≤ l.length + n := by
 induction n with
 | zero => exact Nat.le_refl _
 | succ n ih => have := refPut_length (p.1, p.2 + n) set (refFill p set l n); simp only [refFill]; omega
def refMarkE (R : Rf) (p : Int × Int) (n set : Int) : Int :=
 if ¬ mayP R.fr R.se p ∨ 65536 ≤ set then 2 else if n < 0 ∨ 65536 < n ∨ (0 < n ∧ ¬ mayP R.fr R.se (p.1, p.2 + n - 1)) then 4 else keepE R.most R.sets set
def refMark (R : Rf) (p : Int × Int) (n set : Int) : Rf := if refMarkE R p n set = 0 then { R with sets := keepS R.most R.sets set, pairs := refFill p set R.pairs n.toNat } else R
theorem ref_new {w : World} (fr se most : Int) :
  Calls Tryz.prog 28 #[.agg #[.int .i64 fr, .int .i64 se], .int .i64 most] w fun e w' => ∃ (r1 : Int) (r2 : Int) (r3 : Int) (r4 : Option Addr) (r4n : Nat) (r4c : Nat) (r5 : Option Addr) (r5n : Nat) (r5c : Nat), e = .returned (.agg #[.int .i64 r1, .int .i64 r2, .int .i64 r3, .slice r4 r4n r4c, .slice r5 r5n r5c]) ∧
   (r1 = fr ∧ r2 = se ∧ r3 = most ∧ RefAt w' ⟨fr, se, most, [0], []⟩ r4 r4n r4c r5 r5n r5c ∧ Chg [] w w' ∧ ∀ i ∈ rowB r4 ++ rowB r5, w.heap.size ≤ i) := by
 refine ok_pomanderref12_New _ _ _ _ _ ?_
 unfold V_pomanderref12_New
 refine v_alloc fun b1 w1 e1 h1 c1 => ?_
 refine v_alloc fun b2 w2 e2 h2 c2 => ?_
 refine v_drew fun w3 c3 => ?_
 have h13 := (c2.trans0 c3).obj (by simp) h1
 have h23 := c3.obj (by simp) h2
 have l1 : b1 < w1.heap.size := lt_of_heap h1
 have l2 : b2 < w2.heap.size := lt_of_heap h2
 have s1 := c1.size
 have s2 := c2.size
 have s3 := c3.size
 refine ⟨fr, se, cellsAt_of h13, ?_⟩
 have hnew : Calls Tryz.prog 59 #[.int .i64 most] w3 fun e w' => ∃ (r1 : Int) (r2 : Option Addr) (r2n : Nat) (r2c : Nat), e = .returned (.agg #[.int .i64 r1, .slice r2 r2n r2c]) ∧ (r1 = most ∧ RowAt w' 22 1 r2 r2n r2c ([0].map (.int .u32)) ∧ Chg [] w3 w' ∧ ∀ i ∈ rowB r2, w3.heap.size ≤ i) := by
  refine ok_pomanderref02_New _ _ _ ?_
  unfold V_pomanderref02_New
  refine v_alloc fun x1 v1 f1 g1 d1 => ?_
  refine v_alloc fun x2 v2 f2 g2 d2 => ?_
  have := d1.size
  have := lt_of_heap g1
  have := lt_of_heap g2
  refine v_fill (d2.obj (by simp) g1) (by rfl) (by rfl) fun v3 g3 d3 _ => ?_
  refine ⟨_, _, _, _, cellsAt_of g3, rfl, ?_, (d1.trans0 d2).trans d3 (fun i hi hlt => by simp at hi; omega), by simp [rowB]; omega⟩
  exact RowAt.of_heap (cs := [.int .u32 0]) (d3.obj (by simp; omega) g2) rfl (by simp [maxLen])
 refine hnew.mono ?_
 rintro _ w4 ⟨r6, r7, r7n, r7c, rfl, rfl, hrow, c4, hf⟩
 refine ⟨_, _, _, _, rfl, ⟨cellsAt_of (c4.obj (by simp) h13), trivial⟩, ?_⟩
 have s4 := c4.size
 refine v_fill (c4.obj (by simp) h23) (by rfl) (by rfl) fun w5 h5 c5 _ => ?_
 have c05 : Chg [] w w5 := (((c1.trans0 c2).trans0 c3).trans0 c4).trans c5 (fun i hi hlt => by simp at hi; omega)
 refine ⟨_, _, _, _, _, _, _, _, _, cellsAt_of h5, rfl, rfl, rfl, ⟨hrow.chg c5 (fun i hi hm => by have := hf i hi; simp at hm; omega), RowAt.nil⟩, c05, fun i hi => ?_⟩
 simp [rowB] at hi
 have := hf i (by simpa [rowB] using hi)
 omega
theorem ref_mark {w : World} {R : Rf} {p4 p5 : Option Addr} {n4 c4 n5 c5 : Nat} (h : RefAt w R p4 n4 c4 p5 n5 c5) (hn4 : n4 ≤ 1000000) (hn5 : n5 ≤ 90000000) (hne : R.sets ≠ []) (hw : 1 ≤ R.fr ∧ R.fr ≤ 32 ∧ 1 ≤ R.se ∧ R.se ≤ 32) {p1 p2 n set : Int} (hs0 : 0 ≤ set) :
  Calls Tryz.prog 42 #[.agg #[.int .i64 R.fr, .int .i64 R.se, .int .i64 R.most, .slice p4 n4 c4, .slice p5 n5 c5], .agg #[.int .i64 p1, .int .i64 p2], .int .i64 n, .int .u32 set] w fun e w' =>
   ∃ (r1 : Int) (r2 : Int) (r3 : Int) (r4 : Option Addr) (r4n : Nat) (r4c : Nat) (r5 : Option Addr) (r5n : Nat) (r5c : Nat) (r6 : Int), e = .returned (.tuple #[.agg #[.int .i64 r1, .int .i64 r2, .int .i64 r3, .slice r4 r4n r4c, .slice r5 r5n r5c], .int .i64 r6]) ∧
   (r1 = R.fr ∧ r2 = R.se ∧ r3 = R.most ∧ r6 = refMarkE R (p1, p2) n set ∧ RefAt w' (refMark R (p1, p2) n set) r4 r4n r4c r5 r5n r5c ∧ Chg [] w w' ∧ ∀ i ∈ rowB r4 ++ rowB r5, i ∈ rowB p4 ++ rowB p5 ∨ w.heap.size ≤ i) := by
 have hwf : i64s (64 * R.fr) ∧ i64s (64 * R.se) := by unfold i64s; omega
 have hlt4 := h.sets.lt
 have hlt5 := h.pairs.lt
 refine ok_pomanderref12_Flow_Mark _ _ _ _ _ _ _ _ _ _ _ _ _ _ _ ?_
 unfold V_pomanderref12_Flow_Mark
 refine v_alloc fun b1 w1 e1 h1 c1 => ?_
 refine v_alloc fun b2 w2 e2 h2 c2 => ?_
 refine v_alloc fun b3 w3 e3 h3 c3 => ?_
 have l1 : b1 < w1.heap.size := lt_of_heap h1
 have l2 : b2 < w2.heap.size := lt_of_heap h2
 have l3 : b3 < w3.heap.size := lt_of_heap h3
 have s1 := c1.size
 have s2 := c2.size
 have s3 := c3.size
 have h13 := (c2.trans0 c3).obj (by simp) h1
 have h23 := c3.obj (by simp) h2
 have c03 := (c1.trans0 c2).trans0 c3
 -- the way out with the flow as it was
 have back : ∀ {w4 : World} (E : Int), refMarkE R (p1, p2) n set = E → E ≠ 0 → Chg [] w3 w4 → ∃ (t8 : Int) (t9 : Int) (t10 : Int) (t11 : Option Addr) (t11n : Nat) (t11c : Nat) (t12 : Option Addr) (t12n : Nat) (t12c : Nat), CellsAt w4 (⟨b1, 0, none⟩ : Addr) 0 [.int .i64 t8, .int .i64 t9, .int .i64 t10, .slice t11 t11n t11c, .slice t12 t12n t12c] ∧ (Has w4 (⟨b3, 0, none⟩ : Addr) 5 ∧ Free w4 (⟨b3, 0, none⟩ : Addr) 5 ∧ ∀ w5 : World, w5 = setCells w4 (⟨b3, 0, none⟩ : Addr) 0 [.int .i64 t8, .int .i64 t9, .int .i64 t10, .slice t11 t11n t11c, .slice t12 t12n t12c] →
   (∃ (r8 : Int) (r9 : Int) (r10 : Int) (r11 : Option Addr) (r11n : Nat) (r11c : Nat) (r12 : Option Addr) (r12n : Nat) (r12c : Nat), CellsAt w5 (⟨b3, 0, none⟩ : Addr) 0 [.int .i64 r8, .int .i64 r9, .int .i64 r10, .slice r11 r11n r11c, .slice r12 r12n r12c] ∧
    (r8 = R.fr ∧ r9 = R.se ∧ r10 = R.most ∧ E = refMarkE R (p1, p2) n set ∧ RefAt w5 (refMark R (p1, p2) n set) r11 r11n r11c r12 r12n r12c ∧ Chg [] w w5 ∧ ∀ i ∈ rowB r11 ++ rowB r12, i ∈ rowB p4 ++ rowB p5 ∨ w.heap.size ≤ i))) := by
  intro w4 E hE hE0 c4
  refine ⟨_, _, _, _, _, _, _, _, _, cellsAt_of (c4.obj (by simp) h13), ?_⟩
  refine v_fill (c4.obj (by simp) h3) (by rfl) (by rfl) fun w5 h5 c5 _ => ?_
  have c05 : Chg [] w w5 := (c03.trans0 c4).trans c5 (fun i hi hlt => by simp at hi; omega)
  have hR : refMark R (p1, p2) n set = R := by unfold refMark; rw [if_neg (by rw [hE]; exact hE0)]
  exact ⟨_, _, _, _, _, _, _, _, _, cellsAt_of h5, rfl, rfl, rfl, hE.symm, by rw [hR]; exact h.chg c05 (by simp) (by simp), c05, fun i hi => .inl hi⟩
 refine ⟨_, _, _, _, _, _, _, _, _, cellsAt_of h13, p1, p2, cellsAt_of h23, ?_⟩
 refine (ref_may _ _ _ _ _ _ _ _ _ _ _ hwf).mono ?_
 rintro _ w4 ⟨_, rfl, rfl, c4⟩
 have h14 := c4.obj (by simp) h13
 have h24 := c4.obj (by simp) h23
 have h34 := c4.obj (by simp) h3
 have s4 := c4.size
 refine ⟨_, rfl, fun hbad => ?_, fun hgood => ?_⟩
 ·have hb : ¬ mayP R.fr R.se (p1, p2) ∨ 65536 ≤ set := by simpa using hbad
  exact back 2 (by unfold refMarkE; rw [if_pos hb]) (by omega) c4
 have hg : mayP R.fr R.se (p1, p2) ∧ set < 65536 := by simpa using hgood
 have hp2 : 0 ≤ p2 ∧ p2 < 2147483648 := by
  have hm := hg.1
  unfold mayP boundP at hm
  simp only [] at hm
  refine ⟨hm.2.2.1, ?_⟩
  have := hm.2.2.2
  split at this
  ·omega
  split at this
  ·omega
  split at this
  ·omega
  split at this
  ·omega
  split at this
  ·omega
  split at this <;> omega
 have hnot : ¬ (¬ mayP R.fr R.se (p1, p2) ∨ 65536 ≤ set) := by
  rintro (h | h)
  ·exact h hg.1
  ·omega
 refine ⟨fun b4 w6 => Chg [] w3 w6 ∧ b4 = decide (n < 0 ∨ 65536 < n ∨ (0 < n ∧ ¬ mayP R.fr R.se (p1, p2 + n - 1))), ?_, fun hn => ?_, fun hn => ?_⟩
 rotate_left
 ·have hn' : 0 ≤ n ∧ n ≤ 65536 := by simpa using hn
  refine ⟨_, fun b3 w5 h => h, fun hpos => ?_, fun hpos => ?_⟩
  ·have hpos' : 0 < n := by simpa using hpos
   refine ⟨_, _, _, _, _, _, _, _, _, cellsAt_of h14, p1, by rw [cell_of h24]; rfl, p2, by rw [cell_of h24]; rfl, ?_⟩
   rw [wr (n := p2 + n) (by omega) (by omega), wr (by omega) (by omega)]
   refine (ref_may _ _ _ _ _ _ _ _ _ _ _ hwf).mono ?_
   rintro _ w6 ⟨_, rfl, rfl, c6⟩
   refine ⟨_, rfl, c4.trans0 c6, ?_⟩
   rw [← decide_not]
   exact decide_eq_decide.2 ⟨fun h => .inr (.inr ⟨hpos', h⟩), fun h => by
    rcases h with h | h | h
    ·omega
    ·omega
    ·exact h.2⟩
  ·have hpos' : ¬ 0 < n := by simpa using hpos
   refine ⟨c4, ?_⟩
   symm; rw [decide_eq_false_iff_not]; omega
 ·have hn' : n < 0 ∨ 65536 < n := by simpa using hn
  refine ⟨c4, ?_⟩
  symm; rw [decide_eq_true_eq]; omega
 rintro b4 w6 ⟨c6, rfl⟩
 refine ⟨fun hbad => ?_, fun hok => ?_⟩
 ·rw [decide_eq_true_eq] at hbad
  exact back 4 (by unfold refMarkE; rw [if_neg hnot, if_pos hbad]) (by omega) c6
 rw [decide_eq_false_iff_not] at hok
 have hE : refMarkE R (p1, p2) n set = keepE R.most R.sets set := by unfold refMarkE; rw [if_neg hnot, if_neg hok]
 have h16 := c6.obj (by simp) h13
 have h26 := c6.obj (by simp) h23
 have h36 := c6.obj (by simp) h3
 have s6 := c6.size
 have c06 := c03.trans0 c6
 refine ⟨R.most, p4, n4, _, ⟨by rw [add_at, cell_of h16]; rfl, by rw [add_at, cell_of h16]; rfl, trivial⟩, ?_⟩
 refine (ref_keep (h.sets.chg c06 (by simp)) hn4 hne hs0).mono ?_
 rintro _ w10 ⟨r19, r20, r20n, r20c, r21, r22, rfl, rfl, rfl, hrow10, c10, hf10⟩
 have s10 := c10.size
 refine ⟨_, _, _, _, _, _, rfl, ?_⟩
 refine v_box (by rfl) (by rfl) fun b6 w12 e12 h12 c12 => ?_
 have s12 := c12.size
 have c312 := (c6.trans0 c10).trans0 c12
 have c012 := c03.trans0 c312
 have h112 := c312.obj (by simp) h13
 have h212 := c312.obj (by simp) h23
 have h312 := c312.obj (by simp) h3
 refine ⟨fun hbad => ?_, fun hz => ?_⟩
 ·have hbad' : keepE R.most R.sets set ≠ 0 := by simpa using hbad
  exact back _ hE hbad' c312
 have hz' : keepE R.most R.sets set = 0 := by simpa using hz
 refine ⟨_, _, _, _, cellsAt_of h12, ?_⟩
 refine v_fillAt (pre := [.int .i64 R.fr, .int .i64 R.se]) (zs := [.int .i64 R.most, .slice p4 n4 _]) (post := [.slice p5 n5 c5]) (by simpa using h112) (by rfl) (by rfl) (by rfl) fun w14 h14' c14 _ => ?_
 have hrow14 : RowAt w14 22 1 r20 r20n r20c ((keepS R.most R.sets set).map (.int .u32)) := (hrow10.chg c12 (by simp)).chg c14 (fun i hi hm => by
  simp at hm
  rcases hf10 i hi with h' | h'
  ·have := hlt4 i h'; omega
  ·omega)
 have h214 := c14.obj (by simp; omega) h212
 have h314 := c14.obj (by simp; omega) h312
 have c014 : Chg [] w w14 := c012.trans c14 (fun i hi hlt => by simp at hi; omega)
 have s14 := c14.size
 have hn0 : 0 ≤ n ∧ n ≤ 65536 := by omega
 have h5len := h.n5
 refine ⟨fun s w' => ∃ (i : Nat) (q5 : Option Addr) (m5 k5 : Nat), s = (i : Int) ∧ (i : Int) ≤ n ∧ w'.heap[b1]? = some (.cells #[.int .i64 R.fr, .int .i64 R.se, .int .i64 R.most, .slice r20 r20n r20c, .slice q5 m5 k5] 43 (0, 0)) ∧ w'.heap[b2]? = some (.cells #[.int .i64 p1, .int .i64 p2] 62 (0, 0)) ∧
   w'.heap[b3]? = some (.cells #[.int .i64 0, .int .i64 0, .int .i64 0, .slice none 0 0, .slice none 0 0] 43 (0, 0)) ∧ RefAt w' { R with sets := keepS R.most R.sets set, pairs := refFill (p1, p2) set R.pairs i } r20 r20n r20c q5 m5 k5 ∧ Chg [] w w' ∧ w14.heap.size ≤ w'.heap.size ∧ (∀ j ∈ rowB q5, j ∈ rowB p5 ∨ w14.heap.size ≤ j),
  fun s _ => (n - s).toNat, ⟨0, p5, n5, c5, rfl, by omega, by simpa using h14', h214, h314, ⟨hrow14, (h.pairs.chg c012 (by simp)).chg c14 (fun i hi hm => by have := hlt5 i hi; simp at hm; omega)⟩, c014, Nat.le_refl _, fun i hi => .inl hi⟩, ?_⟩
 rintro _ w15 ⟨i, q5, m5, k5, rfl, hi, h115, h215, h315, hR15, c15, s15, hf15⟩
 refine ⟨fun hlt => ?_, fun hge => ?_⟩
 ·have hlt' : (i : Int) < n := by simpa using hlt
  refine ⟨_, _, _, _, _, _, _, _, _, cellsAt_of h115, p1, by rw [cell_of h215]; rfl, p2, by rw [cell_of h215]; rfl, ?_⟩
  rw [wr (n := p2 + i) (by omega) (by omega)]
  have hm5 : m5 ≤ 100000000 := by
   have h1 := hR15.n5
   have h2 := refFill_length (p1, p2) set R.pairs i
   simp only [] at h1
   omega
  refine (ref_put hR15 hm5 p1 (p2 + i) set).mono ?_
  rintro _ w16 ⟨r1, r2, r3, r4, r4n, r4c, r5, r5n, r5c, rfl, rfl, rfl, rfl, rfl, rfl, rfl, hR16, c16, hf16⟩
  have s16 := c16.size
  refine ⟨_, _, _, _, _, _, _, _, _, rfl, ?_⟩
  refine v_fill (c16.obj (by simp) h115) (by rfl) (by rfl) fun w17 h17 c17 _ => ?_
  rw [wr (by omega) (by omega)]
  have hb4 : ∀ j ∈ rowB r4, j ∉ [b1] := fun j hj hm => by
   simp at hm
   rcases hf10 j hj with h' | h'
   ·have := hlt4 j h'; omega
   ·omega
  refine ⟨⟨i + 1, r5, r5n, r5c, by omega, by omega, h17, c17.obj (by simp; omega) (c16.obj (by simp) h215), c17.obj (by simp; omega) (c16.obj (by simp) h315), hR16.chg c17 hb4 (fun j hj hm => by have := hf16 j hj; simp at hm; omega), (c15.trans0 c16).trans c17 (fun j hj hlt => by simp at hj; omega), by have := c17.size; omega, fun j hj => .inr (by have := hf16 j hj; omega)⟩, by simp only []; omega⟩
 ·have hge' : ¬ (i : Int) < n := by simpa using hge
  have hin : n.toNat = i := by omega
  refine ⟨_, _, _, _, _, _, _, _, _, cellsAt_of h115, ?_⟩
  refine v_fill h315 (by rfl) (by rfl) fun w18 h18 c18 _ => ?_
  have c018 : Chg [] w w18 := c15.trans c18 (fun j hj hlt => by simp at hj; omega)
  have hR : refMark R (p1, p2) n set = { R with sets := keepS R.most R.sets set, pairs := refFill (p1, p2) set R.pairs i } := by unfold refMark; rw [if_pos (by rw [hE]; exact hz'), hin]
  refine ⟨_, _, _, _, _, _, _, _, _, cellsAt_of h18, rfl, rfl, rfl, by rw [hE, hz'], ?_, c018, fun j hj => ?_⟩
  ·rw [hR]
   refine hR15.chg c18 (fun j hj hm => ?_) (fun j hj hm => ?_)
   ·simp at hm
    rcases hf10 j hj with h' | h'
    ·have := hlt4 j h'; omega
    ·omega
   ·simp at hm
    rcases hf15 j hj with h' | h'
    ·have := hlt5 j h'; omega
    ·omega
  ·simp only [List.mem_append] at hj ⊢
   rcases hj with hj | hj
   ·rcases hf10 j hj with h' | h'
    ·exact .inl (.inl h')
    ·right; have := c06.size; omega
   ·rcases hf15 j hj with h' | h'
    ·exact .inl (.inr h')
    ·right; omega
end Go.Proofs.YtfcfkhbkkfpehaaGreat
end
section
/- The program's flow and the document's one, as values: what they say alike behind marks and touches. -/
namespace Go.Proofs.YtfcfkhbkkfpehaaGreat
open Go Go.RowKit Go.X
def lookPr (l : List Pr) (q : Int × Int) : Int := (lookK q l).getD 0
def PutInv (p : Int × Int) (set : Int) (l : List Pr) (s : List Pr × Bool) : Prop :=
 (∀ q, q ≠ p → lookK q s.1 = lookK q l) ∧ (s.2 = true → lookK p s.1 = if set = 0 then none else some set) ∧ (s.2 = false → lookK p s.1 = none ∧ set ≠ 0)
theorem putInv_step {p : Int × Int} {set : Int} {l : List Pr} {s : List Pr × Bool} (h : PutInv p set l s) (x : Pr) : PutInv p set (l ++ [x]) (stepPut p set s x) := by
 obtain ⟨out, put⟩ := s
 obtain ⟨h1, h2, h3⟩ := h
 simp only [] at h1 h2 h3
 have hone : ∀ (q : Int × Int) (y : Pr), lookK q [y] = if y.1 = q then some y.2 else none := fun q y => by rw [lookK_cons, lookK_nil]
 unfold stepPut
 cases put with
 | true =>
  simp only [Bool.not_true, Bool.false_and, Bool.false_eq_true, if_false, Bool.true_eq_false, and_false]
  have h2' := h2 rfl
  by_cases hx : x.1 = p
  ·simp only [hx, if_true]
   refine ⟨fun q hq => ?_, fun _ => h2', fun h => by simp at h⟩
   rw [h1 q hq, lookK_append, hone, hx, if_neg (Ne.symm hq), Option.or_none]
  ·simp only [hx, if_false]
   refine ⟨fun q hq => ?_, fun _ => ?_, fun h => by simp at h⟩
   ·rw [lookK_append, lookK_append, h1 q hq]
   ·rw [lookK_append, h2', hone, if_neg hx, Option.or_none]
 | false =>
  obtain ⟨h3', hs⟩ := h3 rfl
  by_cases ha : aheadP p x.1
  ·have hx : x.1 ≠ p := fun e => by rw [e] at ha; unfold aheadP at ha; omega
   simp only [Bool.not_false, Bool.true_and, ha, decide_true, if_true, hx, if_false, Bool.true_eq_false, and_false, false_and]
   refine ⟨fun q hq => ?_, fun _ => ?_, fun h => by simp at h⟩
   ·rw [lookK_append, lookK_append, lookK_append, hone, hone, h1 q hq]
    simp only [Ne.symm hq, if_false, Option.or_none]
   ·rw [lookK_append, lookK_append, h3', hone, hone]
    simp [hs]
  ·simp only [Bool.not_false, Bool.true_and, ha, decide_false, Bool.false_eq_true, if_false]
   by_cases hx : x.1 = p
   ·simp only [hx, if_true, and_self]
    refine ⟨fun q hq => ?_, fun _ => ?_, fun h => by simp at h⟩
    ·rw [lookK_append, lookK_append, hone, hone, h1 q hq, hx]; simp [Ne.symm hq]
    ·rw [lookK_append, h3', hone]
     simp [hs]
   ·simp only [hx, if_false, false_and]
    refine ⟨fun q hq => ?_, fun h => by simp at h, fun _ => ⟨?_, hs⟩⟩
    ·rw [lookK_append, lookK_append, h1 q hq]
    ·rw [lookK_append, h3', hone, if_neg hx]; rfl
theorem putInv_fold (p : Int × Int) (set : Int) (l : List Pr) : PutInv p set l (foldPut p set l) := by
 have : ∀ (l l0 : List Pr) (s : List Pr × Bool), PutInv p set l0 s → PutInv p set (l0 ++ l) (l.foldl (stepPut p set) s) := by
  intro l
  induction l with
  | nil => intro l0 s h; simpa using h
  | cons x l ih =>
   intro l0 s h
   have := ih (l0 ++ [x]) _ (putInv_step h x)
   simpa using this
 have := this l [] ([], set == 0) ⟨fun q _ => rfl, fun h => by simp at h; simp [h, lookK_nil], fun h => by simp at h; exact ⟨rfl, h⟩⟩
 simpa [foldPut] using this
theorem look_refPut (p : Int × Int) (set : Int) (l : List Pr) (q : Int × Int) : lookPr (refPut p set l) q = if q = p then set else lookPr l q := by
 obtain ⟨h1, h2, h3⟩ := putInv_fold p set l
 unfold refPut lookPr
 simp only []
 by_cases hs : (foldPut p set l).2 = true
 ·rw [if_pos hs]
  by_cases hq : q = p
  ·subst hq
   rw [h2 hs, if_pos rfl]
   by_cases h0 : set = 0
   ·simp [h0]
   ·simp [h0]
  ·rw [h1 q hq, if_neg hq]
 ·rw [if_neg hs]
  have hs' : (foldPut p set l).2 = false := by simpa using hs
  rw [lookK_append, lookK_cons, lookK_nil]
  by_cases hq : q = p
  ·subst hq
   rw [(h3 hs').1]; simp
  ·rw [h1 q hq, if_neg (Ne.symm hq), if_neg hq, Option.or_none]
structure RelF (F : Fl) (R : Rf) : Prop where
 fr : R.fr = F.fr
 se : R.se = F.se
 most : R.most = F.most
 sets : R.sets = F.sets
 look : ∀ q, lookPr R.pairs q = F.g q
theorem RelF.new (fr se most : Int) : RelF (flowNew fr se most) ⟨fr, se, most, [0], []⟩ := ⟨rfl, rfl, rfl, rfl, fun _ => rfl⟩
theorem look_refFill (p : Int × Int) (set : Int) (l : List Pr) (g : Int × Int → Int) (hg : ∀ q, lookPr l q = g q) (n : Nat) (q : Int × Int) : lookPr (refFill p set l n) q = fillP g p set n q := by
 induction n generalizing q with
 | zero => exact hg q
 | succ n ih =>
  simp only [refFill, fillP, putP]
  rw [look_refPut, ih]
theorem RelF.markE {F : Fl} {R : Rf} (h : RelF F R) (p : Int × Int) (n set : Int) : refMarkE R p n set = markE F p n set := by
 unfold refMarkE Proofs.YtfcfkhbkkfpehaaGreat.markE
 rw [h.fr, h.se, h.most, h.sets]
theorem RelF.mark {F : Fl} {R : Rf} (h : RelF F R) (p : Int × Int) (n set : Int) : RelF (markF F p n set) (refMark R p n set) := by
 unfold markF refMark
 rw [h.markE]
 by_cases he : Proofs.YtfcfkhbkkfpehaaGreat.markE F p n set = 0
 ·rw [if_pos he, if_pos he]
  refine ⟨h.fr, h.se, h.most, ?_, fun q => ?_⟩
  ·simp only [h.most, h.sets]
  ·exact look_refFill p set R.pairs F.g h.look _ q
 ·rw [if_neg he, if_neg he]; exact h
/-! ### Touches applied -/
def keepStep (most : Int) (g : Int × Int → Int) (s : List Int × List Pr × Int) (t : Tch) : List Int × List Pr × Int :=
 if s.2.2 ≠ 0 ∨ t.1 = (0, 0) then s else
  if keepE most s.1 (joinP g t.2) ≠ 0 then (s.1, s.2.1, keepE most s.1 (joinP g t.2)) else (keepS most s.1 (joinP g t.2), upd t.1 (joinP g t.2) s.2.1, 0)
def keepAll (most : Int) (g : Int × Int → Int) (ts : List Tch) (sets : List Int) : List Int × List Pr × Int := ts.foldl (keepStep most g) (sets, [], 0)
theorem keepAll_snoc (most : Int) (g : Int × Int → Int) (ts : List Tch) (sets : List Int) (t : Tch) : keepAll most g (ts ++ [t]) sets = keepStep most g (keepAll most g ts sets) t := by simp [keepAll]
theorem keepAll_bad {most : Int} {g : Int × Int → Int} {ts us : List Tch} {sets : List Int} (h : (keepAll most g ts sets).2.2 ≠ 0) : keepAll most g (ts ++ us) sets = keepAll most g ts sets := by
 have : ∀ (us : List Tch) (s : List Int × List Pr × Int), s.2.2 ≠ 0 → us.foldl (keepStep most g) s = s := by
  intro us
  induction us with
  | nil => intro s _; rfl
  | cons u us ih =>
   intro s hs
   have e : keepStep most g s u = s := by unfold keepStep; rw [if_pos (.inl hs)]
   rw [List.foldl_cons, e]; exact ih s hs
 unfold keepAll at h ⊢
 rw [List.foldl_append]; exact this us _ h
def rightAll (fr se : Int) (ts : List Tch) : Prop := ∀ t ∈ ts, rightT fr se t
instance (fr se : Int) (ts : List Tch) : Decidable (rightAll fr se ts) := by unfold rightAll; exact inferInstance
def applyE (F : Fl) (ts : List Tch) : Int := if rightAll F.fr F.se ts then (keepAll F.most F.g ts F.sets).2.2 else 2
def overP (g : Int × Int → Int) (now : List Pr) : Int × Int → Int := fun q => (lookK q now).getD (g q)
def applyF (F : Fl) (ts : List Tch) : Fl :=
 if rightAll F.fr F.se ts then { F with sets := (keepAll F.most F.g ts F.sets).1, g := if (keepAll F.most F.g ts F.sets).2.2 = 0 then overP F.g (keepAll F.most F.g ts F.sets).2.1 else F.g } else F
theorem overP_nil (g : Int × Int → Int) : overP g [] = g := by funext q; simp [overP, lookK_nil]
theorem overP_upd (g : Int × Int → Int) (now : List Pr) (p : Int × Int) (set : Int) : overP g (upd p set now) = putP (overP g now) p set := by
 funext q
 unfold overP putP
 rw [lookK_upd]
 by_cases h : q = p <;> simp [h]
def putStep (g : Int × Int → Int) (l : List Pr) (t : Tch) : List Pr := if t.1 = (0, 0) then l else refPut t.1 (joinP g t.2) l
def putAll (g : Int × Int → Int) (ts : List Tch) (l : List Pr) : List Pr := ts.foldl (putStep g) l
theorem putAll_snoc (g : Int × Int → Int) (ts : List Tch) (l : List Pr) (t : Tch) : putAll g (ts ++ [t]) l = putStep g (putAll g ts l) t := by simp [putAll]
def refApplyE (R : Rf) (ts : List Tch) : Int := if rightAll R.fr R.se ts then (keepAll R.most (lookPr R.pairs) ts R.sets).2.2 else 2
def refApply (R : Rf) (ts : List Tch) : Rf :=
 if rightAll R.fr R.se ts then { R with sets := (keepAll R.most (lookPr R.pairs) ts R.sets).1, pairs := if (keepAll R.most (lookPr R.pairs) ts R.sets).2.2 = 0 then putAll (lookPr R.pairs) ts R.pairs else R.pairs } else R
theorem look_putAll (most : Int) (g : Int × Int → Int) (ts : List Tch) (sets : List Int) (l : List Pr) (hl : ∀ q, lookPr l q = g q) (h0 : (keepAll most g ts sets).2.2 = 0) (q : Int × Int) :
  lookPr (putAll g ts l) q = overP g (keepAll most g ts sets).2.1 q := by
 have : ∀ (ts us : List Tch) (l : List Pr), (keepAll most g (us ++ ts) sets).2.2 = 0 → (∀ q, lookPr l q = overP g (keepAll most g us sets).2.1 q) →
   ∀ q, lookPr (ts.foldl (putStep g) l) q = overP g (keepAll most g (us ++ ts) sets).2.1 q := by
  intro ts
  induction ts with
  | nil => intro us l h0 hl q; simpa using hl q
  | cons t ts ih =>
   intro us l h0 hl q
   have e : us ++ t :: ts = (us ++ [t]) ++ ts := by simp
   rw [e] at h0 ⊢
   have h1 : (keepAll most g (us ++ [t]) sets).2.2 = 0 := by
    by_cases hb : (keepAll most g (us ++ [t]) sets).2.2 = 0
    ·exact hb
    ·exfalso; rw [keepAll_bad hb] at h0; exact hb h0
   have h2 : (keepAll most g us sets).2.2 = 0 := by
    by_cases hb : (keepAll most g us sets).2.2 = 0
    ·exact hb
    ·exfalso; rw [keepAll_bad hb] at h1; exact hb h1
   rw [List.foldl_cons]
   refine ih (us ++ [t]) _ h0 (fun q => ?_) q
   rw [keepAll_snoc]
   rw [keepAll_snoc] at h1
   unfold keepStep at h1 ⊢
   unfold putStep
   by_cases ht : t.1 = (0, 0)
   ·rw [if_pos ht, if_pos (.inr ht)]; exact hl q
   ·have hn : ¬ ((keepAll most g us sets).2.2 ≠ 0 ∨ t.1 = (0, 0)) := by rintro (h | h); exact h h2; exact ht h
    rw [if_neg hn] at h1 ⊢
    rw [if_neg ht]
    by_cases hk : keepE most (keepAll most g us sets).1 (joinP g t.2) ≠ 0
    ·rw [if_pos hk] at h1; exact absurd h1 hk
    ·rw [if_neg hk]
     simp only []
     rw [overP_upd, look_refPut]
     unfold putP
     rw [hl q]
 exact this ts [] l h0 (fun q => by rw [show (keepAll most g [] sets).2.1 = [] from rfl, overP_nil]; exact hl q) q
theorem RelF.g {F : Fl} {R : Rf} (h : RelF F R) : lookPr R.pairs = F.g := funext h.look
theorem RelF.applyE {F : Fl} {R : Rf} (h : RelF F R) (ts : List Tch) : refApplyE R ts = applyE F ts := by
 unfold refApplyE Proofs.YtfcfkhbkkfpehaaGreat.applyE
 rw [h.fr, h.se, h.most, h.sets, h.g]
theorem RelF.apply {F : Fl} {R : Rf} (h : RelF F R) (ts : List Tch) : RelF (applyF F ts) (refApply R ts) := by
 unfold applyF refApply
 rw [h.fr, h.se, h.most, h.sets, h.g]
 by_cases hr : rightAll F.fr F.se ts
 ·rw [if_pos hr, if_pos hr]
  refine ⟨rfl, rfl, rfl, rfl, fun q => ?_⟩
  simp only []
  by_cases h0 : (keepAll F.most F.g ts F.sets).2.2 = 0
  ·rw [if_pos h0, if_pos h0]
   exact look_putAll F.most F.g ts F.sets R.pairs h.look h0 q
  ·rw [if_neg h0, if_neg h0]; exact h.look q
 ·rw [if_neg hr, if_neg hr]; exact h
end Go.Proofs.YtfcfkhbkkfpehaaGreat
end
section
/- Arguments that came in, opened: slices of structs as lists. -/
namespace Go.X
open Go Go.RowKit Go.ChangeShapes Go.WideShapes
theorem list_of {α : Type} {n : Nat} {Q : Nat → α → Prop} (h : ∀ i, i < n → ∃ x, Q i x) : ∃ l : List α, l.length = n ∧ ∀ (i : Nat) (x : α), l[i]? = some x → Q i x := by
 induction n with
 | zero => exact ⟨[], rfl, by simp⟩
 | succ n ih =>
  obtain ⟨l, hl, hq⟩ := ih (fun i hi => h i (by omega))
  obtain ⟨x, hx⟩ := h n (by omega)
  refine ⟨l ++ [x], by simp [hl], fun i y hy => ?_⟩
  by_cases hi : i < l.length
  ·rw [List.getElem?_append_left hi] at hy; exact hq i y hy
  ·rw [List.getElem?_append_right (by omega)] at hy
   have hi' : i - l.length = 0 := by
    have := (List.getElem?_eq_some_iff.1 hy).1
    simp at this; omega
   rw [hi'] at hy; simp at hy; subst hy
   have : i = n := by omega
   rw [this]; exact hx
section
variable {H : Type} {enc : TypeId × Value → H} {P : Program} {w : World} {base : Nat} {spare : Nat → Bool} {held : Bool}
theorem cellsAt_cells? {a : Addr} {n : Nat} {cs : List Value} (h : w.cells? base a n = some cs) : CellsAt w a 0 cs ∧ cs.length = n := by
 obtain ⟨_, h2, h3⟩ := World.cells?_some h
 refine ⟨?_, h2⟩
 have : ∀ (l : List Value) (i : Nat), (∀ k v, l[k]? = some v → w.cell? (a.add (i + k)) = some v) → CellsAt w a i l := by
  intro l
  induction l with
  | nil => intro i _; trivial
  | cons v l ih => intro i h; exact ⟨by simpa using h 0 v rfl, ih (i + 1) (fun k u hu => by rw [show i + 1 + k = i + (k + 1) by omega]; exact h (k + 1) u (by simpa using hu))⟩
 refine this cs 0 fun k v hk => ?_
 have hlt : k < n := by rw [← h2]; exact (List.getElem?_eq_some_iff.1 hk).1
 rw [Nat.zero_add, h3 k hlt, hk]
theorem open_slice {t e : TypeId} {fuel : Nat} {cs : List Value} {x : DataW H × List MemPlace} (ht : P.underlying t = some (.slice e)) (h : DataW.trod enc P w base spare held fuel t cs = some x) :
  ∃ (p : Option Addr) (len cap : Nat), cs = [.slice p len cap] ∧ len ≤ maxLen ∧ ∀ i, i < len → ∃ (a : Addr) (cs' : List Value) (n : Nat) (y : DataW H × List MemPlace), p = some a ∧ CellsAt w (a.add (i * P.cellsOf e)) 0 cs' ∧ cs'.length = P.cellsOf e ∧ DataW.trod enc P w base spare held n e cs' = some y := by
 rcases DataW.trod_slice ht h with ⟨h0, _⟩ | ⟨a, len, cap, elems, rest, n, _, rfl, rfl, hb, hl, hm, hlen, hel, _, _⟩
 ·exact ⟨none, 0, 0, h0, by simp [maxLen], fun i hi => absurd hi (by omega)⟩
 ·refine ⟨some a, len, cap, rfl, by omega, fun i hi => ?_⟩
  have h1 := hel i hi
  rw [List.getElem?_eq_getElem (by omega)] at h1
  obtain ⟨cs', hcs, hy⟩ := Option.bind_eq_some_iff.1 h1
  obtain ⟨k1, k2⟩ := cellsAt_cells? hcs
  exact ⟨a, cs', n, _, rfl, k1, k2, hy⟩
theorem wf_i64 {n : Int} (h : (Lit.int .i64 n).wf = true) : -9223372036854775808 ≤ n ∧ n ≤ 9223372036854775807 := by
 simp [Lit.wf, IntKind.min, IntKind.max, IntKind.bits, IntKind.signed] at h
 omega
theorem wf_u32 {n : Int} (h : (Lit.int .u32 n).wf = true) : 0 ≤ n ∧ n < 4294967296 := by
 simp [Lit.wf, IntKind.min, IntKind.max, IntKind.bits, IntKind.signed] at h
 omega
theorem all_below (hl : laidOutB P = true) {W W' : World} (hb : Below W.heap.size W W') : ∀ (ts : List TypeId) (vs : List Value) (ds : List (DataW H)) (ps : List MemPlace), (∀ t ∈ ts, P.readableRec t = true ∧ t < P.types.size) →
  DataW.TrodAll enc P W 0 (fun _ => true) true ts vs ds ps → (∀ x ∈ ps, x.block < W.heap.size) → DataW.TrodAll enc P W' 0 (fun b => decide (b < W.heap.size)) true ts vs ds ps
 | [], [], [], ps, _, h, _ => h
 | t :: ts, v :: vs, d :: ds, ps, ht, h, hlt => by
  obtain ⟨p, q, h1, h2, rfl⟩ := h
  exact ⟨p, q, Below.trod hl (ht t (.head _)).1 (ht t (.head _)).2 h1 hb (fun x hx => hlt x (List.mem_append.2 (.inl hx))), all_below hl hb ts vs ds q (fun t h => ht t (.tail _ h)) h2 (fun x hx => hlt x (List.mem_append.2 (.inr hx))), rfl⟩
 | [], [], _ :: _, _, _, h, _ => h.elim
 | [], _ :: _, _, _, _, h, _ => h.elim
 | _ :: _, [], _, _, _, h, _ => h.elim
 | _ :: _, _ :: _, [], _, _, h, _ => h.elim
end
end Go.X
end
section
/- Arguments that came in, opened: places, touches, marks. -/
namespace Go.Proofs.YtfcfkhbkkfpehaaGreat
open Go Go.RowKit Go.X
theorem len1 {α : Type} {l : List α} (h : l.length = 1) : ∃ a, l = [a] := by
 cases l with
 | nil => simp at h
 | cons a l => exact ⟨a, by rw [List.eq_nil_of_length_eq_zero (l := l) (by simpa using h)]⟩
theorem len2 {α : Type} {l : List α} (h : l.length = 2) : ∃ a b, l = [a, b] := by
 cases l with
 | nil => simp at h
 | cons a l => obtain ⟨b, rfl⟩ := len1 (l := l) (by simpa using h); exact ⟨a, b, rfl⟩
theorem len3 {α : Type} {l : List α} (h : l.length = 3) : ∃ a b c, l = [a, b, c] := by
 cases l with
 | nil => simp at h
 | cons a l => obtain ⟨b, c, rfl⟩ := len2 (l := l) (by simpa using h); exact ⟨a, b, c, rfl⟩
section
variable {H : Type} {enc : TypeId × Value → H} {w : World} {base : Nat} {spare : Nat → Bool} {held : Bool} {fuel : Nat} {x : DataW H × List MemPlace} {cs : List Value}
theorem cells56 : Tryz.prog.cellsOf 62 = 2 := by kernel_rfl
theorem cells81 : Tryz.prog.cellsOf 65 = 3 := by kernel_rfl
theorem cells3 : Tryz.prog.cellsOf 3 = 1 := by kernel_rfl
theorem cells54 : Tryz.prog.cellsOf 60 = 1 := by kernel_rfl
theorem cells22 : Tryz.prog.cellsOf 22 = 1 := by kernel_rfl
theorem cells47 : Tryz.prog.cellsOf 63 = 1 := by kernel_rfl
theorem un54 : Tryz.prog.underlying 60 = some (.int .i64) := by kernel_rfl
theorem un3 : Tryz.prog.underlying 3 = some (.int .i64) := by kernel_rfl
theorem un22 : Tryz.prog.underlying 22 = some (.int .u32) := by kernel_rfl
theorem open_place (h : DataW.trod enc Tryz.prog w base spare held fuel 62 cs = some x) : ∃ p : Int × Int, cs = [.int .i64 p.1, .int .i64 p.2] ∧ i64s p.1 ∧ i64s p.2 := by
 obtain ⟨xs, n, _, _, hl, hlen, hf⟩ := DataW.trod_struct Tryz.underlying62 h
 have h0 : DataW.trod enc Tryz.prog w base spare held n 60 ((cs.drop 0).take (Tryz.prog.cellsOf 60)) = xs[0]? := hf 0 _ rfl
 have h1 : DataW.trod enc Tryz.prog w base spare held n 3 ((cs.drop 1).take (Tryz.prog.cellsOf 3)) = xs[1]? := hf 1 _ rfl
 simp only [cells54, cells3] at h0 h1
 rw [cells56] at hl
 rw [List.getElem?_eq_getElem (by rw [hlen]; decide)] at h0 h1
 obtain ⟨a, e0, _, w0⟩ := DataW.trod_int un54 h0
 obtain ⟨b, e1, _, w1⟩ := DataW.trod_int un3 h1
 obtain ⟨c0, c1, rfl⟩ := len2 hl
 simp at e0 e1
 subst e0 e1
 exact ⟨(a, b), rfl, wf_i64 w0, wf_i64 w1⟩
def oldS (w : World) (i : Nat) : Prop := i < w.heap.size
theorem cellsAt_lt {a : Addr} {i : Nat} {c : Value} {cs : List Value} (h : CellsAt w a i (c :: cs)) : a.block < w.heap.size := by
 have := World.block_lt_of_cell? w _ h.1
 rwa [add_block] at this
theorem open_places (h : DataW.trod enc Tryz.prog w base spare held fuel 63 cs = some x) : ∃ p n c ps, cs = [.slice p n c] ∧ n ≤ maxLen ∧ PlacesAt w (oldS w) p n ps := by
 obtain ⟨p, n, c, rfl, hn, hel⟩ := open_slice Tryz.underlying63 h
 obtain ⟨l, hl, hq⟩ := list_of (Q := fun j (x : Int × Int) => i64s x.1 ∧ i64s x.2 ∧ ∃ a, p = some a ∧ oldS w a.block ∧ CellsAt w (a.add (j * 2)) 0 [.int .i64 x.1, .int .i64 x.2]) (n := n) (fun i hi => by
  obtain ⟨a, cs', m, y, ha, hc, _, hy⟩ := hel i hi
  obtain ⟨q, rfl, k1, k2⟩ := open_place hy
  rw [cells56] at hc
  exact ⟨q, k1, k2, a, ha, by have := cellsAt_lt hc; rwa [add_block] at this, hc⟩)
 exact ⟨p, n, c, l, rfl, hn, hl, hq⟩
theorem open_touch (h : DataW.trod enc Tryz.prog w base spare held fuel 65 cs = some x) : ∃ (t : Tch) (q : Option Addr) (qn qc : Nat), cs = [.int .i64 t.1.1, .int .i64 t.1.2, .slice q qn qc] ∧ i64s t.1.1 ∧ i64s t.1.2 ∧ qn ≤ maxLen ∧ PlacesAt w (oldS w) q qn t.2 := by
 obtain ⟨xs, n, _, _, hl, hlen, hf⟩ := DataW.trod_struct Tryz.underlying65 h
 have h0 : DataW.trod enc Tryz.prog w base spare held n 62 ((cs.drop 0).take (Tryz.prog.cellsOf 62)) = xs[0]? := hf 0 _ rfl
 have h1 : DataW.trod enc Tryz.prog w base spare held n 63 ((cs.drop 2).take (Tryz.prog.cellsOf 63)) = xs[1]? := hf 1 _ rfl
 simp only [cells56, cells47] at h0 h1
 rw [cells81] at hl
 rw [List.getElem?_eq_getElem (by rw [hlen]; decide)] at h0 h1
 obtain ⟨p, e0, k1, k2⟩ := open_place h0
 obtain ⟨q, qn, qc, ps, e1, hq, hps⟩ := open_places h1
 obtain ⟨c0, c1, c2, rfl⟩ := len3 hl
 simp at e0 e1
 obtain ⟨rfl, rfl⟩ := e0
 subst e1
 exact ⟨(p, ps), q, qn, qc, rfl, k1, k2, hq, hps⟩
theorem open_touches (h : DataW.trod enc Tryz.prog w base spare held fuel 27 cs = some x) : ∃ p n c ts, cs = [.slice p n c] ∧ n ≤ maxLen ∧ TouchesAt w (oldS w) p n ts ∧ ∀ t ∈ ts, t.2.length ≤ maxLen := by
 obtain ⟨p, n, c, rfl, hn, hel⟩ := open_slice Tryz.underlying27 h
 obtain ⟨l, hl, hq⟩ := list_of (Q := fun j (t : Tch) => (i64s t.1.1 ∧ i64s t.1.2 ∧ ∃ a q qn qc, p = some a ∧ oldS w a.block ∧ CellsAt w (a.add (j * 3)) 0 [.int .i64 t.1.1, .int .i64 t.1.2, .slice q qn qc] ∧ PlacesAt w (oldS w) q qn t.2) ∧ t.2.length ≤ maxLen) (n := n) (fun i hi => by
  obtain ⟨a, cs', m, y, ha, hc, _, hy⟩ := hel i hi
  obtain ⟨t, q, qn, qc, rfl, k1, k2, k3, k4⟩ := open_touch hy
  rw [cells81] at hc
  exact ⟨t, ⟨k1, k2, a, q, qn, qc, ha, by have := cellsAt_lt hc; rwa [add_block] at this, hc, k4⟩, by rw [k4.length]; exact k3⟩)
 refine ⟨p, n, c, l, rfl, hn, ⟨hl, fun j t ht => (hq j t ht).1⟩, fun t ht => ?_⟩
 obtain ⟨j, hj⟩ := List.getElem?_of_mem ht
 exact (hq j t hj).2
structure MarksAt (w : World) (S : Nat → Prop) (p : Option Addr) (n : Nat) (ms : List Pr) : Prop where
 length : ms.length = n
 each : ∀ (j : Nat) (x : Pr), ms[j]? = some x → i64s x.1.2 ∧ 0 ≤ x.2 ∧ x.2 < 4294967296 ∧ ∃ a, p = some a ∧ S a.block ∧ CellsAt w (a.add (j * 3)) 0 [.int .i64 x.1.1, .int .i64 x.1.2, .int .u32 x.2]
theorem MarksAt.chg {w w' : World} {S : Nat → Prop} {p : Option Addr} {n : Nat} {ps : List Pr} {f : List Nat} (h : MarksAt w S p n ps) (hc : Chg f w w') (hf : ∀ i ∈ f, ¬ S i) : MarksAt w' S p n ps :=
 ⟨h.length, fun j x hx => let ⟨h1, h2, h3, a, h4, h5, h6⟩ := h.each j x hx; ⟨h1, h2, h3, a, h4, h5, hc.cells (by rw [add_block]; exact fun hm => hf _ hm h5) h6⟩⟩
end
end Go.Proofs.YtfcfkhbkkfpehaaGreat
end
section
/- Policies: New, none, Strict, Stops; the laws' helpers known, broad, made. -/
namespace Go.Proofs.YtfcfkhbkkfpehaaGreat
open Go Go.RowKit Go.X
def u16 (n : Int) : Prop := 0 ≤ n ∧ n < 65536
theorem or_u16 {a b : Int} (ha : u16 a) (hb : u16 b) : u16 (bits .or .u32 a b) := by
 obtain ⟨a1, a2⟩ := ha
 obtain ⟨b1, b2⟩ := hb
 rw [u32_or a b a1 (by omega) b1 (by omega)]
 have : a.toNat ||| b.toNat < 2 ^ 16 := Nat.or_lt_two_pow (by omega) (by omega)
 exact ⟨by omega, by omega⟩
theorem joinP_u16 {g : Int × Int → Int} (hg : ∀ p, u16 (g p)) (ps : List (Int × Int)) : u16 (joinP g ps) := by
 unfold joinP
 have : ∀ (ps : List (Int × Int)) (s : Int), u16 s → u16 (ps.foldl (fun s p => bits .or .u32 s (g p)) s) := by
  intro ps
  induction ps with
  | nil => intro s h; exact h
  | cons p ps ih => intro s h; exact ih _ (or_u16 h (hg p))
 exact this ps 0 ⟨by omega, by omega⟩
theorem decidesP_u16 {g : Int × Int → Int} (hg : ∀ p, u16 (g p)) (ts : List Tch) : u16 (decidesP g ts) := by
 unfold decidesP
 have : ∀ (ts : List Tch) (s : Int), u16 s → u16 (ts.foldl (fun s t => if t.1 = (0, 0) then bits .or .u32 s (joinP g t.2) else s) s) := by
  intro ts
  induction ts with
  | nil => intro s h; exact h
  | cons t ts ih =>
   intro s h
   simp only [List.foldl_cons]
   apply ih
   split
   ·exact or_u16 h (joinP_u16 hg _)
   ·exact h
 exact this ts 0 ⟨by omega, by omega⟩
structure PolAt (w : World) (b : Nat) (r : List Int) : Prop where
 heap : w.heap[b]? = some (.cells (r.map (Value.int .u32) ++ [Value.bool true]).toArray 109 (0, 0))
 length : r.length = 11
theorem PolAt.chg {w w' : World} {b : Nat} {r : List Int} {f : List Nat} (h : PolAt w b r) (hc : Chg f w w') (hf : b ∉ f) : PolAt w' b r := ⟨hc.obj hf h.heap, h.length⟩
theorem PolAt.lt {w : World} {b : Nat} {r : List Int} (h : PolAt w b r) : b < w.heap.size := lt_of_heap h.heap
theorem PolAt.at {w : World} {b : Nat} {r : List Int} (h : PolAt w b r) {i : Nat} {x : Int} (hx : r[i]? = some x) : w.cell? ⟨b, i, none⟩ = some (.int .u32 x) := by
 have hi : i < r.length := (List.getElem?_eq_some_iff.1 hx).1
 rw [cell_of h.heap]
 simp only [List.getElem?_toArray]
 rw [List.getElem?_append_left (by simpa using hi), List.getElem?_map, hx]; rfl
theorem PolAt.made {w : World} {b : Nat} {r : List Int} (h : PolAt w b r) : w.cell? ⟨b, 11, none⟩ = some (.bool true) := by
 rw [cell_of h.heap]
 simp only [List.getElem?_toArray]
 rw [List.getElem?_append_right (by simp [h.length])]; simp [h.length]
theorem touches_one {w : World} {b1 b2 : Nat} {p : Int × Int} {to : Int × Int} (h1 : w.heap[b1]? = some (.cells #[.int .i64 p.1, .int .i64 p.2] 62 (0, 0))) (h2 : w.heap[b2]? = some (.cells #[.int .i64 to.1, .int .i64 to.2, .slice (some (⟨b1, 0, none⟩ : Addr)) 1 1] 65 (0, 0)))
  (hp : i64s p.1 ∧ i64s p.2) (ht : i64s to.1 ∧ i64s to.2) : TouchesAt w (fun i => i = b1 ∨ i = b2) (some ⟨b2, 0, none⟩) 1 [(to, [p])] := by
 refine ⟨rfl, fun j t hj => ?_⟩
 cases j with
 | zero =>
  simp at hj; subst hj
  refine ⟨ht.1, ht.2, _, _, _, _, rfl, .inr rfl, by rw [Nat.zero_mul, add_at]; exact cellsAt_of h2, rfl, fun i x hi => ?_⟩
  cases i with
  | zero =>
   simp at hi; subst hi
   exact ⟨hp.1, hp.2, _, rfl, .inl rfl, by rw [Nat.zero_mul, add_at]; exact cellsAt_of h1⟩
  | succ i => simp at hi
 | succ j => simp at hj
end Go.Proofs.YtfcfkhbkkfpehaaGreat
end
section
/- Going over a map: the engine's rule for an entry; what the steps yield, by the kit's laws. -/
namespace Go.X
open Go Go.RowKit Go.MapKept Go.ChangeMaps
section
variable {P : Program} {N : Nat} {D : List Deferred} {E : Env} {w w' : World} {d : Option Nat} {T : TypeId} {p : String} {af : Array Edge} {g : Option (Nat × Bool)} {S : World → Prop} {v : Value}
theorem Rd.entry {x : Operand} {vx : Value} (hx : opd E x = some vx) (hl : ∀ w, S w → (Instr.entry vx).run P w = .ok v w) : Rd P N D E ⟨d, .entry x, T, p, af, g⟩ v S := fun a ha w hS => by
 simp [execOp, ha.eval hx, hl w hS]
end
section
variable {P : Program} {K V : Type} [DecidableEq K] {ke : K → Value} {ve : V → Value} {kt et T : TypeId} {w w' : World} {it m : Nat} {l done : List (K × V)}
def IterAt (w : World) (it m : Nat) (ke : K → Value) (ve : V → Value) (l done : List (K × V)) : Prop :=
 ∃ (es : Array MapEntry) (clk since c0 : Nat) (seen : Array Nat) (ds : List MapEntry), w.heap[it]? = some (.mapIter (some m) since seen c0) ∧ since ≤ c0 ∧ since ≤ clk ∧ w.heap[m]? = some (.map es clk) ∧ (∀ x ∈ es.toList, x.born < since) ∧
  es.toList.map (fun (e : MapEntry) => (e.key, e.val)) = l.map (fun (p : K × V) => (ke p.1, ve p.2)) ∧ (l.map Prod.fst).Nodup ∧ (es.toList.map (·.born)).Nodup ∧
  ds.map (·.born) = seen.toList ∧ (∀ d ∈ ds, d ∈ es.toList) ∧ ds.map (fun (e : MapEntry) => (e.key, e.val)) = done.map (fun (p : K × V) => (ke p.1, ve p.2)) ∧ (∀ x ∈ done, x ∈ l) ∧ (done.map Prod.fst).Nodup
theorem IterAt.chg {f : List Nat} (h : IterAt w it m ke ve l done) (hc : Chg f w w') (h1 : it ∉ f) (h2 : m ∉ f) : IterAt w' it m ke ve l done := by
 obtain ⟨es, clk, since, c0, seen, ds, a, b, b', c, rest⟩ := h
 exact ⟨es, clk, since, c0, seen, ds, hc.obj h1 a, b, b', hc.obj h2 c, rest⟩
theorem iter_range (h : MapIs w m ke ve l) (hm : P.underlying T = some (.map kt et)) :
  ∃ it w', (Instr.range T (.map (some m))).run P w = .ok (.pointer (some ⟨it, 0, none⟩)) w' ∧ Chg [] w w' ∧ it = w.heap.size ∧ IterAt w' it m ke ve l [] := by
 obtain ⟨es, clk, hb, he, hn, hbn, hbd⟩ := h
 refine ⟨w.heap.size, w.alloc (.mapIter (some m) clk #[] clk), ?_, Chg.alloc _ _, rfl, es, clk, clk, clk, #[], [], heap_new w _, Nat.le_refl _, Nat.le_refl _, (Chg.alloc w _).obj (by simp) hb, hbn, he, hn, hbd, rfl, by simp, rfl, by simp, by simp⟩
 simp [Instr.range, run_underlying hm, MapKept.run_getObj_map hb, newObj, Result.andThen]
 rfl
theorem iter_next (h : IterAt w it m ke ve l done) (hne : it ≠ m) (hinj : ∀ a b, ke a = ke b → a = b) (ty : TypeId) :
  ((Instr.next (.pointer (some ⟨it, 0, none⟩)) false ty).run P w = .ok (.tuple #[.bool false]) w ∧ ∀ x ∈ l, x ∈ done) ∨
  (∃ (k : K) (v : V) (w' : World), (k, v) ∈ l ∧ k ∉ done.map Prod.fst ∧ (Instr.next (.pointer (some ⟨it, 0, none⟩)) false ty).run P w = .ok (.tuple #[.bool true, ke k, ve v]) w' ∧ Chg [it] w w' ∧
   IterAt w' it m ke ve l (done ++ [(k, v)]) ∧ (Instr.entry (.pointer (some ⟨it, 0, none⟩))).run P w' = .ok (.tuple #[ke k, ve v]) w') := by
 obtain ⟨es, clk, since, c0, seen, ds, h1, h2, h2', h3, h4, h5, h6, h7, h8, h9, h10, h11, h12⟩ := h
 have keyuniq : ∀ e ∈ es.toList, ∀ e' ∈ es.toList, e.key = e'.key → e = e' := by
  intro e he e' he' hk
  obtain ⟨i, hi⟩ := List.getElem?_of_mem he
  obtain ⟨j, hj⟩ := List.getElem?_of_mem he'
  have pi : (l.map (fun (p : K × V) => (ke p.1, ve p.2)))[i]? = some (e.key, e.val) := by rw [← h5, List.getElem?_map, hi]; rfl
  have pj : (l.map (fun (p : K × V) => (ke p.1, ve p.2)))[j]? = some (e'.key, e'.val) := by rw [← h5, List.getElem?_map, hj]; rfl
  rw [List.getElem?_map] at pi pj
  cases li : l[i]? with
  | none => rw [li] at pi; cases pi
  | some a =>
   cases lj : l[j]? with
   | none => rw [lj] at pj; cases pj
   | some b =>
    rw [li] at pi; rw [lj] at pj
    simp at pi pj
    have hab : a.1 = b.1 := hinj _ _ (by rw [pi.1, pj.1, hk])
    have e1 : (l.map Prod.fst)[i]? = (l.map Prod.fst)[j]? := by simp [li, lj, hab]
    have hlt : i < (l.map Prod.fst).length := by have := (List.getElem?_eq_some_iff.1 li).1; simpa using this
    have := (List.getElem?_inj hlt h6).1 e1
    subst this
    rw [hi] at hj; cases hj; rfl
 rcases run_next_at (P := P) w ty it m since c0 seen es clk h1 h3 h4 h2 with ⟨k1, k2⟩ | ⟨e, he, w1, hw1, hrun⟩
 ·left
  refine ⟨k2, fun x hx => ?_⟩
  have hx' : (ke x.1, ve x.2) ∈ es.toList.map (fun (e : MapEntry) => (e.key, e.val)) := h5 ▸ List.mem_map.2 ⟨x, hx, rfl⟩
  obtain ⟨e, he, hee⟩ := List.mem_map.1 hx'
  have hseen : e.born ∈ seen.toList := by
   refine Classical.byContradiction fun hn => ?_
   have hl : e ∈ (leftOf es seen) := by
    unfold leftOf
    rw [Array.mem_filter]
    exact ⟨by simpa using he, by simpa using hn⟩
   have := Array.size_pos_of_mem hl
   omega
  rw [← h8] at hseen
  obtain ⟨d, hd, hde⟩ := List.mem_map.1 hseen
  have hdd : (d.key, d.val) ∈ done.map (fun (p : K × V) => (ke p.1, ve p.2)) := h10 ▸ List.mem_map.2 ⟨d, hd, rfl⟩
  obtain ⟨y, hy, hye⟩ := List.mem_map.1 hdd
  have hborn : d = e := by
   obtain ⟨i, hi⟩ := List.getElem?_of_mem (h9 d hd)
   obtain ⟨j, hj⟩ := List.getElem?_of_mem he
   have e1 : (es.toList.map (·.born))[i]? = (es.toList.map (·.born))[j]? := by rw [List.getElem?_map, List.getElem?_map, hi, hj]; simp [hde]
   have hlt : i < (es.toList.map (·.born)).length := by have := (List.getElem?_eq_some_iff.1 hi).1; simpa using this
   have := (List.getElem?_inj hlt h7).1 e1
   subst this
   rw [hi] at hj; cases hj; rfl
  have hk : y.1 = x.1 := hinj _ _ ((congrArg Prod.fst hye).trans (by rw [hborn]; exact congrArg Prod.fst hee))
  have hyl := h11 y hy
  have hxy : y = x := by
   have a1 : lookK y.1 l = some y.2 := (lookK_iff h6).2 hyl
   have a2 : lookK x.1 l = some x.2 := (lookK_iff h6).2 hx
   rw [hk, a2] at a1
   exact Prod.ext hk (by simpa using a1.symm)
  rw [← hxy]; exact hy
 ·right
  have he' : e ∈ es.toList ∧ e.born ∉ seen.toList := by
   unfold leftOf at he
   simpa using he
  have hm : (e.key, e.val) ∈ l.map (fun (p : K × V) => (ke p.1, ve p.2)) := h5 ▸ List.mem_map.2 ⟨e, he'.1, rfl⟩
  obtain ⟨⟨k, v⟩, hkl, hkv⟩ := List.mem_map.1 hm
  simp only [Prod.mk.injEq] at hkv
  obtain ⟨hk, hv⟩ := hkv
  have hnew : k ∉ done.map Prod.fst := by
   intro hmem
   obtain ⟨y, hy, rfl⟩ := List.mem_map.1 hmem
   have hyd : (ke y.1, ve y.2) ∈ ds.map (fun (e : MapEntry) => (e.key, e.val)) := h10 ▸ List.mem_map.2 ⟨y, hy, rfl⟩
   obtain ⟨d, hd, hde⟩ := List.mem_map.1 hyd
   have := keyuniq d (h9 d hd) e he'.1 ((congrArg Prod.fst hde).trans hk)
   subst this
   exact he'.2 (h8 ▸ List.mem_map.2 ⟨d, hd, rfl⟩)
  have hw1' : Chg [] w w1 := by rcases hw1 with rfl | rfl; exact Chg.refl _ _; exact Chg.drew _
  have hput : Chg [it] w1 (setBlock w1 it (.mapIter (some m) since (seen.push e.born) clk)) := Chg.put
  have hit1 := hw1'.obj (by simp) h1
  have hm1 := hw1'.obj (by simp) h3
  have hit2 : (setBlock w1 it (.mapIter (some m) since (seen.push e.born) clk)).heap[it]? = some (.mapIter (some m) since (seen.push e.born) clk) := (MapKept.heap_set hit1).1
  have hm2 := hput.obj (by simpa using Ne.symm hne) hm1
  refine ⟨k, v, _, hkl, hnew, by rw [hk, hv]; exact hrun, hw1'.nil.trans hput (fun _ h _ => h), ?_, ?_⟩
  ·refine ⟨es, clk, since, clk, seen.push e.born, ds ++ [e], hit2, h2', h2', hm2, h4, h5, h6, h7, by simp [h8], fun d hd => ?_, by simp [h10, hk, hv], fun x hx => ?_, ?_⟩
   ·rcases List.mem_append.1 hd with hd | hd
    ·exact h9 d hd
    ·simp at hd; rw [hd]; exact he'.1
   ·rcases List.mem_append.1 hx with hx | hx
    ·exact h11 x hx
    ·simp at hx; rw [hx]; exact hkl
   ·rw [List.map_append, List.nodup_append]
    refine ⟨h12, by simp, fun a ha b hb e => ?_⟩
    simp at hb; subst hb; subst e; exact hnew ha
  ·rw [hk, hv]
   exact run_entry_at _ it m since seen es clk e hit2 hm2 he'.1 h7
end
theorem nodup_sub_length {α : Type} : ∀ {a b : List α}, a.Nodup → (∀ x ∈ a, x ∈ b) → a.length ≤ b.length
 | [], _, _, _ => Nat.zero_le _
 | x :: a, b, h, hs => by
  obtain ⟨s, t, rfl⟩ := List.append_of_mem (hs x (.head _))
  have := nodup_sub_length (a := a) (b := s ++ t) (List.nodup_cons.1 h).2 (fun y hy => by
   have h1 := hs y (.tail _ hy)
   have hne : y ≠ x := fun e => (List.nodup_cons.1 h).1 (e ▸ hy)
   simp only [List.mem_append, List.mem_cons] at h1 ⊢
   rcases h1 with h1 | h1 | h1
   ·exact .inl h1
   ·exact absurd h1 hne
   ·exact .inr h1)
  simp at this ⊢; omega
def seenN (w : World) (it : Nat) : Nat := match w.heap[it]? with | some (.mapIter _ _ seen _) => seen.size | _ => 0
theorem IterAt.count {K V : Type} [DecidableEq K] {ke : K → Value} {ve : V → Value} {w : World} {it m : Nat} {l done : List (K × V)} (h : IterAt w it m ke ve l done) : seenN w it = done.length := by
 obtain ⟨es, clk, since, c0, seen, ds, h1, h2, h2', h3, h4, h5, h6, h7, h8, h9, h10, h11, h12⟩ := h
 unfold seenN
 rw [h1]
 have a := congrArg List.length h8
 have b := congrArg List.length h10
 simp at a b
 simp only []
 omega
theorem IterAt.more {K V : Type} [DecidableEq K] {ke : K → Value} {ve : V → Value} {w : World} {it m : Nat} {l done : List (K × V)} (h : IterAt w it m ke ve l done) {k : K} {v : V} (hk : (k, v) ∈ l) (hn : k ∉ done.map Prod.fst) : done.length < l.length := by
 obtain ⟨es, clk, since, c0, seen, ds, h1, h2, h2', h3, h4, h5, h6, h7, h8, h9, h10, h11, h12⟩ := h
 have := nodup_sub_length (a := k :: done.map Prod.fst) (b := l.map Prod.fst) (List.nodup_cons.2 ⟨hn, h12⟩) (fun x hx => by
  rcases List.mem_cons.1 hx with rfl | hx
  ·exact List.mem_map.2 ⟨_, hk, rfl⟩
  ·obtain ⟨y, hy, rfl⟩ := List.mem_map.1 hx
   exact List.mem_map.2 ⟨y, h11 y hy, rfl⟩)
 simp at this; omega
theorem IterAt.sub {K V : Type} [DecidableEq K] {ke : K → Value} {ve : V → Value} {w : World} {it m : Nat} {l done : List (K × V)} (h : IterAt w it m ke ve l done) : (∀ x ∈ done, x ∈ l) ∧ (done.map Prod.fst).Nodup ∧ (l.map Prod.fst).Nodup := by
 obtain ⟨es, clk, since, c0, seen, ds, h1, h2, h2', h3, h4, h5, h6, h7, h8, h9, h10, h11, h12⟩ := h
 exact ⟨h11, h12, h6⟩
theorem IterAt.end_look {K V : Type} [DecidableEq K] {ke : K → Value} {ve : V → Value} {w : World} {it m : Nat} {l done : List (K × V)} (h : IterAt w it m ke ve l done) (ha : ∀ x ∈ l, x ∈ done) (k : K) : lookK k done = lookK k l := by
 obtain ⟨h1, h2, h3⟩ := h.sub
 cases hd : lookK k done with
 | some v => exact ((lookK_iff h3).2 (h1 _ ((lookK_iff h2).1 hd))).symm
 | none =>
  cases hl : lookK k l with
  | none => rfl
  | some v => rw [(lookK_iff h2).2 (ha _ ((lookK_iff h3).1 hl))] at hd; cases hd
theorem mem_upd {K V : Type} [DecidableEq K] {k : K} {v : V} {l : List (K × V)} {x : K × V} (h : x ∈ upd k v l) : x = (k, v) ∨ x ∈ l := by
 unfold upd at h
 split at h
 ·obtain ⟨y, hy, e⟩ := List.mem_map.1 h
  split at e
  ·exact .inl e.symm
  ·exact .inr (e ▸ hy)
 ·rcases List.mem_append.1 h with h | h
  ·exact .inr h
  ·simp at h; exact .inl h
end Go.X
end
section
/- Boxes of a function's own, of which nobody else knows: what stands in them. -/
namespace Go.X
open Go Go.RowKit
structure Boxes (w : World) (l : List (Nat × List Value × TypeId)) : Prop where
 heap : ∀ x ∈ l, w.heap[x.1]? = some (.cells x.2.1.toArray x.2.2 (0, 0))
 nodup : (l.map (·.1)).Nodup
def Same (w w' : World) (l : List Nat) : Prop := ∀ b ∈ l, w'.heap[b]? = w.heap[b]?
theorem Same.of {f : List Nat} {w w' : World} {l : List Nat} (h : Chg f w w') (hl : ∀ b ∈ l, b < w.heap.size ∧ b ∉ f) : Same w w' l := fun b hb => h.block b (hl b hb).1 (hl b hb).2
theorem Same.chg {w w' : World} {l : List Nat} (h : Chg [] w w') (hl : ∀ b ∈ l, b < w.heap.size) : Same w w' l := Same.of h fun b hb => ⟨hl b hb, by simp⟩
theorem Same.refl (w : World) (l : List Nat) : Same w w l := fun _ _ => rfl
section
variable {w w' w1 w0 : World} {l l' : List (Nat × List Value × TypeId)} {b o i : Nat} {cs cs' vs : List Value} {T : TypeId} {v : Value} {M : List Nat} {x : Obj}
theorem Boxes.nil (w : World) : Boxes w [] := ⟨by simp, by simp⟩
theorem Boxes.at (h : Boxes w l) (hi : l[i]? = some (b, cs, T)) : w.heap[b]? = some (.cells cs.toArray T (0, 0)) := h.heap _ (List.mem_of_getElem? hi)
theorem Boxes.chg {f : List Nat} (h : Boxes w l) (hc : Chg f w w1) (hf : ∀ x ∈ l, x.1 ∉ f) : Boxes w1 l := ⟨fun x hx => hc.obj (hf x hx) (h.heap x hx), h.nodup⟩
theorem Boxes.grow (h : Boxes w l) (hw : w1 = World.alloc w x) : Boxes w1 l := h.chg (f := []) (by subst hw; exact Chg.alloc _ _) (by simp)
theorem Boxes.drew (h : Boxes w l) (hw : w1 = World.drew w) : Boxes w1 l := h.chg (f := []) (by subst hw; exact Chg.drew _) (by simp)
theorem Boxes.alloc (h : Boxes w l) (hb : b = World.size w) (hw : w1 = World.alloc w (.cells cs.toArray T)) : Boxes w1 ((b, cs, T) :: l) := by
 have h1 := h.grow hw
 refine ⟨fun y hy => ?_, ?_⟩
 ·rcases List.mem_cons.1 hy with rfl | hy
  ·subst hb hw; exact heap_new w _
  ·exact h1.heap y hy
 ·rw [List.map_cons, List.nodup_cons]
  refine ⟨fun hm => ?_, h.nodup⟩
  obtain ⟨y, hy, e⟩ := List.mem_map.1 hm
  have := lt_of_heap (h.heap y hy)
  subst hb
  change y.1 = w.heap.size at e
  omega
theorem Boxes.same (h : Boxes w l) (hs : Same w w1 (l.map (·.1))) : Boxes w1 l := ⟨fun x hx => (hs _ (List.mem_map.2 ⟨x, hx, rfl⟩)).trans (h.heap x hx), h.nodup⟩
theorem sel_nodup : ∀ (is : List Nat), is.Nodup → (l.map (·.1)).Nodup → ((is.filterMap (fun i => l[i]?)).map (·.1)).Nodup
 | [], _, _ => by simp
 | i :: is, hi, hl => by
  have ih := sel_nodup is (List.nodup_cons.1 hi).2 hl
  rw [List.filterMap_cons]
  cases hx : l[i]? with
  | none => exact ih
  | some x =>
   simp only [List.map_cons, List.nodup_cons]
   refine ⟨fun hm => ?_, ih⟩
   obtain ⟨y, hy, e⟩ := List.mem_map.1 hm
   obtain ⟨j, hj, hjy⟩ := List.mem_filterMap.1 hy
   have h1 : (l.map (·.1))[i]? = some x.1 := by simp [hx]
   have h2 : (l.map (·.1))[j]? = some x.1 := by simp [hjy, e]
   have hlt : i < (l.map (·.1)).length := (List.getElem?_eq_some_iff.1 h1).1
   have : i = j := (List.getElem?_inj hlt hl).1 (h1.trans h2.symm)
   subst this
   exact (List.nodup_cons.1 hi).1 hj
theorem Boxes.sel (h : Boxes w l) (is : List Nat) (hn : is.Nodup) (hl : is.filterMap (fun i => l[i]?) = l') : Boxes w l' := by
 subst hl
 refine ⟨fun x hx => ?_, sel_nodup is hn h.nodup⟩
 obtain ⟨j, _, hj⟩ := List.mem_filterMap.1 hx
 exact h.heap x (List.mem_of_getElem? hj)
theorem Boxes.put (h : Boxes w l) (hi : l[i]? = some (b, cs, T)) (hc : Chg [b] w w1) (hb : w1.heap[b]? = some (.cells cs'.toArray T (0, 0))) : Boxes w1 (l.set i (b, cs', T)) := by
 have hm : (l.set i (b, cs', T)).map (·.1) = l.map (·.1) := by
  rw [List.map_set]
  apply List.ext_getElem?
  intro j
  rw [List.getElem?_set]
  split
  ·rename_i e; subst e
   split
   ·simp [hi]
   ·rename_i hlt
    rw [List.getElem?_eq_none (by omega)]
  ·rfl
 refine ⟨fun x hx => ?_, by rw [hm]; exact h.nodup⟩
 obtain ⟨j, hj⟩ := List.getElem?_of_mem hx
 rw [List.getElem?_set] at hj
 split at hj
 ·split at hj
  ·cases hj; exact hb
  ·cases hj
 ·rename_i hne
  have hx' := h.heap x (List.mem_of_getElem? hj)
  refine hc.obj (fun hm => ?_) hx'
  simp at hm
  have h1 : (l.map (·.1))[j]? = some b := by simp [hj, hm]
  have h2 : (l.map (·.1))[i]? = some b := by simp [hi]
  have hlt : i < (l.map (·.1)).length := (List.getElem?_eq_some_iff.1 h2).1
  exact hne ((List.getElem?_inj hlt h.nodup).1 (h2.trans h1.symm))
theorem Boxes.store (h : Boxes w l) (hi : l[i]? = some (b, cs, T)) (hc : cs.take o ++ vs ++ cs.drop (o + vs.length) = cs') (hl : l.set i (b, cs', T) = l') (hle : Nat.ble (o + vs.length) cs.length = true) (hw : w1 = setCells w ⟨b, o, none⟩ 0 vs) : Boxes w1 l' := by
 subst hl hw hc
 have hle' := Nat.le_of_ble_eq_true hle
 refine h.put hi (Chg.setCells ⟨b, o, none⟩ vs 0 w) ?_
 have h1 := h.at hi
 have e : cs = cs.take o ++ (cs.drop o).take vs.length ++ cs.drop (o + vs.length) := by
  rw [← List.drop_drop, List.append_assoc, List.take_append_drop, List.take_append_drop]
 have ho : (cs.take o).length = o := by rw [List.length_take]; omega
 have := setCells_mid (w := w) (b := b) (t := T) (pre := cs.take o) (zs := (cs.drop o).take vs.length) (post := cs.drop (o + vs.length)) (vs := vs) (by rw [List.length_take, List.length_drop]; omega) (by rw [← e]; exact h1)
 rwa [ho] at this
theorem Boxes.store1 (h : Boxes w l) (hi : l[i]? = some (b, cs, T)) (hc : cs.take o ++ [v] ++ cs.drop (o + 1) = cs') (hl : l.set i (b, cs', T) = l') (hle : Nat.ble (o + 1) cs.length = true) (hw : w1 = World.setCell w ⟨b, o, none⟩ v) : Boxes w1 l' :=
 h.store (vs := [v]) hi hc hl hle (by rw [hw]; simp only [setCells, add_at, Nat.add_zero])
theorem box_cell {fr : Nat × Nat} (h : w.heap[b]? = some (.cells cs.toArray T fr)) (hv : cs[o]? = some v) : w.cell? ⟨b, o, none⟩ = some v := by
 rw [cell_of h]; simpa using hv
theorem box_cells {fr : Nat × Nat} (h : w.heap[b]? = some (.cells cs.toArray T fr)) (hv : (cs.drop o).take vs.length = vs) : CellsAt w ⟨b, o, none⟩ 0 vs := by
 have : ∀ (vs : List Value) (k : Nat), (∀ j v, vs[j]? = some v → cs[o + k + j]? = some v) → CellsAt w ⟨b, o, none⟩ k vs := by
  intro vs
  induction vs with
  | nil => intro k _; trivial
  | cons v vs ih =>
   intro k hk
   refine ⟨by rw [add_at]; exact box_cell h (by simpa using hk 0 v rfl), ih (k + 1) fun j u hj => ?_⟩
   have := hk (j + 1) u (by simpa using hj)
   rwa [show o + k + (j + 1) = o + (k + 1) + j by omega] at this
 refine this vs 0 fun j v hj => ?_
 rw [← hv, List.getElem?_take] at hj
 split at hj
 ·rw [List.getElem?_drop] at hj; simpa using hj
 ·cases hj
theorem sil_lo (h : Chg M w0 w) (hb : b = World.size w) : w0.heap.size ≤ b := by subst hb; exact h.size
theorem sil_alloc (h : Chg M w0 w) (hw : w1 = World.alloc w x) : Chg M w0 w1 := by subst hw; exact h.trans (g := []) (Chg.alloc _ _) (by simp)
theorem sil_drew (h : Chg M w0 w) (hw : w1 = World.drew w) : Chg M w0 w1 := by subst hw; exact h.trans (g := []) (Chg.drew _) (by simp)
theorem sil_cN {q : Addr} (hw : w1 = setCells w q 0 vs) : Chg [q.block] w w1 := by subst hw; exact Chg.setCells _ _ _ _
theorem sil_c1 {q : Addr} (hw : w1 = World.setCell w q v) : Chg [q.block] w w1 := by subst hw; exact Chg.setCell _ _ _
theorem sil_new (h : Chg M w0 w) (hc : Chg [b] w w1) (hb : w0.heap.size ≤ b) : Chg M w0 w1 := h.trans hc (fun i hi hlt => by simp at hi; omega)
theorem sil_more (h : Chg M w0 w) (hc : Chg [b] w w1) : Chg (M ++ [b]) w0 w1 := (h.mono (fun i hi _ => List.mem_append_left _ hi)).trans hc (fun i hi _ => by simp at hi; simp [hi])
theorem equalIn_map_nil {P : Program} (d : Nat) {t k e : TypeId} (m : Option Nat) (h : P.underlying t = some (.map k e)) (w : World) : (Op.equalIn (d + 1) t (.map m) (.map none)).run P w = .ok m.isNone w := by
 cases m <;> simp [Op.equalIn, run_underlying h]
theorem map_nil_eq {P : Program} {T : TypeId} {x y : Operand} (hT : (match P.underlying T with | some (.map _ _) => true | _ => false) = true) (m : Option Nat) (w : World) :
  ((do eqGuard .eql T x y (.map m) (.map none); binOp .eql T (.map m) (.map none) : Sem Value)).run P w = .ok (.bool (Option.isNone m)) w := by
 have h1 : (eqGuard .eql T x y (.map m) (.map none)).run P w = .ok () w := by simp [eqGuard]
 simp only [Sem.run_bind, h1, Result.andThen_ok]
 cases hu : P.underlying T with
 | none => rw [hu] at hT; cases hT
 | some u =>
  rw [hu] at hT
  cases u with
  | map k e =>
   simp only [binOp]
   have : (Op.equal T (.map m) (.map none)).run P w = .ok m.isNone w := by
    exact equalIn_map_nil 9999 m hu w
   simp [this]
  | _ => cases hT
theorem maxI {P : Program} (ts : Array TypeId) (T : TypeId) (k : IntKind) (x y : Int) (w : World) : (Builtin.max_ ts T #[.int k x, .int k y]).run P w = .ok (.int k (if x < y then y else x)) w := by
 simp [Builtin.max_, Builtin.max2]
end
section
variable {P : Program} {N : Nat} {D : List Deferred} {E : Env} {w w' : World} {d : Option Nat} {T : TypeId} {p : String} {af : Array Edge} {g : Option (Nat × Bool)} {S : World → Prop} {v : Value}
theorem Rd.makeInterface {t : TypeId} {x : Operand} {vx : Value} (hx : opd E x = some vx) (hr : ∀ w, (Instr.makeInterface t vx).run P w = .ok v w) : Rd P N D E ⟨d, .makeInterface t x, T, p, af, g⟩ v S := fun a ha w _ => by
 simp [execOp, ha.eval hx, hr]
theorem Rd.typeAssert {t u : TypeId} {ok : Bool} {x : Operand} {vx : Value} (hx : opd E x = some vx) (hr : ∀ w, (Instr.typeAssert vx t u ok).run P w = .ok v w) : Rd P N D E ⟨d, .typeAssert x t u ok, T, p, af, g⟩ v S := fun a ha w _ => by
 simp [execOp, ha.eval hx, hr]
theorem Vl.extern {f : Nat} {args : Array Operand} {ts : Array TypeId} {vs : List Value} (hx : opdL E args.toList = some vs) (hr : (callFunc f vs.toArray).run P w = .ok (.value v) w') :
  Vl P N D E ⟨d, .call ⟨.value (.func f), args, ts⟩, T, p, af, g⟩ w v w' := fun a ha => by
 have h1 : args.map a.eval = vs.toArray := opdL_map ha hx
 simp [execOp, resolve, Act.eval, Deferred.ofValue, invoke, h1, hr]
end
end Go.X
end
section
/- Ranges over functions: the engine's rules within a round; what an iterator does; the statement. -/
namespace Go.XR
open Go Go.X Go.RowKit
def FR (ro : Option Nat) : Fence := { Fence.wide with round := ro }
theorem FR.fn (ro : Option Nat) (f : FuncId) : (FR ro).fn f := trivial
theorem FR.callsIn {ro : Option Nat} {n : Nat} {P : Program} {f : FuncId} {args : Array Value} {w : World} {R : Ending → World → Prop} (h : Calls P f args w R) : CallsIn (FR ro) n P f args w R := callsIn_wide.2 h
def isDefer (o : Oper) : Bool := match o.op with | .defer _ => true | _ => false
theorem semAt_of {ro : Option Nat} {o : Oper} (h : isDefer o = false) (ρ : Operand → Value) : Oper.semAt ro ρ o = execOp ρ o :=
 Oper.semAt_eq ro ρ o fun c hc => by simp [isDefer, hc] at h
section
variable {ro : Option Nat} {P : Program} {N : Nat} {D : List Deferred} {Q : Exit → Act → World → Prop} {E : Env} {w w' : World}
def CW (ro : Option Nat) (P : Program) (N : Nat) (D : List Deferred) (c : Code) (Q : Exit → Act → World → Prop) (E : Env) (w : World) : Prop := ∀ a, Sat N D E a → c.wpIn (FR ro) 0 P Q a w
theorem CW.plain {c : Code} (h : X.CW P N D c Q E w) : CW none P N D c Q E w := fun a ha => wpIn_wide.2 (h a ha)
theorem _root_.Go.X.CW.plain' {c : Code} (h : X.CW P N D c Q E w) : CW none P N D c Q E w := fun a ha => wpIn_wide.2 (h a ha)
theorem CW.un {c : Code} (h : CW none P N D c Q E w) : X.CW P N D c Q E w := fun a ha => wpIn_wide.1 (h a ha)
theorem CW.sub {c : Code} {F : Env} (s : Sub E F) (h : CW ro P N D c Q E w) : CW ro P N D c Q F w := fun a ha => h a (ha.sub s)
theorem CW.seq {x y : Code} (h : CW ro P N D x (Exit.then (y.wpIn (FR ro) 0 P Q) Q) E w) : CW ro P N D (.seq x y) Q E w := fun a ha => wpIn_seq (h a ha)
theorem NW.then {y : Code} (h : CW ro P N D y Q E w) : NW N D (Exit.then (y.wpIn (FR ro) 0 P Q) Q) E w := fun a ha => h a ha
theorem CW.skip (h : NW N D Q E w) : CW ro P N D .skip Q E w := fun a ha => wpIn_skip (h a ha)
theorem CW.label {l : Nat} (h : NW N D Q E w) : CW ro P N D (.label l) Q E w := fun a ha => wpIn_label (h a ha)
theorem CW.cond {c : Operand} {x y : Code} {b : Bool} (hc : opd E c = some (.bool b)) (h1 : b = true → CW ro P N D x Q E w) (h2 : b = false → CW ro P N D y Q E w) : CW ro P N D (.cond c x y) Q E w :=
 fun a ha => wpIn_cond_split (ha.eval hc) (fun hb => h1 hb a ha) (fun hb => h2 hb a ha)
theorem CW.block {id : Nat} {c : Code} (h : CW ro P N D c (Exit.inBlock id Q) E w) : CW ro P N D (.block id c) Q E w := fun a ha => wpIn_block (h a ha)
theorem CW.exit {id : Nat} (h : XW N D id Q E w) : CW ro P N D (.exit id) Q E w := fun a ha => wpIn_exit (h a ha)
theorem CW.ret (h : RW N D Q E w) : CW ro P N D .ret Q E w := fun a ha => wpIn_ret (h a ha)
theorem CW.goto {l : Nat} (h : GW N D l Q E w) : CW ro P N D (.goto l) Q E w := fun a ha => wpIn_goto (h a ha)
theorem CW.cut {S : Type} {x y : Code} (Ek : S → Env) (I : S → World → Prop) (hk : ∀ s w, I s w → CW ro P N D y Q (Ek s) w)
  (h : CW ro P N D x (Exit.then (fun a w => ∃ s, Sat N D (Ek s) a ∧ I s w) Q) E w) : CW ro P N D (.seq x y) Q E w := fun a ha =>
 wpIn_seq (wpIn_mono (h a ha) fun e a' w' hq => by
  cases e with
  | normal => obtain ⟨s, hs, hI⟩ := hq; exact hk s w' hI a' hs
  | _ => exact hq)
theorem CW.loop {S : Type} {c : Code} (El : S → Env) (I : S → World → Prop) (μ : S → World → Nat) (s₀ : S) (hs : Sub (El s₀) E) (hI : I s₀ w)
  (round : ∀ s w, I s w → CW ro P N D c (Exit.then (fun a' w' => ∃ s', Sat N D (El s') a' ∧ (I s' w' ∧ μ s' w' < μ s w)) Q) (El s) w) : CW ro P N D (.loop c) Q E w := by
 intro a ha b k cs hro hb hr
 have key : ∀ j s a w, μ s w = j → Sat N D (El s) a → I s w →
   ∃ e a' w', Q e a' w' ∧ ArrivesIn (Machine.fenced P (FR ro)) P (lone (b.atR a (.code c :: .inLoop c :: k)) cs w) b k cs e a' w' := by
  intro j
  induction j using Nat.strongRecOn with
  | _ j ih =>
   intro s a w hn ha hI
   obtain ⟨e, a₁, w₁, hq, harr⟩ := round s w hI a ha b (.inLoop c :: k) cs hro hb hr
   cases e with
   | normal =>
    obtain ⟨s', hs', hI', hlt⟩ := hq
    obtain ⟨e₂, a₂, w₂, hq₂, harr₂⟩ := ih (μ s' w₁) (hn ▸ hlt) s' a₁ w₁ rfl hs' hI'
    exact ⟨e₂, a₂, w₂, hq₂, .of_steps (StepsIn.trans harr (.one (fenced_calm hb hr rfl) stepR_inLoop)) harr₂⟩
   | exit id => exact ⟨_, a₁, w₁, hq, .pass (x := .inLoop c) rfl (fun _ _ => .inl (by simp)) harr⟩
   | goto l => exact ⟨_, a₁, w₁, hq, .pass (x := .inLoop c) rfl (fun _ _ => .inl (by simp)) harr⟩
   | ret => exact ⟨_, a₁, w₁, hq, .pass (x := .inLoop c) rfl (fun _ _ => .inl (by simp)) harr⟩
   | panic ch => exact ⟨_, a₁, w₁, hq, .pass (x := .inLoop c) rfl (fun _ _ => .inl (by simp)) harr⟩
   | outgrown => exact ⟨_, a₁, w₁, hq, .pass (x := .inLoop c) rfl (fun _ _ => .inl (by simp)) harr⟩
 obtain ⟨e, a', w', hq, harr⟩ := key _ s₀ a w rfl (ha.sub hs) hI
 exact ⟨e, a', w', hq, .of_steps (.one (fenced_calm hb hr rfl) stepR_loop) harr⟩
end
/-! ### A region in the text's order -/
def CallsY (P : Program) (fv : Value) (args : Array Value) (w : World) (R : Ending → World → Prop) : Prop :=
 X.CallsV P fv args w R ∨ ∃ l, fv = .func (.yield l) #[] #[] ∧ YieldAt Fence.wide 0 P l args w R
theorem CallsY.mono {P : Program} {fv : Value} {args : Array Value} {w : World} {R R' : Ending → World → Prop} (h : CallsY P fv args w R) (k : ∀ e w', R e w' → R' e w') : CallsY P fv args w R' := by
 rcases h with ⟨f, cap, fn, h1, h2, h3, h4, h5⟩ | ⟨l, h1, fn, tmps, as', bd, h2, h3⟩
 ·exact .inl ⟨f, cap, fn, h1, h2, h3, h4, h5.mono k⟩
 ·exact .inr ⟨l, h1, fn, tmps, as', bd, h2, h3.mono k⟩
section
variable {ro : Option Nat} {P : Program} {N : Nat} {D : List Deferred} {ops : Array Oper} {Q : Exit → Act → World → Prop} {E : Env} {w w' : World} {L : Nat → Env → World → Prop} {i : Nat} {o : Oper} {v : Value}
def LW (ro : Option Nat) (P : Program) (N : Nat) (D : List Deferred) (ops : Array Oper) (Q : Exit → Act → World → Prop) (i : Nat) (E : Env) (w : World) : Prop :=
 ∀ a, Sat N D E a → wpListIn (FR ro) 0 P ops Q (ops.toList.drop i) a w
theorem CW.region {id : Nat} (h : ∀ L, L = LW ro P N D ops Q → L 0 E w) : CW ro P N D (.region id ops false) Q E w :=
 fun a ha => wpIn_region_list (by have := h _ rfl a ha; simpa using this)
theorem LW.step (hL : L = LW ro P N D ops Q) (ho : ops[i]? = some o) (hw : Wants N ops E o)
  (h : ∀ a, Sat N D E a → o.wpIn (FR ro) 0 P a w (wpListIn (FR ro) 0 P ops Q (ops.toList.drop (i + 1))) Q) : L i E w := by
 subst hL
 intro a ha
 rw [drop_at ho]
 unfold wpListIn
 rw [if_pos (hw _ _ ha)]
 exact h a ha
theorem LW.val (hL : L = LW ro P N D ops Q) (ho : ops[i]? = some o) (hw : Wants N ops E o) (hd : okd N o.dst = true)
  (hv : ∀ a, Sat N D E a → (execOp a.eval o).run P w = .ok (.value v) w') (k : L (i + 1) (putE o.dst v E) w') (hn : isDefer o = false := by rfl) : L i E w :=
 LW.step hL ho hw fun a ha => by
  refine ⟨fun _ _ => trivial, ?_⟩
  rw [semAt_of hn, hv a ha, Oper.uponIn_value]
  rw [hL] at k; exact k _ (ha.put hd)
theorem LW.rd (hL : L = LW ro P N D ops Q) (ho : ops[i]? = some o) (hw : Wants N ops E o) (hd : okd N o.dst = true)
  (hv : Rd P N D E o v (fun w' => w' = w)) (k : L (i + 1) (putE o.dst v E) w) (hn : isDefer o = false := by rfl) : L i E w := LW.val hL ho hw hd (fun a ha => hv a ha w rfl) k hn
theorem LW.eff (hL : L = LW ro P N D ops Q) (ho : ops[i]? = some o) (hw : Wants N ops E o) (hd : okd N o.dst = true)
  (hv : ∀ a, Sat N D E a → (execOp a.eval o).run P w = .ok .skip w') (k : L (i + 1) (putE o.dst undef E) w') (hn : isDefer o = false := by rfl) : L i E w :=
 LW.step hL ho hw fun a ha => by
  refine ⟨fun _ _ => trivial, ?_⟩
  rw [semAt_of hn, hv a ha, Oper.uponIn_skip]
  rw [hL] at k; exact k _ (ha.put hd)
theorem LW.call {f : Nat} {args : Array Value} {R : Ending → World → Prop} (hL : L = LW ro P N D ops Q) (ho : ops[i]? = some o) (hw : Wants N ops E o) (hd : okd N o.dst = true)
  (hv : ∀ a, Sat N D E a → (execOp a.eval o).run P w = .ok (.enter f args) w') (hc : Calls P f args w' R)
  (k : ∀ e w'', R e w'' → ∃ v, e = .returned v ∧ L (i + 1) (putE o.dst v E) w'') (hn : isDefer o = false := by rfl) : L i E w :=
 LW.step hL ho hw fun a ha => by
  refine ⟨fun _ _ => trivial, ?_⟩
  rw [semAt_of hn, hv a ha, Oper.uponIn_enter]
  refine ⟨fun h => (by cases h), FR.callsIn (hc.mono fun e w'' hR => ?_)⟩
  obtain ⟨v, rfl, hk⟩ := k e w'' hR
  rw [hL] at hk; exact hk _ (ha.put hd)
theorem LW.skip (hL : L = LW ro P N D ops Q) (ho : ops[i]? = some o) (hs : Skips N ops E o) (hd : okd N o.dst = true) (k : L (i + 1) (putE o.dst undef E) w) : L i E w := by
 subst hL
 intro a ha
 rw [drop_at ho]
 unfold wpListIn
 rw [if_neg (by rw [hs _ _ ha]; simp)]
 exact ⟨fun _ _ => trivial, k _ (ha.put hd)⟩
theorem LW.nil (hL : L = LW ro P N D ops Q) (hi : ops[i]? = none) (k : NW N D Q E w) : L i E w := by
 subst hL
 intro a ha
 have : ops.toList.drop i = [] := List.drop_eq_nil_of_le (by simpa using hi)
 rw [this]; exact k a ha
theorem LW.sub (hL : L = LW ro P N D ops Q) {F : Env} (s : Sub E F) (k : L i E w) : L i F w := by
 subst hL; exact fun a ha => k a (ha.sub s)
theorem LW.callY {x : Operand} {args : Array Operand} {ts : Array TypeId} {d : Option Nat} {T : TypeId} {p : String} {af : Array Edge} {gd : Option (Nat × Bool)} {fv : Value} {vs : List Value} {R : Ending → World → Prop}
  (hL : L = LW none P N D ops Q) (ho : ops[i]? = some ⟨d, .call ⟨.value x, args, ts⟩, T, p, af, gd⟩) (hw : Wants N ops E ⟨d, .call ⟨.value x, args, ts⟩, T, p, af, gd⟩) (hd : okd N d = true)
  (hx : opd E x = some fv) (ha' : opdL E args.toList = some vs) (hc : CallsY P fv vs.toArray w R)
  (k : ∀ e w'', R e w'' → ∃ v, e = .returned v ∧ L (i + 1) (putE d v E) w'') : L i E w := by
 rcases hc with ⟨f, cap, fn, rfl, h2, h3, h4, h5⟩ | ⟨l, rfl, fn, tmps, as', bd, h2, h3⟩
 ·exact LW.call hL ho hw hd (Cl.fv hx ha' h2 h3 h4) h5 k
 ·refine LW.step hL ho hw fun a ha => ⟨fun _ _ => trivial, ?_⟩
  have e1 : (execOp a.eval ⟨d, .call ⟨.value x, args, ts⟩, T, p, af, gd⟩).run P w = .ok (.round l fn tmps as' bd) w := by
   have e2 : args.map a.eval = vs.toArray := opdL_map ha ha'
   simp [execOp, resolve, ha.eval hx, Deferred.ofValue, invoke, e2, h2]
  rw [semAt_of rfl, e1, Oper.uponIn_round]
  refine ⟨fun h => (by cases h), h3.mono fun e w'' hR => ?_⟩
  obtain ⟨v, rfl, hk⟩ := k e w'' hR
  rw [hL] at hk; exact hk _ (ha.put hd)
end
/-! ### Iterators, and the statement -/
def InO (w0 : World) (O : List Nat) (W : World) : Prop := ∀ i ∈ O, w0.heap.size ≤ i ∧ i < W.heap.size
def Stab (w0 : World) (I : List Nat → World → Prop) : Prop := ∀ O O' W W', I O W → InO w0 O W → Chg O W W' → InO w0 O' W' → (∀ i ∈ O', i ∈ O ∨ W.heap.size ≤ i) → I O' W'
def Iterates {α : Type} (P : Program) (fv : Value) (enc : α → Array Value) (S Sp : List α → Prop) (keep : List Nat) (w : World) : Prop :=
 ∀ (W : World) (yv : Value) (I Ix : List Nat → List α → World → Prop), Chg [] w W → (∀ pre, Stab W (fun O => I O pre)) → (∀ pre, Stab W (fun O => Ix O pre)) → I [] [] W →
  (∀ Own pre x W1, InO W Own W1 → Sp (pre ++ [x]) → I Own pre W1 → CallsY P yv (enc x) W1 fun e W' => W1.heap.size ≤ W'.heap.size ∧
   ((e = .returned (.bool true) ∧ I Own (pre ++ [x]) W' ∧ Same W1 W' (keep ++ Own)) ∨ (e = .returned (.bool false) ∧ Ix Own (pre ++ [x]) W'))) →
  X.CallsV P fv #[yv] W fun e W' => (∃ v, e = .returned v) ∧ ∃ Own, InO W Own W' ∧ ((∃ xs, S xs ∧ I Own xs W') ∨ ∃ pre, Sp pre ∧ Ix Own pre W')
def envPs : List Tmp → List Value → Env → Env
 | p :: ps, v :: vs, E => envPs ps vs ((p, v) :: E)
 | _, _, E => E
theorem sat_ps {N : Nat} : ∀ (ps : List Tmp) (vs : List Value) (E : Env) (tmps : Array Value), (∀ p ∈ ps, Nat.blt p N = true) → Sat N [] E { tmps := tmps, defers := [] } →
  Sat N [] (envPs ps vs E) { tmps := (ps.zip vs).foldl (fun t (p, v) => t.setIfInBounds p v) tmps, defers := [] }
 | [], _, E, tmps, _, h => by simpa [envPs] using h
 | p :: ps, [], E, tmps, _, h => by simpa [envPs] using h
 | p :: ps, v :: vs, E, tmps, hp, h => by
  have h1 : Sat N [] ((p, v) :: E) { tmps := tmps.setIfInBounds p v, defers := [] } := by
   have := h.put (d := some p) (v := v) (by simpa [okd] using hp p (.head _))
   simpa [putE, Act.put] using this
  simpa [envPs] using sat_ps ps vs ((p, v) :: E) _ (fun q hq => hp q (.tail _ hq)) h1
theorem Chg.putObj {w : World} {l : Nat} (o : Obj) : Chg [l] w (w.putObj l o) := Chg.put
section
variable {P : Program} {N : Nat} {D : List Deferred} {Q : Exit → Act → World → Prop} {E : Env} {w : World} {α : Type}
def EndQ (keep O : List Nat) (I : List Nat → List α → World → Prop) (Ix : Code → List Nat → List α → World → Prop) (pre : List α) (W₂ : World) : Exit → Act → World → Prop
 | .normal, _, W' => W₂.heap.size ≤ W'.heap.size ∧ I O pre W' ∧ Same W₂ W' (keep ++ O)
 | .ret, _, W' => W₂.heap.size ≤ W'.heap.size ∧ Ix .ret O pre W' ∧ Same W₂ W' (keep ++ O)
 | .exit id, _, W' => W₂.heap.size ≤ W'.heap.size ∧ Ix (.exit id) O pre W' ∧ Same W₂ W' (keep ++ O)
 | .goto t, _, W' => W₂.heap.size ≤ W'.heap.size ∧ Ix (.goto t) O pre W' ∧ Same W₂ W' (keep ++ O)
 | .panic _, _, _ => False
 | .outgrown, _, _ => False
def BeginK (P : Program) (l : Nat) (keep O : List Nat) (I : List Nat → List α → World → Prop) (Ix : Code → List Nat → List α → World → Prop) (pre : List α) (x : α) (body : Code) (W : World) (a₁ : Act) (W₁ : World) : Prop :=
 Chg [] W W₁ ∧ ∀ W₂, Chg [l] W₁ W₂ → InO W O W₂ ∨ True → (∃ r, W₁.heap[l]? = some (.loop r)) → I O pre W₂ → body.wpIn (FR (some l)) 0 P (EndQ keep O I Ix (pre ++ [x]) W₂) a₁ W₂
def mk (d : Nat) : Deferred := { target := .collected d, args := #[] }
theorem CW.rangeFunc {g : Operand} {ps : Array Tmp} {assign body : Code} {gf : Nat} {fn : Func} {lb : Array Value} (hg : opd E g = some (.func (.func gf) #[] lb)) (hgf : P.funcs[gf]? = some fn) (hgn : (fn.name == "runtime.NumGoroutine") = false) (hgb : fn.body.isNone = false)
  {enc : α → Array Value} (hps : ∀ x, (enc x).size = ps.size) (hpN : ∀ p ∈ ps.toList, Nat.blt p N = true) {S Sp : List α → Prop} {keep : List Nat} (hseq : Iterates P (.func (.func gf) #[] lb) enc S Sp keep w)
  (I : List Nat → List α → World → Prop) (Ix : Code → List Nat → List α → World → Prop) (hI : ∀ pre, Stab w (fun O => I O pre)) (hIx : ∀ c pre, Stab w (fun O => Ix c O pre))
  (h0 : ∀ O W, Chg [] w W → InO w O W → I O [] W) (hkeep : ∀ i ∈ keep, i < w.heap.size)
  (hround : ∀ (l : Nat) (O : List Nat) (pre : List α) (x : α) (W : World), InO w O W → l ∈ O → Sp (pre ++ [x]) → I O pre W →
   CW (some l) P N [] assign (Exit.then (BeginK P l keep O I Ix pre x body W) (fun _ _ _ => False)) (envPs ps.toList (enc x).toList E) W)
  (hdone : ∀ (d : Nat) (O : List Nat) (xs : List α) (W : World), InO w O W → d ∈ O → W.heap[d]? = some (.deferred (some [])) → S xs → I O xs W → NW N (mk d :: D) Q E W)
  (hstop : ∀ (d : Nat) (c : Code) (O : List Nat) (pre : List α) (W : World), InO w O W → d ∈ O → W.heap[d]? = some (.deferred (some [])) → Sp pre → Ix c O pre W → CW none P N (mk d :: D) c Q E W) :
  CW none P N D (.rangeFunc g ps assign body) Q E w := by
 intro a ha
 refine wpIn_rangeFunc ?_
 intro fnc hfn
 have hro : (FR none).round = none := rfl
 rw [hro]
 obtain ⟨rec, hrec⟩ : ∃ rec : LoopState → Option Code → Loop, rec = fun st pe => { state := st, pending := pe, fn := fnc, tmps := a.tmps, params := ps, assign, body, defers := w.heap.size } := ⟨_, rfl⟩
 obtain ⟨W1, hW1⟩ : ∃ W1, (w.alloc (.deferred (some []))).alloc (.loop (rec .ready none)) = W1 := ⟨_, rfl⟩
 have hL1 : W1.heap[w.heap.size + 1]? = some (.loop (rec .ready none)) := by
  rw [← hW1]; have := World.alloc_heap_new (w.alloc (.deferred (some []))) (.loop (rec .ready none)); rwa [World.size_alloc] at this
 have hK1 : W1.heap[w.heap.size]? = some (.deferred (some [])) := by
  rw [← hW1]; exact (Below.heap_alloc _ _ _ (by simp)).trans (World.alloc_heap_new w _)
 have c1 : Chg [] w W1 := by rw [← hW1]; exact (Chg.alloc _ _).trans0 (Chg.alloc _ _)
 have hs1 : W1.heap.size = w.heap.size + 2 := by rw [← hW1]; simp
 generalize hl : w.heap.size + 1 = l at hL1
 have hsat0 : Sat N [] E { tmps := a.tmps, defers := [] } := ⟨ha.size, rfl, ha.get⟩
 refine ⟨l, [mk w.heap.size], W1, { target := .fn (.func gf) lb, args := #[.func (.yield l) #[] #[]] }, W1, gf, #[.func (.yield l) #[] #[]] ++ lb, W1, ?_, ?_, ?_, ?_, fun h => (by cases h), ?_⟩
 ·rw [← hW1, hrec, ← hl]; exact run_enterLoop_outer _ _ _ _ _
 ·simp only [resolve, ha.eval hg]
  simp [go_sem]
 ·intro f' hf'; trivial
 ·simp [invoke, go_sem, run_call hgf hgn hgb]
 refine FR.callsIn ?_
 have hOK : ∀ (A B : World) (Own Own' : List Nat), InO W1 Own A → InO W1 Own' B → (∀ i ∈ Own', i ∈ Own ∨ A.heap.size ≤ i) → Chg Own A B → W1.heap.size ≤ A.heap.size →
   InO w (Own ++ [l, w.heap.size]) A ∧ InO w (Own' ++ [l, w.heap.size]) B ∧ (∀ i ∈ Own' ++ [l, w.heap.size], i ∈ Own ++ [l, w.heap.size] ∨ A.heap.size ≤ i) ∧ Chg (Own ++ [l, w.heap.size]) A B ∧ l ∉ Own ∧ w.heap.size ∉ Own := by
  intro A B Own Own' h1 h2 h3 h4 h5
  have h6 := h4.size
  refine ⟨fun i hi => ?_, fun i hi => ?_, fun i hi => ?_, h4.mono (fun i hi _ => List.mem_append_left _ hi), fun hm => ?_, fun hm => ?_⟩
  ·rcases List.mem_append.1 hi with hi | hi
   ·have := h1 i hi; omega
   ·simp at hi; omega
  ·rcases List.mem_append.1 hi with hi | hi
   ·have := h2 i hi; omega
   ·simp at hi; omega
  ·rcases List.mem_append.1 hi with hi | hi
   ·exact (h3 i hi).imp (List.mem_append_left _) id
   ·exact .inl (List.mem_append_right _ hi)
  ·have := h1 _ hm; omega
  ·have := h1 _ hm; omega
 have hit := hseq W1 (.func (.yield l) #[] #[])
  (fun Own pre W => I (Own ++ [l, w.heap.size]) pre W ∧ W1.heap.size ≤ W.heap.size ∧ W.heap[l]? = some (.loop (rec .ready none)) ∧ W.heap[w.heap.size]? = some (.deferred (some [])))
  (fun Own pre W => ∃ c, Ix c (Own ++ [l, w.heap.size]) pre W ∧ W1.heap.size ≤ W.heap.size ∧ W.heap[l]? = some (.loop (rec .done (some c))) ∧ W.heap[w.heap.size]? = some (.deferred (some [])))
  c1
  (fun pre Own Own' A B h hO hc hO' hg => by
   obtain ⟨k1, k2, k3, k4, k5, k6⟩ := hOK A B Own Own' hO hO' hg hc h.2.1
   exact ⟨hI pre _ _ A B h.1 k1 k4 k2 k3, by have := hc.size; have := h.2.1; omega, hc.obj k5 h.2.2.1, hc.obj k6 h.2.2.2⟩)
  (fun pre Own Own' A B h hO hc hO' hg => by
   obtain ⟨c, h1, h2, h3, h4⟩ := h
   obtain ⟨k1, k2, k3, k4, k5, k6⟩ := hOK A B Own Own' hO hO' hg hc h2
   exact ⟨c, hIx c pre _ _ A B h1 k1 k4 k2 k3, by have := hc.size; omega, hc.obj k5 h3, hc.obj k6 h4⟩)
  ⟨h0 _ W1 c1 (fun i hi => by simp at hi; omega), Nat.le_refl _, hL1, hK1⟩ ?_
 ·obtain ⟨f', cap', fn', he, hf', hn', hb', hcalls⟩ := hit
  cases he
  refine hcalls.mono ?_
  rintro e W' ⟨⟨v, rfl⟩, Own, hOwn, hres⟩
  have hsz : ∀ {A : World} (o : Obj), (A.putObj l o).heap.size = A.heap.size := fun o => by simp [World.putObj]
  have hInO : ∀ {A : World}, W1.heap.size ≤ A.heap.size → InO W1 Own A → InO w (Own ++ [l, w.heap.size]) A := fun h1 h2 i hi => by
   rcases List.mem_append.1 hi with hi | hi
   ·have := h2 i hi; omega
   ·simp at hi; omega
  have hput : ∀ {A : World} (o : Obj) (J : List Nat → World → Prop), Stab w J → W1.heap.size ≤ A.heap.size → InO W1 Own A → J (Own ++ [l, w.heap.size]) A → J (Own ++ [l, w.heap.size]) (A.putObj l o) := fun o J hJ h1 h2 hj =>
   hJ _ _ _ _ hj (hInO h1 h2) ((Chg.putObj o).mono (fun i hi _ => by simp at hi; simp [hi])) (by
    have := hInO h1 h2
    intro i hi; rw [hsz]; exact this i hi) (fun i hi => .inl hi)
  rcases hres with ⟨xs, hS, hi, hle, hlp, hk⟩ | ⟨pre, hSp, c, hi, hle, hlp, hk⟩
  ·refine ⟨none, _, by have := run_endLoop (P := P) hlp (by rw [hrec]; simp); rw [hrec] at this; exact this, ?_⟩
   have hA : Sat N (mk w.heap.size :: D) E { a with defers := [mk w.heap.size] ++ a.defers } := ⟨ha.size, by simp [ha.defers], ha.get⟩
   exact hdone w.heap.size (Own ++ [l, w.heap.size]) xs _ (fun i hi' => by rw [hsz]; exact hInO hle hOwn i hi') (by simp) ((World.putObj_heap_other (by omega)).trans hk) hS (hput _ (fun O => I O xs) (hI xs) hle hOwn hi) _ hA
  ·refine ⟨some c, _, by have := run_endLoop (P := P) hlp (by rw [hrec]; simp); rw [hrec] at this; exact this, ?_⟩
   have hA : Sat N (mk w.heap.size :: D) E { a with defers := [mk w.heap.size] ++ a.defers } := ⟨ha.size, by simp [ha.defers], ha.get⟩
   exact hstop w.heap.size c (Own ++ [l, w.heap.size]) pre _ (fun i hi' => by rw [hsz]; exact hInO hle hOwn i hi') (by simp) ((World.putObj_heap_other (by omega)).trans hk) hSp (hput _ (fun O => Ix c O pre) (hIx c pre) hle hOwn hi) _ hA
 ·rintro Own pre x W hOwn hSp ⟨hI0, hle, hlp, hk⟩
  have hlt : l < W.heap.size := lt_of_heap hlp
  have hy := run_yield (P := P) (args := enc x) hlp (by rw [hrec]; exact hps x)
  rw [hrec] at hy
  have hInO : InO w (Own ++ [l, w.heap.size]) W := fun i hi => by
   rcases List.mem_append.1 hi with hi | hi
   ·have := hOwn i hi; omega
   ·simp at hi; omega
  have hrd := hround l (Own ++ [l, w.heap.size]) pre x W hInO (by simp) hSp hI0
  have hsat := sat_ps ps.toList (enc x).toList E a.tmps hpN hsat0
  have hr2 := hrd _ hsat
  have htm : (ps.zip (enc x)).foldl (fun t (p, v) => t.setIfInBounds p v) a.tmps = (ps.toList.zip (enc x).toList).foldl (fun t (p, v) => t.setIfInBounds p v) a.tmps := by
   rw [← Array.foldl_toList, Array.toList_zip]
  refine .inr ⟨l, rfl, fnc, _, assign, body, hy, ?_⟩
  rw [htm]
  refine roundIn_of_wpIn (F := Fence.wide) trivial ?_
  refine wpIn_mono hr2 ?_
  intro e a₁ W₁ hq
  cases e with
  | normal =>
   obtain ⟨hc1, hbody⟩ := hq
   have hl1 := hc1.obj (by simp) hlp
   have hk1 := hc1.obj (by simp) hk
   have hW2 := run_beginRound (P := P) hl1 (by rw [hrec])
   refine ⟨_, hW2, ?_⟩
   generalize hW2e : W₁.putObj l (.loop { rec .ready none with state := .busy }) = W₂ at hW2
   have c2 : Chg [l] W₁ W₂ := by rw [← hW2e]; exact Chg.putObj _
   have hl2 : W₂.heap[l]? = some (.loop { rec .ready none with state := .busy }) := by rw [← hW2e]; exact World.putObj_heap_same (lt_of_heap hl1)
   have hk2 : W₂.heap[w.heap.size]? = some (.deferred (some [])) := by rw [← hW2e]; exact (World.putObj_heap_other (by omega)).trans hk1
   have hs12 := hc1.size
   have hs22 := c2.size
   have hInO2 : InO w (Own ++ [l, w.heap.size]) W₂ := fun i hi => by have := hInO i hi; omega
   have hI2 : I (Own ++ [l, w.heap.size]) pre W₂ := by
    have h1 := hI pre _ (Own ++ [l, w.heap.size]) W W₁ hI0 hInO (hc1.mono (by simp)) (fun i hi => by have := hInO i hi; omega) (fun i hi => .inl hi)
    exact hI pre _ (Own ++ [l, w.heap.size]) W₁ W₂ h1 (fun i hi => by have := hInO i hi; omega) (c2.mono (fun i hi _ => by simp at hi; simp [hi])) hInO2 (fun i hi => .inl hi)
   have hb := hbody W₂ c2 (.inr trivial) ⟨_, hl1⟩ hI2
   refine wpIn_mono hb ?_
   have hsz : ∀ {A : World} (o : Obj), (A.putObj l o).heap.size = A.heap.size := fun o => by simp [World.putObj]
   have hput : ∀ {A : World} (o : Obj) (J : List Nat → World → Prop), Stab w J → W₂.heap.size ≤ A.heap.size → J (Own ++ [l, w.heap.size]) A → J (Own ++ [l, w.heap.size]) (A.putObj l o) := fun {A} o J hJ hle hj => by
    have hin : InO w (Own ++ [l, w.heap.size]) A := fun i hi => by have := hInO2 i hi; omega
    exact hJ _ _ _ _ hj hin ((Chg.putObj o).mono (fun i hi _ => by simp at hi; simp [hi])) (fun i hi => by rw [hsz]; exact hin i hi) (fun i hi => .inl hi)
   have hsame : ∀ {A : World} (o : Obj), Same W₂ A (keep ++ (Own ++ [l, w.heap.size])) → Same W (A.putObj l o) (keep ++ Own) := fun {A} o hs i hi => by
    have hne : i ≠ l := fun e => by
     subst e
     rcases List.mem_append.1 hi with h | h
     ·have := hkeep _ h; omega
     ·have := hOwn _ h; omega
    have hiW : i < W.heap.size := by
     rcases List.mem_append.1 hi with h | h
     ·have := hkeep _ h; have := c1.size; omega
     ·exact (hOwn _ h).2
    rw [World.putObj_heap_other hne, hs i (by
     rcases List.mem_append.1 hi with h | h
     ·exact List.mem_append_left _ h
     ·exact List.mem_append_right _ (List.mem_append_left _ h)), c2.block i (by omega) (by simpa using hne), hc1.block i hiW (by simp)]
   have fin : ∀ (jump : Option Code) (A : World), Same W₂ A (keep ++ (Own ++ [l, w.heap.size])) →
     (Instr.endRound l jump).run P A = .ok (.bool jump.isNone) (A.putObj l (.loop (rec (if jump.isNone then .ready else .done) jump))) ∧ (A.putObj l (.loop (rec (if jump.isNone then .ready else .done) jump))).heap[l]? = some (.loop (rec (if jump.isNone then .ready else .done) jump)) ∧
     (A.putObj l (.loop (rec (if jump.isNone then .ready else .done) jump))).heap[w.heap.size]? = some (.deferred (some [])) := fun jump A hs => by
    have hlA : A.heap[l]? = some (.loop { rec .ready none with state := .busy }) := (hs l (by simp)).trans hl2
    have hkA : A.heap[w.heap.size]? = some (.deferred (some [])) := (hs w.heap.size (by simp)).trans hk2
    have := run_endRound (P := P) jump hlA
    rw [hrec] at this ⊢
    exact ⟨this, World.putObj_heap_same (lt_of_heap hlA), (World.putObj_heap_other (by omega)).trans hkA⟩
   intro e a₃ A hp
   cases e with
   | normal =>
    obtain ⟨hle3, hi3, hs3⟩ := hp
    obtain ⟨f1, f2, f3⟩ := fin none A hs3
    exact ⟨_, _, f1, by rw [hsz]; omega, .inl ⟨rfl, ⟨hput _ (fun O => I O (pre ++ [x])) (hI _) hle3 hi3, by rw [hsz]; omega, f2, f3⟩, hsame _ hs3⟩⟩
   | ret =>
    obtain ⟨hle3, hi3, hs3⟩ := hp
    obtain ⟨f1, f2, f3⟩ := fin (some .ret) A hs3
    exact ⟨_, _, f1, by rw [hsz]; omega, .inr ⟨rfl, .ret, hput _ (fun O => Ix .ret O (pre ++ [x])) (hIx _ _) hle3 hi3, by rw [hsz]; omega, f2, f3⟩⟩
   | exit id =>
    obtain ⟨hle3, hi3, hs3⟩ := hp
    obtain ⟨f1, f2, f3⟩ := fin (some (.exit id)) A hs3
    exact ⟨_, _, f1, by rw [hsz]; omega, .inr ⟨rfl, .exit id, hput _ (fun O => Ix (.exit id) O (pre ++ [x])) (hIx _ _) hle3 hi3, by rw [hsz]; omega, f2, f3⟩⟩
   | goto t =>
    obtain ⟨hle3, hi3, hs3⟩ := hp
    obtain ⟨f1, f2, f3⟩ := fin (some (.goto t)) A hs3
    exact ⟨_, _, f1, by rw [hsz]; omega, .inr ⟨rfl, .goto t, hput _ (fun O => Ix (.goto t) O (pre ++ [x])) (hIx _ _) hle3 hi3, by rw [hsz]; omega, f2, f3⟩⟩
   | panic ch => exact hp.elim
   | outgrown => exact hp.elim
  | exit id => exact hq.elim
  | goto t => exact hq.elim
  | ret => exact hq.elim
  | panic ch => exact hq.elim
  | outgrown => exact hq.elim
theorem NW.begin {l : Nat} {keep O : List Nat} {I : List Nat → List α → World → Prop} {Ix : Code → List Nat → List α → World → Prop} {pre : List α} {x : α} {body : Code} {W W₁ : World} {Q' : Exit → Act → World → Prop}
  (hc : Chg [] W W₁) (h : ∀ W₂, Chg [l] W₁ W₂ → (∃ r, W₁.heap[l]? = some (.loop r)) → I O pre W₂ → CW (some l) P N [] body (EndQ keep O I Ix (pre ++ [x]) W₂) E W₂) :
  NW N [] (Exit.then (BeginK P l keep O I Ix pre x body W) Q') E W₁ := fun a ha => ⟨hc, fun W₂ c _ hl hi => h W₂ c hl hi a ha⟩
def IsFn (P : Program) (fv : Value) : Prop := ∃ gf fn lb, fv = .func (.func gf) #[] lb ∧ P.funcs[gf]? = some fn ∧ (fn.name == "runtime.NumGoroutine") = false ∧ fn.body.isNone = false
theorem CW.rangeV {g : Operand} {ps : Array Tmp} {assign body : Code} {fv : Value} (hg : opd E g = some fv) (hf : IsFn P fv)
  {enc : α → Array Value} (hps : ∀ x, (enc x).size = ps.size) (hpN : ∀ p ∈ ps.toList, Nat.blt p N = true) {S Sp : List α → Prop} {keep : List Nat} (hseq : Iterates P fv enc S Sp keep w)
  (I : List Nat → List α → World → Prop) (Ix : Code → List Nat → List α → World → Prop) (hI : ∀ pre, Stab w (fun O => I O pre)) (hIx : ∀ c pre, Stab w (fun O => Ix c O pre))
  (h0 : ∀ O W, Chg [] w W → InO w O W → I O [] W) (hkeep : ∀ i ∈ keep, i < w.heap.size)
  (hround : ∀ (l : Nat) (O : List Nat) (pre : List α) (x : α) (W : World), InO w O W → l ∈ O → Sp (pre ++ [x]) → I O pre W →
   CW (some l) P N [] assign (Exit.then (BeginK P l keep O I Ix pre x body W) (fun _ _ _ => False)) (envPs ps.toList (enc x).toList E) W)
  (hdone : ∀ (d : Nat) (O : List Nat) (xs : List α) (W : World), InO w O W → d ∈ O → W.heap[d]? = some (.deferred (some [])) → S xs → I O xs W → NW N (mk d :: D) Q E W)
  (hstop : ∀ (d : Nat) (c : Code) (O : List Nat) (pre : List α) (W : World), InO w O W → d ∈ O → W.heap[d]? = some (.deferred (some [])) → Sp pre → Ix c O pre W → X.CW P N (mk d :: D) c Q E W) :
  X.CW P N D (.rangeFunc g ps assign body) Q E w := by
 obtain ⟨gf, fn, lb, rfl, h1, h2, h3⟩ := hf
 exact (CW.rangeFunc hg h1 h2 h3 hps hpN hseq I Ix hI hIx h0 hkeep hround hdone (fun d c O pre W a b e f g' => (hstop d c O pre W a b e f g').plain')).un
theorem _root_.Go.X.Boxes.stab {w A B : World} {l l0 : List (Nat × List Value × TypeId)} {O : List Nat} (h : Boxes A l) (h0 : Boxes w l0) (hn : l.map (·.1) = l0.map (·.1)) (hO : InO w O A) (hc : Chg O A B) : Boxes B l :=
 h.chg hc fun x hx hm => by
  have h1 := (hO _ hm).1
  have : x.1 ∈ l0.map (·.1) := hn ▸ List.mem_map.2 ⟨x, hx, rfl⟩
  obtain ⟨y, hy, e⟩ := List.mem_map.1 this
  have := lt_of_heap (h0.heap y hy)
  omega
theorem _root_.Go.X.Boxes.notloop {A B : World} {l : Nat} {bs : List (Nat × List Value × TypeId)} (h : Boxes A bs) (hl : ∃ r, A.heap[l]? = some (.loop r)) (hc : Chg [l] A B) : Boxes B bs :=
 h.chg hc fun x hx hm => by
  simp at hm
  obtain ⟨r, hr⟩ := hl
  have := h.heap x hx
  rw [hm, hr] at this; cases this
theorem _root_.Go.X.Boxes.sameS {w w1 : World} {l : List (Nat × List Value × TypeId)} {ns : List Nat} (h : Boxes w l) (hs : Same w w1 ns) (hl : ∀ x ∈ l, x.1 ∈ ns) : Boxes w1 l := ⟨fun x hx => (hs _ (hl x hx)).trans (h.heap x hx), h.nodup⟩
/-! ### A function with such a statement -/
def Marks (w : World) (ms : List Nat) : Prop := ms.Nodup ∧ ∀ m ∈ ms, w.heap[m]? = some (.deferred (some []))
theorem enterM {f : Nat} {fn : Func} {c : Code} {args : Array Value} {R : Ending → World → Prop} (hf : P.funcs[f]? = some fn) (hb : fn.body = some c) (hN : fn.ntmps = N)
  (h : X.CW P N [] c (bodyPostM Fence.wide 0 P fn R) (envOf 0 args.toList) w) : Calls P f args w R := by
 refine callsIn_wide.1 (callsIn_of_wp_marks (n := 0) hf hb trivial (wpIn_wide.2 (h _ ⟨?_, rfl, fun t v hg => ?_⟩)))
 ·rw [← hN]; simp; omega
 ·obtain ⟨_, h2⟩ := envOf_get _ _ _ _ hg
  have h3 : args[t]? = some v := by simpa using h2
  obtain ⟨hlt, h4⟩ := Array.getElem?_eq_some_iff.1 h3
  show (args ++ _).getD t undef = v
  simp [Array.getElem?_append_left hlt, h3]
theorem leavesM {fn : Func} {tmps : Array Value} {R : Ending → World → Prop} : ∀ (ms : List Nat) (w : World), Marks w ms → (∀ w', Chg ms w w' → ∃ v, (results fn tmps).run P w' = .ok v w' ∧ R (.returned v) w') →
  LeavesInM Fence.wide 0 P fn tmps R (ms.map mk) .returning w
 | [], w, _, h => by
  obtain ⟨v, h1, h2⟩ := h w (Chg.refl _ _)
  exact ⟨v, h1, h2⟩
 | m :: ms, w, hm, h => by
  obtain ⟨hnd, hall⟩ := hm
  have h1 := hall m (.head _)
  refine ⟨by simp, .inl ⟨m, _, rfl, run_takeDeferred h1, leavesM ms _ ⟨(List.nodup_cons.1 hnd).2, fun k hk => ?_⟩ fun w' hc => h w' ?_⟩⟩
  ·have hne : k ≠ m := fun e => (List.nodup_cons.1 hnd).1 (e ▸ hk)
   exact (World.putObj_heap_other hne).trans (hall k (.tail _ hk))
  ·exact ((Chg.putObj _).mono (fun i hi _ => by simp at hi; simp [hi])).trans hc (fun i hi _ => List.mem_cons_of_mem _ hi)
theorem resM {fn : Func} {R : Ending → World → Prop} {ms : List Nat} {vs : List Value} {x : Value} (hm : Marks w ms) (hx : x = match vs with | [v] => v | _ => .tuple vs.toArray) (h : ∀ w', Chg ms w w' → ResOK P E w' fn.results.toList vs ∧ R (.returned x) w')
  (a : Act) (ha : Sat N (ms.map mk) E a) : bodyPostM Fence.wide 0 P fn R .ret a w := by
 show LeavesInM Fence.wide 0 P fn a.tmps R a.defers .returning w
 rw [ha.defers]
 refine leavesM ms w hm fun w' hc => ?_
 obtain ⟨h1, hR⟩ := h w' hc
 refine ⟨x, ?_, hR⟩
 have h2 := ResOK.run ha _ _ h1
 change (do let vs ← fn.results.mapM (resF a); pure (if h : vs.size = 1 then vs[0] else .tuple vs) : Sem Value).run P w' = .ok x w'
 rw [Array.mapM_eq_mapM_toList]
 simp only [Sem.run_bind, Sem.run_map, h2, Result.andThen_ok, Sem.run_pure]
 subst hx
 match vs with
 | [] => simp
 | [v] => simp
 | v :: u :: r => simp
theorem res0M {fn : Func} {R : Ending → World → Prop} {vs : List Value} {x : Value} (h : ResOK P E w fn.results.toList vs) (hx : x = match vs with | [v] => v | _ => .tuple vs.toArray) (hR : R (.returned x) w)
  (a : Act) (ha : Sat N [] E a) : bodyPostM Fence.wide 0 P fn R .ret a w := by
 have h0 : bodyPost P fn R .ret a w := resN h hx hR a ha
 obtain ⟨hd, v, h1, h2⟩ := h0
 show LeavesInM Fence.wide 0 P fn a.tmps R a.defers .returning w
 rw [hd]
 exact ⟨v, h1, h2⟩
theorem Marks.stab {w A B : World} {ms O : List Nat} (h : Marks A ms) (h0 : Marks w ms) (hO : InO w O A) (hc : Chg O A B) : Marks B ms :=
 ⟨h.1, fun m hm => hc.obj (fun hm' => by have := (hO _ hm').1; have := lt_of_heap (h0.2 m hm); omega) (h.2 m hm)⟩
theorem Marks.notloop {A B : World} {l : Nat} {ms : List Nat} (h : Marks A ms) (hl : ∃ r, A.heap[l]? = some (.loop r)) (hc : Chg [l] A B) : Marks B ms :=
 ⟨h.1, fun m hm => hc.obj (fun hm' => by
  simp at hm'
  obtain ⟨r, hr⟩ := hl
  have := h.2 m hm
  rw [hm', hr] at this; cases this) (h.2 m hm)⟩
theorem _root_.Go.X.Boxes.marks {w w' : World} {ms : List Nat} {l : List (Nat × List Value × TypeId)} (h : Boxes w l) (hK : Marks w ms) (hc : Chg ms w w') : Boxes w' l :=
 h.chg hc fun x hx hm => by
  have h1 := hK.2 _ hm
  rw [h.heap x hx] at h1; cases h1
theorem Marks.nil (w : World) : Marks w [] := ⟨by simp, by simp⟩
theorem Marks.chg {f ms : List Nat} {w w' : World} (h : Marks w ms) (hc : Chg f w w') (hf : ∀ m ∈ ms, m ∉ f) : Marks w' ms := ⟨h.1, fun m hm => hc.obj (hf m hm) (h.2 m hm)⟩
theorem Marks.same {ms l : List Nat} {w w' : World} (h : Marks w ms) (hs : Same w w' l) (hl : ∀ m ∈ ms, m ∈ l) : Marks w' ms := ⟨h.1, fun m hm => (hs m (hl m hm)).trans (h.2 m hm)⟩
theorem Marks.grow {ms : List Nat} {w w' : World} {o : Obj} (h : Marks w ms) (hw : w' = World.alloc w o) : Marks w' ms := h.chg (f := []) (by subst hw; exact Chg.alloc _ _) (by simp)
theorem Marks.drew {ms : List Nat} {w w' : World} (h : Marks w ms) (hw : w' = World.drew w) : Marks w' ms := h.chg (f := []) (by subst hw; exact Chg.drew _) (by simp)
theorem Marks.set {ms : List Nat} {w w' : World} {b : Nat} {cs : Array Value} {T : TypeId} {fr : Nat × Nat} (h : Marks w ms) (hb : w.heap[b]? = some (.cells cs T fr)) (hc : Chg [b] w w') : Marks w' ms := h.chg hc fun m hm hm' => by
 simp at hm'; subst hm'
 have := h.2 _ hm
 rw [hb] at this; cases this
theorem Marks.cons {ms : List Nat} {w : World} {d : Nat} (h : Marks w ms) (hd : w.heap[d]? = some (.deferred (some []))) (hn : d ∉ ms) : Marks w (d :: ms) := ⟨List.nodup_cons.2 ⟨hn, h.1⟩, fun m hm => by
 rcases List.mem_cons.1 hm with rfl | hm
 ·exact hd
 ·exact h.2 m hm⟩
theorem Marks.cons2 {ms : List Nat} {w W : World} {d : Nat} (h : Marks W ms) (h0 : Marks w ms) (hd : w.heap.size ≤ d) (hdh : W.heap[d]? = some (.deferred (some []))) : Marks W (d :: ms) :=
 h.cons hdh fun hm => by have := lt_of_heap (h0.2 _ hm); omega
end
end Go.XR
/-! ### Ways that meet, and loops, where ranges over functions were begun: the frame's deferred ones are of the state -/
namespace Go.X
open Go
section
variable {P : Program} {N : Nat} {D : List Deferred} {Q : Exit → Act → World → Prop} {E : Env} {w : World}
end
end Go.X
end
