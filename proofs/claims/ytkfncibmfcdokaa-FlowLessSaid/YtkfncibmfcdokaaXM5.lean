/- Texts of the claim, merged: XG4 XG5 XClone XGall XFlowAll XG10 XOrder XPSort XPCollect XDrawn XGfall XFAll XFlow3 XRef1 XRef2 XRef3 XRef4 XRel XLess XOpen. -/
import Derived.Test.YtkfncibmfcdokaaXM4
import Derived.Test.YtkfncibmfcdokaaProg
import Derived.Laws.Externs
import Derived.Laws.Cover3
import Derived.MapKept
import Derived.Shelf.SlSortCmp.WholeK
import Derived.Sort.OwnSortedInts
import Derived.Shelf.SlSortCmp.NoneTotal
import Derived.OrdersIn
import Derived.WalkKit
import Derived.ProofKit
import Derived.OpenShut
import Derived.ChangeOld
import Derived.Carry

/- XG4 -/
section
set_option linter.unusedVariables false
set_option linter.unusedSimpArgs false
namespace Go.Proofs.Ytkfncibmfcdokaa
open Go Go.X

/- (*pomander/flow.Flow).Copy -/
def W_flow_Flow_Copy (f1 : Option Addr) (w : World) (R : (Option Addr) → World → Prop) : Prop :=
  Calls Try.prog 73 #[.pointer f1] w fun e w1 => ∃ (r2 : Bool), e = .returned (.bool r2) ∧ ((r2 = true → R none w1) ∧ (r2 = false → ∀ (w2 : World), Chg [] w1 w2 → (∃ a1 : Addr, f1 = some a1 ∧ (∃ (t1 : Int) (t2 : Int), CellsAt w2 a1 0 [.int .i64 t1, .int .i64 t2] ∧ (∃ (t3 : Option Addr), w2.cell? (a1.add 2) = some (.pointer t3) ∧ (∃ (t4 : Option Addr), w2.cell? (a1.add 3) = some (.pointer t4) ∧ (∃ (t5 : Option Addr), w2.cell? (a1.add 4) = some (.pointer t5) ∧ (∃ (t6 : Option Nat), w2.cell? (a1.add 5) = some (.map t6) ∧ (Calls Try.prog 79 #[.pointer t3] w2 fun e w3 => ∃ (r3 : Option Addr), e = .returned (.pointer r3) ∧ ((CellsAt w3 a1 0 [.int .i64 t1, .int .i64 t2] ∧ w3.cell? (a1.add 2) = some (.pointer t3) ∧ w3.cell? (a1.add 3) = some (.pointer t4) ∧ w3.cell? (a1.add 4) = some (.pointer t5) ∧ w3.cell? (a1.add 5) = some (.map t6)) ∧ (Calls Try.prog 57 #[.pointer t4] w3 fun e w4 => ∃ (r4 : Option Addr), e = .returned (.pointer r4) ∧ ((CellsAt w4 a1 0 [.int .i64 t1, .int .i64 t2] ∧ w4.cell? (a1.add 2) = some (.pointer t3) ∧ w4.cell? (a1.add 3) = some (.pointer t4) ∧ w4.cell? (a1.add 4) = some (.pointer t5) ∧ w4.cell? (a1.add 5) = some (.map t6)) ∧ (Calls Try.prog 57 #[.pointer t5] w4 fun e w5 => ∃ (r5 : Option Addr), e = .returned (.pointer r5) ∧ ((CellsAt w5 a1 0 [.int .i64 t1, .int .i64 t2] ∧ w5.cell? (a1.add 2) = some (.pointer t3) ∧ w5.cell? (a1.add 3) = some (.pointer t4) ∧ w5.cell? (a1.add 4) = some (.pointer t5) ∧ w5.cell? (a1.add 5) = some (.map t6)) ∧ (Calls Try.prog 80 #[.map t6] w5 fun e w6 => ∃ (r6 : Option Nat), e = .returned (.map r6) ∧ ((CellsAt w6 a1 0 [.int .i64 t1, .int .i64 t2] ∧ w6.cell? (a1.add 2) = some (.pointer t3) ∧ w6.cell? (a1.add 3) = some (.pointer t4) ∧ w6.cell? (a1.add 4) = some (.pointer t5) ∧ w6.cell? (a1.add 5) = some (.map t6)) ∧ (∀ b1 : Nat, b1 = World.size w6 → ∀ w7 : World, w7 = World.alloc w6 (.cells #[.int .i64 t1, .int .i64 t2, .pointer r3, .pointer r4, .pointer r5, .map r6] 145) → (R (some (⟨b1, 0, none⟩ : Addr)) w7))))))))))))))))))
set_option maxRecDepth 100000 in
theorem go_flow_Flow_Copy (f1 : Option Addr) (w : World) (R : (Option Addr) → World → Prop) (h : W_flow_Flow_Copy f1 w R) : Calls Try.prog 37 #[.pointer f1] w (fun e w' => ∃ (r1 : Option Addr), e = .returned (.pointer r1) ∧ R r1 w') := by
  unfold W_flow_Flow_Copy at h
  refine enter (N := 31) Try.func37 rfl rfl ?_
  refine CW.seq ?_
  refine CW.region fun L hL => ?_
  refine LW.rd hL rfl (Wants.free rfl) rfl (Rd.assign (v := .pointer none) rfl) ?_
  refine LW.nil hL rfl ?_
  refine NW.then ?_
  refine CW.seq ?_
  refine CW.seq ?_
  refine CW.region fun L hL => ?_
  refine LW.rd hL rfl (Wants.free rfl) rfl (Rd.move (v := .pointer f1) rfl) ?_
  refine LW.call hL rfl (Wants.free rfl) rfl (Cl.fn (f := 73) rfl Try.func73 (by kernel_rfl) rfl) h (fun e w1 h_ => ?_)
  clear h
  obtain ⟨r2, rfl, h⟩ := h_
  refine ⟨_, rfl, ?_⟩
  refine LW.nil hL rfl ?_
  refine NW.then ?_
  refine CW.cond rfl (fun hb1 => ?_) (fun hb1 => ?_)
  · replace h := h.1 hb1
    refine CW.seq ?_
    refine CW.region fun L hL => ?_
    refine LW.rd hL rfl (Wants.free rfl) rfl (Rd.assign (v := .pointer none) rfl) ?_
    refine LW.nil hL rfl ?_
    refine NW.then ?_
    refine CW.ret ?_
    refine RW.then ?_
    exact res1 rfl rfl ⟨none, rfl, h⟩
  · replace h := h.2 hb1
    refine CW.skip ?_
    refine NW.then ?_
    refine CW.seq ?_
    obtain ⟨w2, hw_w2⟩ : ∃ x, x = World.drew w1 := ⟨_, rfl⟩
    have hc_w2 := sil_drew (Chg.refl [] w1) hw_w2
    replace h := h  w2  hc_w2
    obtain ⟨a1, ha1, h⟩ := h
    obtain ⟨t1, t2, hc1, h⟩ := h
    obtain ⟨t3, hc2, h⟩ := h
    obtain ⟨t4, hc3, h⟩ := h
    obtain ⟨t5, hc4, h⟩ := h
    obtain ⟨t6, hc5, h⟩ := h
    refine CW.drawn (fun w => CellsAt w a1 0 [.int .i64 t1, .int .i64 t2] ∧ w.cell? (a1.add 2) = some (.pointer t3) ∧ w.cell? (a1.add 3) = some (.pointer t4) ∧ w.cell? (a1.add 4) = some (.pointer t5) ∧ w.cell? (a1.add 5) = some (.map t6) ∧ True) 25 (by kernel_rfl) fun H hH => ?_
    rw [← hw_w2]
    have hS1 : CellsAt w2 a1 0 [.int .i64 t1, .int .i64 t2] ∧ w2.cell? (a1.add 2) = some (.pointer t3) ∧ w2.cell? (a1.add 3) = some (.pointer t4) ∧ w2.cell? (a1.add 4) = some (.pointer t5) ∧ w2.cell? (a1.add 5) = some (.map t6) ∧ True := ⟨hc1, hc2, hc3, hc4, hc5, trivial⟩
    refine HW.pure (i := 0) hH rfl (by kernel_rfl) (Wants.free rfl) rfl (fun _ => hS1) (Rd.move (v := .pointer f1) rfl) ?_
    refine HW.pure (i := 1) hH rfl (by kernel_rfl) (Wants.free rfl) rfl (fun _ => hS1) (Rd.nil (q := a1) (by rw [← ha1]; rfl)) ?_
    refine HW.pure (i := 2) hH rfl (by kernel_rfl) (Wants.free rfl) rfl (fun _ => hS1) (Rd.fa (v := .pointer (some a1)) rfl (fun _ => by kernel_rfl)) ?_
    refine HW.take (i := 3) hH rfl (by kernel_rfl) (by kernel_rfl) (Wants.free rfl) rfl (fun _ => hS1) (Rd.ldN (cs := [.int .i64 t1, .int .i64 t2]) rfl (by kernel_rfl) (by kernel_rfl) (fun w h => cellsAt_get h.1)) ?_
    refine HW.pure (i := 4) hH rfl (by kernel_rfl) (Wants.free rfl) rfl (fun _ => hS1) (Rd.move (v := .pointer f1) rfl) ?_
    refine HW.pure (i := 5) hH rfl (by kernel_rfl) (Wants.free rfl) rfl (fun _ => hS1) (Rd.nil (q := a1) (by rw [← ha1]; rfl)) ?_
    refine HW.pure (i := 6) hH rfl (by kernel_rfl) (Wants.free rfl) rfl (fun _ => hS1) (Rd.fa (v := .pointer (some (a1.add 2))) rfl (fun _ => by kernel_rfl)) ?_
    refine HW.take (i := 7) hH rfl (by kernel_rfl) (by kernel_rfl) (Wants.free rfl) rfl (fun _ => hS1) (Rd.ld (v := .pointer t3) rfl (by kernel_rfl) (fun w h => h.2.1)) ?_
    refine HW.pure (i := 9) hH rfl (by kernel_rfl) (Wants.free rfl) rfl (fun _ => hS1) (Rd.move (v := .pointer f1) rfl) ?_
    refine HW.pure (i := 10) hH rfl (by kernel_rfl) (Wants.free rfl) rfl (fun _ => hS1) (Rd.nil (q := a1) (by rw [← ha1]; rfl)) ?_
    refine HW.pure (i := 11) hH rfl (by kernel_rfl) (Wants.free rfl) rfl (fun _ => hS1) (Rd.fa (v := .pointer (some (a1.add 3))) rfl (fun _ => by kernel_rfl)) ?_
    refine HW.take (i := 12) hH rfl (by kernel_rfl) (by kernel_rfl) (Wants.free rfl) rfl (fun _ => hS1) (Rd.ld (v := .pointer t4) rfl (by kernel_rfl) (fun w h => h.2.2.1)) ?_
    refine HW.pure (i := 14) hH rfl (by kernel_rfl) (Wants.free rfl) rfl (fun _ => hS1) (Rd.move (v := .pointer f1) rfl) ?_
    refine HW.pure (i := 15) hH rfl (by kernel_rfl) (Wants.free rfl) rfl (fun _ => hS1) (Rd.nil (q := a1) (by rw [← ha1]; rfl)) ?_
    refine HW.pure (i := 16) hH rfl (by kernel_rfl) (Wants.free rfl) rfl (fun _ => hS1) (Rd.fa (v := .pointer (some (a1.add 4))) rfl (fun _ => by kernel_rfl)) ?_
    refine HW.take (i := 17) hH rfl (by kernel_rfl) (by kernel_rfl) (Wants.free rfl) rfl (fun _ => hS1) (Rd.ld (v := .pointer t5) rfl (by kernel_rfl) (fun w h => h.2.2.2.1)) ?_
    refine HW.pure (i := 19) hH rfl (by kernel_rfl) (Wants.free rfl) rfl (fun _ => hS1) (Rd.move (v := .pointer f1) rfl) ?_
    refine HW.pure (i := 20) hH rfl (by kernel_rfl) (Wants.free rfl) rfl (fun _ => hS1) (Rd.nil (q := a1) (by rw [← ha1]; rfl)) ?_
    refine HW.pure (i := 21) hH rfl (by kernel_rfl) (Wants.free rfl) rfl (fun _ => hS1) (Rd.fa (v := .pointer (some (a1.add 5))) rfl (fun _ => by kernel_rfl)) ?_
    refine HW.take (i := 22) hH rfl (by kernel_rfl) (by kernel_rfl) (Wants.free rfl) rfl (fun _ => hS1) (Rd.ld (v := .map t6) rfl (by kernel_rfl) (fun w h => h.2.2.2.2.1)) ?_
    refine HW.call (i := 8) hH (by kernel_rfl) rfl (Wants.free rfl) rfl (Cl.fn (f := 79) rfl Try.func79 (by kernel_rfl) rfl) h (fun e w3 h_ => ?_)
    clear h
    obtain ⟨r3, rfl, hS2, h⟩ := h_
    have hS3 := (⟨hS2.1, hS2.2.1, hS2.2.2.1, hS2.2.2.2.1, hS2.2.2.2.2, trivial⟩ : CellsAt w3 a1 0 [.int .i64 t1, .int .i64 t2] ∧ w3.cell? (a1.add 2) = some (.pointer t3) ∧ w3.cell? (a1.add 3) = some (.pointer t4) ∧ w3.cell? (a1.add 4) = some (.pointer t5) ∧ w3.cell? (a1.add 5) = some (.map t6) ∧ True)
    refine ⟨_, rfl, (fun _ => hS3), ?_⟩
    refine HW.call (i := 13) hH (by kernel_rfl) rfl (Wants.free rfl) rfl (Cl.fn (f := 57) rfl Try.func57 (by kernel_rfl) rfl) h (fun e w4 h_ => ?_)
    clear h
    obtain ⟨r4, rfl, hS4, h⟩ := h_
    have hS5 := (⟨hS4.1, hS4.2.1, hS4.2.2.1, hS4.2.2.2.1, hS4.2.2.2.2, trivial⟩ : CellsAt w4 a1 0 [.int .i64 t1, .int .i64 t2] ∧ w4.cell? (a1.add 2) = some (.pointer t3) ∧ w4.cell? (a1.add 3) = some (.pointer t4) ∧ w4.cell? (a1.add 4) = some (.pointer t5) ∧ w4.cell? (a1.add 5) = some (.map t6) ∧ True)
    refine ⟨_, rfl, (fun _ => hS5), ?_⟩
    refine HW.call (i := 18) hH (by kernel_rfl) rfl (Wants.free rfl) rfl (Cl.fn (f := 57) rfl Try.func57 (by kernel_rfl) rfl) h (fun e w5 h_ => ?_)
    clear h
    obtain ⟨r5, rfl, hS6, h⟩ := h_
    have hS7 := (⟨hS6.1, hS6.2.1, hS6.2.2.1, hS6.2.2.2.1, hS6.2.2.2.2, trivial⟩ : CellsAt w5 a1 0 [.int .i64 t1, .int .i64 t2] ∧ w5.cell? (a1.add 2) = some (.pointer t3) ∧ w5.cell? (a1.add 3) = some (.pointer t4) ∧ w5.cell? (a1.add 4) = some (.pointer t5) ∧ w5.cell? (a1.add 5) = some (.map t6) ∧ True)
    refine ⟨_, rfl, (fun _ => hS7), ?_⟩
    refine HW.call (i := 23) hH (by kernel_rfl) rfl (Wants.free rfl) rfl (Cl.fn (f := 80) rfl Try.func80 (by kernel_rfl) rfl) h (fun e w6 h_ => ?_)
    clear h
    obtain ⟨r6, rfl, hS8, h⟩ := h_
    have hS9 := (⟨hS8.1, hS8.2.1, hS8.2.2.1, hS8.2.2.2.1, hS8.2.2.2.2, trivial⟩ : CellsAt w6 a1 0 [.int .i64 t1, .int .i64 t2] ∧ w6.cell? (a1.add 2) = some (.pointer t3) ∧ w6.cell? (a1.add 3) = some (.pointer t4) ∧ w6.cell? (a1.add 4) = some (.pointer t5) ∧ w6.cell? (a1.add 5) = some (.map t6) ∧ True)
    refine ⟨_, rfl, (fun _ => hS9), ?_⟩
    refine HW.pure (i := 24) hH rfl (by kernel_rfl) (Wants.free rfl) rfl (fun _ => hS9) (Rd.build (v := .agg #[.int .i64 t1, .int .i64 t2, .pointer r3, .pointer r4, .pointer r5, .map r6]) rfl (fun _ => by kernel_rfl)) ?_
    obtain ⟨b1, hb_b1⟩ : ∃ b1, b1 = World.size w6 := ⟨_, rfl⟩
    obtain ⟨w7, hw_w7⟩ : ∃ w7, w7 = World.alloc w6 (.cells #[.int .i64 t1, .int .i64 t2, .pointer r3, .pointer r4, .pointer r5, .map r6] 145) := ⟨_, rfl⟩
    replace h := h b1 hb_b1 w7 hw_w7
    refine HW.val (i := 25) hH (by kernel_rfl) rfl (Wants.free rfl) rfl (boxE hb_b1 hw_w7 (Vl.box (v := .agg #[.int .i64 t1, .int .i64 t2, .pointer r3, .pointer r4, .pointer r5, .map r6]) rfl)) (fun hc => by cases hc) ?_
    refine HW.pure (i := 26) hH rfl (by kernel_rfl) (Wants.free rfl) rfl (fun hc => by cases hc) (Rd.assign (v := .pointer (some (⟨b1, 0, none⟩ : Addr))) rfl) ?_
    refine HW.done hH (by kernel_rfl) ?_
    refine NW.then ?_
    refine CW.ret ?_
    exact res1 rfl rfl ⟨some (⟨b1, 0, none⟩ : Addr), rfl, h⟩

/- (*pomander/labels.Table).Copy -/
def W_labels_Table_Copy (t1 : Option Addr) (w : World) (R : (Option Addr) → World → Prop) : Prop :=
  Calls Try.prog 110 #[.pointer t1] w fun e w1 => ∃ (r2 : Bool), e = .returned (.bool r2) ∧ ((r2 = true → R none w1) ∧ (r2 = false → ∀ (w2 : World), Chg [] w1 w2 → (∃ a1 : Addr, t1 = some a1 ∧ (∃ (t2 : Int), w2.cell? a1 = some (.int .i64 t2) ∧ (∃ (t3 : Option Addr) (t3n : Nat) (t3c : Nat), w2.cell? (a1.add 1) = some (.slice t3 t3n t3c) ∧ (∃ (t4 : Option Nat), w2.cell? (a1.add 2) = some (.map t4) ∧ (∃ (t5 : Option Nat), w2.cell? (a1.add 3) = some (.map t5) ∧ (Calls Try.prog 111 #[.slice t3 t3n t3c] w2 fun e w3 => ∃ (r3 : Option Addr) (r3n : Nat) (r3c : Nat), e = .returned (.slice r3 r3n r3c) ∧ ((w3.cell? a1 = some (.int .i64 t2) ∧ w3.cell? (a1.add 1) = some (.slice t3 t3n t3c) ∧ w3.cell? (a1.add 2) = some (.map t4) ∧ w3.cell? (a1.add 3) = some (.map t5)) ∧ (Calls Try.prog 112 #[.map t4] w3 fun e w4 => ∃ (r4 : Option Nat), e = .returned (.map r4) ∧ ((w4.cell? a1 = some (.int .i64 t2) ∧ w4.cell? (a1.add 1) = some (.slice t3 t3n t3c) ∧ w4.cell? (a1.add 2) = some (.map t4) ∧ w4.cell? (a1.add 3) = some (.map t5)) ∧ (Calls Try.prog 113 #[.map t5] w4 fun e w5 => ∃ (r5 : Option Nat), e = .returned (.map r5) ∧ ((w5.cell? a1 = some (.int .i64 t2) ∧ w5.cell? (a1.add 1) = some (.slice t3 t3n t3c) ∧ w5.cell? (a1.add 2) = some (.map t4) ∧ w5.cell? (a1.add 3) = some (.map t5)) ∧ (∀ b1 : Nat, b1 = World.size w5 → ∀ w6 : World, w6 = World.alloc w5 (.cells #[.int .i64 t2, .slice r3 r3n r3c, .map r4, .map r5] 201) → (R (some (⟨b1, 0, none⟩ : Addr)) w6)))))))))))))))
set_option maxRecDepth 100000 in
theorem go_labels_Table_Copy (t1 : Option Addr) (w : World) (R : (Option Addr) → World → Prop) (h : W_labels_Table_Copy t1 w R) : Calls Try.prog 79 #[.pointer t1] w (fun e w' => ∃ (r1 : Option Addr), e = .returned (.pointer r1) ∧ R r1 w') := by
  unfold W_labels_Table_Copy at h
  refine enter (N := 26) Try.func79 rfl rfl ?_
  refine CW.seq ?_
  refine CW.region fun L hL => ?_
  refine LW.rd hL rfl (Wants.free rfl) rfl (Rd.assign (v := .pointer none) rfl) ?_
  refine LW.nil hL rfl ?_
  refine NW.then ?_
  refine CW.seq ?_
  refine CW.seq ?_
  refine CW.region fun L hL => ?_
  refine LW.rd hL rfl (Wants.free rfl) rfl (Rd.move (v := .pointer t1) rfl) ?_
  refine LW.call hL rfl (Wants.free rfl) rfl (Cl.fn (f := 110) rfl Try.func110 (by kernel_rfl) rfl) h (fun e w1 h_ => ?_)
  clear h
  obtain ⟨r2, rfl, h⟩ := h_
  refine ⟨_, rfl, ?_⟩
  refine LW.nil hL rfl ?_
  refine NW.then ?_
  refine CW.cond rfl (fun hb1 => ?_) (fun hb1 => ?_)
  · replace h := h.1 hb1
    refine CW.seq ?_
    refine CW.region fun L hL => ?_
    refine LW.rd hL rfl (Wants.free rfl) rfl (Rd.assign (v := .pointer none) rfl) ?_
    refine LW.nil hL rfl ?_
    refine NW.then ?_
    refine CW.ret ?_
    refine RW.then ?_
    exact res1 rfl rfl ⟨none, rfl, h⟩
  · replace h := h.2 hb1
    refine CW.skip ?_
    refine NW.then ?_
    refine CW.seq ?_
    obtain ⟨w2, hw_w2⟩ : ∃ x, x = World.drew w1 := ⟨_, rfl⟩
    have hc_w2 := sil_drew (Chg.refl [] w1) hw_w2
    replace h := h  w2  hc_w2
    obtain ⟨a1, ha1, h⟩ := h
    obtain ⟨t2, hc1, h⟩ := h
    obtain ⟨t3, t3n, t3c, hc2, h⟩ := h
    obtain ⟨t4, hc3, h⟩ := h
    obtain ⟨t5, hc4, h⟩ := h
    refine CW.drawn (fun w => w.cell? a1 = some (.int .i64 t2) ∧ w.cell? (a1.add 1) = some (.slice t3 t3n t3c) ∧ w.cell? (a1.add 2) = some (.map t4) ∧ w.cell? (a1.add 3) = some (.map t5) ∧ True) 20 (by kernel_rfl) fun H hH => ?_
    rw [← hw_w2]
    have hS1 : w2.cell? a1 = some (.int .i64 t2) ∧ w2.cell? (a1.add 1) = some (.slice t3 t3n t3c) ∧ w2.cell? (a1.add 2) = some (.map t4) ∧ w2.cell? (a1.add 3) = some (.map t5) ∧ True := ⟨hc1, hc2, hc3, hc4, trivial⟩
    refine HW.pure (i := 0) hH rfl (by kernel_rfl) (Wants.free rfl) rfl (fun _ => hS1) (Rd.move (v := .pointer t1) rfl) ?_
    refine HW.pure (i := 1) hH rfl (by kernel_rfl) (Wants.free rfl) rfl (fun _ => hS1) (Rd.nil (q := a1) (by rw [← ha1]; rfl)) ?_
    refine HW.pure (i := 2) hH rfl (by kernel_rfl) (Wants.free rfl) rfl (fun _ => hS1) (Rd.fa (v := .pointer (some a1)) rfl (fun _ => by kernel_rfl)) ?_
    refine HW.take (i := 3) hH rfl (by kernel_rfl) (by kernel_rfl) (Wants.free rfl) rfl (fun _ => hS1) (Rd.ld (v := .int .i64 t2) rfl (by kernel_rfl) (fun w h => h.1)) ?_
    refine HW.pure (i := 4) hH rfl (by kernel_rfl) (Wants.free rfl) rfl (fun _ => hS1) (Rd.move (v := .pointer t1) rfl) ?_
    refine HW.pure (i := 5) hH rfl (by kernel_rfl) (Wants.free rfl) rfl (fun _ => hS1) (Rd.nil (q := a1) (by rw [← ha1]; rfl)) ?_
    refine HW.pure (i := 6) hH rfl (by kernel_rfl) (Wants.free rfl) rfl (fun _ => hS1) (Rd.fa (v := .pointer (some (a1.add 1))) rfl (fun _ => by kernel_rfl)) ?_
    refine HW.take (i := 7) hH rfl (by kernel_rfl) (by kernel_rfl) (Wants.free rfl) rfl (fun _ => hS1) (Rd.ld (v := .slice t3 t3n t3c) rfl (by kernel_rfl) (fun w h => h.2.1)) ?_
    refine HW.pure (i := 9) hH rfl (by kernel_rfl) (Wants.free rfl) rfl (fun _ => hS1) (Rd.move (v := .pointer t1) rfl) ?_
    refine HW.pure (i := 10) hH rfl (by kernel_rfl) (Wants.free rfl) rfl (fun _ => hS1) (Rd.nil (q := a1) (by rw [← ha1]; rfl)) ?_
    refine HW.pure (i := 11) hH rfl (by kernel_rfl) (Wants.free rfl) rfl (fun _ => hS1) (Rd.fa (v := .pointer (some (a1.add 2))) rfl (fun _ => by kernel_rfl)) ?_
    refine HW.take (i := 12) hH rfl (by kernel_rfl) (by kernel_rfl) (Wants.free rfl) rfl (fun _ => hS1) (Rd.ld (v := .map t4) rfl (by kernel_rfl) (fun w h => h.2.2.1)) ?_
    refine HW.pure (i := 14) hH rfl (by kernel_rfl) (Wants.free rfl) rfl (fun _ => hS1) (Rd.move (v := .pointer t1) rfl) ?_
    refine HW.pure (i := 15) hH rfl (by kernel_rfl) (Wants.free rfl) rfl (fun _ => hS1) (Rd.nil (q := a1) (by rw [← ha1]; rfl)) ?_
    refine HW.pure (i := 16) hH rfl (by kernel_rfl) (Wants.free rfl) rfl (fun _ => hS1) (Rd.fa (v := .pointer (some (a1.add 3))) rfl (fun _ => by kernel_rfl)) ?_
    refine HW.take (i := 17) hH rfl (by kernel_rfl) (by kernel_rfl) (Wants.free rfl) rfl (fun _ => hS1) (Rd.ld (v := .map t5) rfl (by kernel_rfl) (fun w h => h.2.2.2.1)) ?_
    refine HW.call (i := 8) hH (by kernel_rfl) rfl (Wants.free rfl) rfl (Cl.fn (f := 111) rfl Try.func111 (by kernel_rfl) rfl) h (fun e w3 h_ => ?_)
    clear h
    obtain ⟨r3, r3n, r3c, rfl, hS2, h⟩ := h_
    have hS3 := (⟨hS2.1, hS2.2.1, hS2.2.2.1, hS2.2.2.2, trivial⟩ : w3.cell? a1 = some (.int .i64 t2) ∧ w3.cell? (a1.add 1) = some (.slice t3 t3n t3c) ∧ w3.cell? (a1.add 2) = some (.map t4) ∧ w3.cell? (a1.add 3) = some (.map t5) ∧ True)
    refine ⟨_, rfl, (fun _ => hS3), ?_⟩
    refine HW.call (i := 13) hH (by kernel_rfl) rfl (Wants.free rfl) rfl (Cl.fn (f := 112) rfl Try.func112 (by kernel_rfl) rfl) h (fun e w4 h_ => ?_)
    clear h
    obtain ⟨r4, rfl, hS4, h⟩ := h_
    have hS5 := (⟨hS4.1, hS4.2.1, hS4.2.2.1, hS4.2.2.2, trivial⟩ : w4.cell? a1 = some (.int .i64 t2) ∧ w4.cell? (a1.add 1) = some (.slice t3 t3n t3c) ∧ w4.cell? (a1.add 2) = some (.map t4) ∧ w4.cell? (a1.add 3) = some (.map t5) ∧ True)
    refine ⟨_, rfl, (fun _ => hS5), ?_⟩
    refine HW.call (i := 18) hH (by kernel_rfl) rfl (Wants.free rfl) rfl (Cl.fn (f := 113) rfl Try.func113 (by kernel_rfl) rfl) h (fun e w5 h_ => ?_)
    clear h
    obtain ⟨r5, rfl, hS6, h⟩ := h_
    have hS7 := (⟨hS6.1, hS6.2.1, hS6.2.2.1, hS6.2.2.2, trivial⟩ : w5.cell? a1 = some (.int .i64 t2) ∧ w5.cell? (a1.add 1) = some (.slice t3 t3n t3c) ∧ w5.cell? (a1.add 2) = some (.map t4) ∧ w5.cell? (a1.add 3) = some (.map t5) ∧ True)
    refine ⟨_, rfl, (fun _ => hS7), ?_⟩
    refine HW.pure (i := 19) hH rfl (by kernel_rfl) (Wants.free rfl) rfl (fun _ => hS7) (Rd.build (v := .agg #[.int .i64 t2, .slice r3 r3n r3c, .map r4, .map r5]) rfl (fun _ => by kernel_rfl)) ?_
    obtain ⟨b1, hb_b1⟩ : ∃ b1, b1 = World.size w5 := ⟨_, rfl⟩
    obtain ⟨w6, hw_w6⟩ : ∃ w6, w6 = World.alloc w5 (.cells #[.int .i64 t2, .slice r3 r3n r3c, .map r4, .map r5] 201) := ⟨_, rfl⟩
    replace h := h b1 hb_b1 w6 hw_w6
    refine HW.val (i := 20) hH (by kernel_rfl) rfl (Wants.free rfl) rfl (boxE hb_b1 hw_w6 (Vl.box (v := .agg #[.int .i64 t2, .slice r3 r3n r3c, .map r4, .map r5]) rfl)) (fun hc => by cases hc) ?_
    refine HW.pure (i := 21) hH rfl (by kernel_rfl) (Wants.free rfl) rfl (fun hc => by cases hc) (Rd.assign (v := .pointer (some (⟨b1, 0, none⟩ : Addr))) rfl) ?_
    refine HW.done hH (by kernel_rfl) ?_
    refine NW.then ?_
    refine CW.ret ?_
    exact res1 rfl rfl ⟨some (⟨b1, 0, none⟩ : Addr), rfl, h⟩

end Go.Proofs.Ytkfncibmfcdokaa
end

/- XG5 -/
section
set_option linter.unusedVariables false
set_option linter.unusedSimpArgs false
namespace Go.Proofs.Ytkfncibmfcdokaa
open Go Go.X

/- maps.Clone[map[pomander/api.Place]uint32,pomander/api.Place,uint32] -/
def W_maps_Clone_134 (m1 : Option Nat) (w : World) (R : (Option Nat) → World → Prop) : Prop :=
  ((Option.isNone m1) = true → R none w) ∧ ((Option.isNone m1) = false → ∃ (r2 : Value) (w1 : World), (callFunc 114 #[(.iface 143 (.map m1))]).run Try.prog w = .ok (.value (r2)) w1 ∧ (∃ (x1 : Option Nat), (∀ w : World, (Instr.typeAssert (r2) 20 143 false).run Try.prog w = .ok (.map x1) w) ∧ (R x1 w1)))
set_option maxRecDepth 100000 in
theorem go_maps_Clone_134 (m1 : Option Nat) (w : World) (R : (Option Nat) → World → Prop) (h : W_maps_Clone_134 m1 w R) : Calls Try.prog 80 #[.map m1] w (fun e w' => ∃ (r1 : Option Nat), e = .returned (.map r1) ∧ R r1 w') := by
  unfold W_maps_Clone_134 at h
  refine enter (N := 9) Try.func80 rfl rfl ?_
  refine CW.seq ?_
  refine CW.region fun L hL => ?_
  refine LW.rd hL rfl (Wants.free rfl) rfl (Rd.assign (v := .map none) rfl) ?_
  refine LW.nil hL rfl ?_
  refine NW.then ?_
  refine CW.seq ?_
  refine CW.seq ?_
  refine CW.region fun L hL => ?_
  refine LW.rd hL rfl (Wants.free rfl) rfl (Rd.move (v := .map m1) rfl) ?_
  refine LW.rd hL rfl (Wants.free rfl) rfl (Rd.bin (v := .bool (Option.isNone m1)) rfl rfl (fun w => map_nil_eq (by kernel_rfl) m1 w)) ?_
  refine LW.nil hL rfl ?_
  refine NW.then ?_
  refine CW.cond rfl (fun hb1 => ?_) (fun hb1 => ?_)
  · replace h := h.1 hb1
    refine CW.seq ?_
    refine CW.region fun L hL => ?_
    refine LW.rd hL rfl (Wants.free rfl) rfl (Rd.assign (v := .map none) rfl) ?_
    refine LW.nil hL rfl ?_
    refine NW.then ?_
    refine CW.ret ?_
    refine RW.then ?_
    exact res1 rfl rfl ⟨none, rfl, h⟩
  · replace h := h.2 hb1
    refine CW.skip ?_
    refine NW.then ?_
    refine CW.seq ?_
    refine CW.region fun L hL => ?_
    refine LW.rd hL rfl (Wants.free rfl) rfl (Rd.move (v := .map m1) rfl) ?_
    refine LW.rd hL rfl (Wants.free rfl) rfl (Rd.makeInterface (v := .iface 143 (.map m1)) rfl (fun _ => by kernel_rfl)) ?_
    obtain ⟨r2, w1, hx1, h⟩ := h
    refine LW.val hL rfl (Wants.free rfl) rfl (Vl.extern (v := r2) rfl hx1) ?_
    obtain ⟨x1, hx2, h⟩ := h
    refine LW.rd hL rfl (Wants.free rfl) rfl (Rd.typeAssert (v := .map x1) rfl hx2) ?_
    refine LW.rd hL rfl (Wants.free rfl) rfl (Rd.assign (v := .map x1) rfl) ?_
    refine LW.nil hL rfl ?_
    refine NW.then ?_
    refine CW.ret ?_
    exact res1 rfl rfl ⟨x1, rfl, h⟩

/- maps.Clone[map[uint32]int,uint32,int] -/
def W_maps_Clone_416 (m1 : Option Nat) (w : World) (R : (Option Nat) → World → Prop) : Prop :=
  ((Option.isNone m1) = true → R none w) ∧ ((Option.isNone m1) = false → ∃ (r2 : Value) (w1 : World), (callFunc 114 #[(.iface 198 (.map m1))]).run Try.prog w = .ok (.value (r2)) w1 ∧ (∃ (x1 : Option Nat), (∀ w : World, (Instr.typeAssert (r2) 20 198 false).run Try.prog w = .ok (.map x1) w) ∧ (R x1 w1)))
set_option maxRecDepth 100000 in
theorem go_maps_Clone_416 (m1 : Option Nat) (w : World) (R : (Option Nat) → World → Prop) (h : W_maps_Clone_416 m1 w R) : Calls Try.prog 112 #[.map m1] w (fun e w' => ∃ (r1 : Option Nat), e = .returned (.map r1) ∧ R r1 w') := by
  unfold W_maps_Clone_416 at h
  refine enter (N := 9) Try.func112 rfl rfl ?_
  refine CW.seq ?_
  refine CW.region fun L hL => ?_
  refine LW.rd hL rfl (Wants.free rfl) rfl (Rd.assign (v := .map none) rfl) ?_
  refine LW.nil hL rfl ?_
  refine NW.then ?_
  refine CW.seq ?_
  refine CW.seq ?_
  refine CW.region fun L hL => ?_
  refine LW.rd hL rfl (Wants.free rfl) rfl (Rd.move (v := .map m1) rfl) ?_
  refine LW.rd hL rfl (Wants.free rfl) rfl (Rd.bin (v := .bool (Option.isNone m1)) rfl rfl (fun w => map_nil_eq (by kernel_rfl) m1 w)) ?_
  refine LW.nil hL rfl ?_
  refine NW.then ?_
  refine CW.cond rfl (fun hb1 => ?_) (fun hb1 => ?_)
  · replace h := h.1 hb1
    refine CW.seq ?_
    refine CW.region fun L hL => ?_
    refine LW.rd hL rfl (Wants.free rfl) rfl (Rd.assign (v := .map none) rfl) ?_
    refine LW.nil hL rfl ?_
    refine NW.then ?_
    refine CW.ret ?_
    refine RW.then ?_
    exact res1 rfl rfl ⟨none, rfl, h⟩
  · replace h := h.2 hb1
    refine CW.skip ?_
    refine NW.then ?_
    refine CW.seq ?_
    refine CW.region fun L hL => ?_
    refine LW.rd hL rfl (Wants.free rfl) rfl (Rd.move (v := .map m1) rfl) ?_
    refine LW.rd hL rfl (Wants.free rfl) rfl (Rd.makeInterface (v := .iface 198 (.map m1)) rfl (fun _ => by kernel_rfl)) ?_
    obtain ⟨r2, w1, hx1, h⟩ := h
    refine LW.val hL rfl (Wants.free rfl) rfl (Vl.extern (v := r2) rfl hx1) ?_
    obtain ⟨x1, hx2, h⟩ := h
    refine LW.rd hL rfl (Wants.free rfl) rfl (Rd.typeAssert (v := .map x1) rfl hx2) ?_
    refine LW.rd hL rfl (Wants.free rfl) rfl (Rd.assign (v := .map x1) rfl) ?_
    refine LW.nil hL rfl ?_
    refine NW.then ?_
    refine CW.ret ?_
    exact res1 rfl rfl ⟨x1, rfl, h⟩

/- maps.Clone[map[pomander/labels.pair]int,pomander/labels.pair,int] -/
def W_maps_Clone_413 (m1 : Option Nat) (w : World) (R : (Option Nat) → World → Prop) : Prop :=
  ((Option.isNone m1) = true → R none w) ∧ ((Option.isNone m1) = false → ∃ (r2 : Value) (w1 : World), (callFunc 114 #[(.iface 199 (.map m1))]).run Try.prog w = .ok (.value (r2)) w1 ∧ (∃ (x1 : Option Nat), (∀ w : World, (Instr.typeAssert (r2) 20 199 false).run Try.prog w = .ok (.map x1) w) ∧ (R x1 w1)))
set_option maxRecDepth 100000 in
theorem go_maps_Clone_413 (m1 : Option Nat) (w : World) (R : (Option Nat) → World → Prop) (h : W_maps_Clone_413 m1 w R) : Calls Try.prog 113 #[.map m1] w (fun e w' => ∃ (r1 : Option Nat), e = .returned (.map r1) ∧ R r1 w') := by
  unfold W_maps_Clone_413 at h
  refine enter (N := 9) Try.func113 rfl rfl ?_
  refine CW.seq ?_
  refine CW.region fun L hL => ?_
  refine LW.rd hL rfl (Wants.free rfl) rfl (Rd.assign (v := .map none) rfl) ?_
  refine LW.nil hL rfl ?_
  refine NW.then ?_
  refine CW.seq ?_
  refine CW.seq ?_
  refine CW.region fun L hL => ?_
  refine LW.rd hL rfl (Wants.free rfl) rfl (Rd.move (v := .map m1) rfl) ?_
  refine LW.rd hL rfl (Wants.free rfl) rfl (Rd.bin (v := .bool (Option.isNone m1)) rfl rfl (fun w => map_nil_eq (by kernel_rfl) m1 w)) ?_
  refine LW.nil hL rfl ?_
  refine NW.then ?_
  refine CW.cond rfl (fun hb1 => ?_) (fun hb1 => ?_)
  · replace h := h.1 hb1
    refine CW.seq ?_
    refine CW.region fun L hL => ?_
    refine LW.rd hL rfl (Wants.free rfl) rfl (Rd.assign (v := .map none) rfl) ?_
    refine LW.nil hL rfl ?_
    refine NW.then ?_
    refine CW.ret ?_
    refine RW.then ?_
    exact res1 rfl rfl ⟨none, rfl, h⟩
  · replace h := h.2 hb1
    refine CW.skip ?_
    refine NW.then ?_
    refine CW.seq ?_
    refine CW.region fun L hL => ?_
    refine LW.rd hL rfl (Wants.free rfl) rfl (Rd.move (v := .map m1) rfl) ?_
    refine LW.rd hL rfl (Wants.free rfl) rfl (Rd.makeInterface (v := .iface 199 (.map m1)) rfl (fun _ => by kernel_rfl)) ?_
    obtain ⟨r2, w1, hx1, h⟩ := h
    refine LW.val hL rfl (Wants.free rfl) rfl (Vl.extern (v := r2) rfl hx1) ?_
    obtain ⟨x1, hx2, h⟩ := h
    refine LW.rd hL rfl (Wants.free rfl) rfl (Rd.typeAssert (v := .map x1) rfl hx2) ?_
    refine LW.rd hL rfl (Wants.free rfl) rfl (Rd.assign (v := .map x1) rfl) ?_
    refine LW.nil hL rfl ?_
    refine NW.then ?_
    refine CW.ret ?_
    exact res1 rfl rfl ⟨x1, rfl, h⟩

/- slices.Clone[[]uint32,uint32] -/
def W_slices_Clone_334 (s1 : Option Addr) (s1n : Nat) (s1c : Nat) (w : World) (R : (Option Addr) → Nat → Nat → World → Prop) : Prop :=
  ∃ (t1 : Bool), (∀ w : World, ((do eqGuard .eql 31 (.tmp 3) (.const (.slice none 0 0)) (.slice s1 s1n s1c) (.slice none 0 0); binOp .eql 31 (.slice s1 s1n s1c) (.slice none 0 0) : Sem Value)).run Try.prog w = .ok (.bool t1) w) ∧ ((t1 = true → R none 0 0 w) ∧ (t1 = false → ∀ b1 : Nat, b1 = World.size w → ∀ w1 : World, w1 = World.alloc w (.cells #[] 22) → (∃ (l1 : Option Addr) (l1n : Nat) (l1c : Nat) (w2 : World), (Builtin.append_ #[31, 31] 31 #[.slice (some (⟨b1, 0, none⟩ : Addr)) 0 0, .slice s1 s1n s1c]).run Try.prog w1 = .ok (.slice l1 l1n l1c) w2 ∧ (R l1 l1n l1c w2))))
set_option maxRecDepth 100000 in
theorem go_slices_Clone_334 (s1 : Option Addr) (s1n : Nat) (s1c : Nat) (w : World) (R : (Option Addr) → Nat → Nat → World → Prop) (h : W_slices_Clone_334 s1 s1n s1c w R) : Calls Try.prog 111 #[.slice s1 s1n s1c] w (fun e w' => ∃ (r1 : Option Addr) (r1n : Nat) (r1c : Nat), e = .returned (.slice r1 r1n r1c) ∧ R r1 r1n r1c w') := by
  unfold W_slices_Clone_334 at h
  refine enter (N := 8) Try.func111 rfl rfl ?_
  refine CW.seq ?_
  refine CW.region fun L hL => ?_
  refine LW.rd hL rfl (Wants.free rfl) rfl (Rd.assign (v := .slice none 0 0) rfl) ?_
  refine LW.nil hL rfl ?_
  refine NW.then ?_
  refine CW.seq ?_
  refine CW.seq ?_
  refine CW.region fun L hL => ?_
  refine LW.rd hL rfl (Wants.free rfl) rfl (Rd.move (v := .slice s1 s1n s1c) rfl) ?_
  obtain ⟨t1, hx1, h⟩ := h
  refine LW.rd hL rfl (Wants.free rfl) rfl (Rd.bin (v := .bool t1) rfl rfl hx1) ?_
  refine LW.nil hL rfl ?_
  refine NW.then ?_
  refine CW.cond rfl (fun hb1 => ?_) (fun hb1 => ?_)
  · replace h := h.1 hb1
    refine CW.seq ?_
    refine CW.region fun L hL => ?_
    refine LW.rd hL rfl (Wants.free rfl) rfl (Rd.assign (v := .slice none 0 0) rfl) ?_
    refine LW.nil hL rfl ?_
    refine NW.then ?_
    refine CW.ret ?_
    refine RW.then ?_
    exact res1 rfl rfl ⟨none, 0, 0, rfl, h⟩
  · replace h := h.2 hb1
    refine CW.skip ?_
    refine NW.then ?_
    refine CW.seq ?_
    refine CW.region fun L hL => ?_
    obtain ⟨b1, hb_b1⟩ : ∃ b1, b1 = World.size w := ⟨_, rfl⟩
    obtain ⟨w1, hw_w1⟩ : ∃ w1, w1 = World.alloc w (.cells #[] 22) := ⟨_, rfl⟩
    replace h := h b1 hb_b1 w1 hw_w1
    refine LW.val hL rfl (Wants.free rfl) rfl (sliceE (n := 0) hb_b1 hw_w1 (fun w => Vl.buildSlice (vs := []) rfl (by kernel_rfl))) ?_
    refine LW.rd hL rfl (Wants.free rfl) rfl (Rd.move (v := .slice s1 s1n s1c) rfl) ?_
    obtain ⟨l1, l1n, l1c, w2, ha1, h⟩ := h
    refine LW.val hL rfl (Wants.free rfl) rfl (Vl.builtin (v := .slice l1 l1n l1c) rfl (valB ha1)) ?_
    refine LW.rd hL rfl (Wants.free rfl) rfl (Rd.assign (v := .slice l1 l1n l1c) rfl) ?_
    refine LW.nil hL rfl ?_
    refine NW.then ?_
    refine CW.ret ?_
    exact res1 rfl rfl ⟨l1, l1n, l1c, rfl, h⟩

end Go.Proofs.Ytkfncibmfcdokaa
end

/- XClone -/
section
/- maps.Clone, slices.Clone; Copy of a table, of a flow. -/
set_option linter.unusedVariables false
set_option linter.unusedSimpArgs false
namespace Go.Proofs.Ytkfncibmfcdokaa
open Go Go.RowKit Go.X Go.XR

theorem run_clone {P : Program} {w : World} {r : Nat} {es : Array MapEntry} {clk : Nat} (t : TypeId) (hb : w.heap[r]? = some (.map es clk)) :
    (Extern.MapsClone.clone #[.iface t (.map (some r))]).run P w = .ok (.iface t (.map (some w.heap.size))) (w.alloc (.map es clk)) := by
  have e : Extern.MapsClone.clone #[.iface t (.map (some r))] = (getObj r >>= fun o => match o with
      | .map entries clock => (newObj (.map entries clock) >>= fun n => pure (.iface t (.map (some n))))
      | _ => stuck "maps.clone: a map expected") := rfl
  rw [e]
  simp [MapKept.run_getObj_map hb, Result.andThen, go_sem]
theorem run_clone114 {w : World} {r : Nat} {es : Array MapEntry} {clk : Nat} (t : TypeId) (hb : w.heap[r]? = some (.map es clk)) :
    (callFunc 114 #[.iface t (.map (some r))]).run Try.prog w = .ok (.value (.iface t (.map (some w.heap.size)))) (w.alloc (.map es clk)) := by
  rw [run_callFunc_extern Try.func114 (by kernel_rfl) (by kernel_rfl) (by kernel_rfl) (e := Extern.MapsClone.clone) (by kernel_rfl), run_clone t hb]
  rfl
theorem run_assertMap {P : Program} (t xT k e : TypeId) (v : Value) (h : P.underlying t = some (.map k e)) (w : World) : (Instr.typeAssert (.iface t v) xT t false).run P w = .ok v w := by
  simp [Instr.typeAssert, run_underlying h, go_sem, Result.andThen]

theorem clone80 {w : World} {b : Nat} {es : Array MapEntry} {clk : Nat} (hb : w.heap[b]? = some (.map es clk)) :
    Calls Try.prog 80 #[.map (some b)] w fun e w' => ∃ r : Option Nat, e = .returned (.map r) ∧ (r = some w.heap.size ∧ w' = w.alloc (.map es clk)) := by
  refine go_maps_Clone_134 _ _ _ ?_
  unfold W_maps_Clone_134
  exact ⟨fun h => by simp at h, fun _ => ⟨_, _, run_clone114 143 hb, _, fun w => run_assertMap 143 20 _ _ _ u143 w, rfl, rfl⟩⟩
theorem clone112 {w : World} {b : Nat} {es : Array MapEntry} {clk : Nat} (hb : w.heap[b]? = some (.map es clk)) :
    Calls Try.prog 112 #[.map (some b)] w fun e w' => ∃ r : Option Nat, e = .returned (.map r) ∧ (r = some w.heap.size ∧ w' = w.alloc (.map es clk)) := by
  refine go_maps_Clone_416 _ _ _ ?_
  unfold W_maps_Clone_416
  exact ⟨fun h => by simp at h, fun _ => ⟨_, _, run_clone114 198 hb, _, fun w => run_assertMap 198 20 _ _ _ u198 w, rfl, rfl⟩⟩
theorem clone113 {w : World} {b : Nat} {es : Array MapEntry} {clk : Nat} (hb : w.heap[b]? = some (.map es clk)) :
    Calls Try.prog 113 #[.map (some b)] w fun e w' => ∃ r : Option Nat, e = .returned (.map r) ∧ (r = some w.heap.size ∧ w' = w.alloc (.map es clk)) := by
  refine go_maps_Clone_413 _ _ _ ?_
  unfold W_maps_Clone_413
  exact ⟨fun h => by simp at h, fun _ => ⟨_, _, run_clone114 199 hb, _, fun w => run_assertMap 199 20 _ _ _ (show Try.prog.underlying 199 = some (.map 210 3) by kernel_rfl) w, rfl, rfl⟩⟩

theorem slice_nil_eq (a : Addr) (n c : Nat) (x y : Operand) (w : World) : ((do eqGuard .eql 31 x y (.slice (some a) n c) (.slice none 0 0); binOp .eql 31 (.slice (some a) n c) (.slice none 0 0) : Sem Value)).run Try.prog w = .ok (.bool false) w := by
  simp only [binOp]
  simp [eqGuard, run_equal_slice_nil w 31 22 (some a) n c (show Try.prog.underlying 31 = some (.slice 22) by kernel_rfl)]
theorem clone111 {w : World} {a : Addr} {n c : Nat} {xs : List Int} (h : RowAt w 22 1 (some a) n c (xs.map (.int .u32))) (hn : n ≤ 1000000000) :
    Calls Try.prog 111 #[.slice (some a) n c] w fun e w' => ∃ (r : Option Addr) (rn rc : Nat), e = .returned (.slice r rn rc) ∧ (rn = n ∧ RowAt w' 22 1 r n rc (xs.map (.int .u32)) ∧ Chg [] w w' ∧ ∀ i ∈ rowB r, w.heap.size ≤ i) := by
  refine go_slices_Clone_334 _ _ _ _ _ ?_
  unfold W_slices_Clone_334
  refine ⟨false, slice_nil_eq a n c _ _, fun h => by simp at h, fun _ => ?_⟩
  refine v_alloc fun b1 w1 e1 hb1 c1 => ?_
  have hl := h.length
  have h0 : RowAt w1 22 1 (some ⟨b1, 0, none⟩) 0 0 [] := RowAt.of_heap (n := 0) (cs := []) hb1 rfl (Nat.zero_le _)
  obtain ⟨p', c', w', happ, hrow, hc, hf⟩ := h0.append (P := Try.prog) (t := 31) (ty := 31) (i := _) (z := .int .u32 0) (bytes := 4) (by kernel_rfl) (show Try.prog.info? 22 = some Try.t22 by kernel_rfl) (by kernel_rfl) (by kernel_rfl) (by kernel_rfl) rfl (by omega)
    (a := a) (m := n) (mc := c) (news := xs.map (.int .u32)) (by simpa using hl) (fun i u hi => by
      obtain ⟨a', ea, hc⟩ := (h.chg c1 (by simp)).at hi
      obtain rfl : a = a' := by simpa using ea
      exact hc) (fun u hu => by obtain ⟨x, _, rfl⟩ := List.mem_map.1 hu; rfl) (by simp only [maxLen]; omega) (by omega)
  refine ⟨p', 0 + n, c', w', happ, by omega, by simpa using hrow, c1.trans hc (fun i hi hlt => by simp [rowB] at hi; omega), fun i hi => ?_⟩
  rcases hf i hi with h | h
  · simp [rowB] at h; omega
  · have := c1.size; omega

theorem table_copy {w : World} {b : Nat} {most : Int} {sets : List Int} {fp : List Nat} (h : TableAt w b most sets fp) :
    Calls Try.prog 79 #[.pointer (some ⟨b, 0, none⟩)] w fun e w' => ∃ r1 : Option Addr, e = .returned (.pointer r1) ∧ (∃ b' fp', r1 = some ⟨b', 0, none⟩ ∧ TableAt w' b' most sets fp' ∧ Chg [] w w' ∧ ∀ i ∈ fp', w.heap.size ≤ i) := by
  obtain ⟨p, c, r, j, clk, h1, h2, h3, h4, rfl⟩ := h.there
  refine go_labels_Table_Copy _ _ _ ?_
  unfold W_labels_Table_Copy
  refine (table_none h).mono ?_
  rintro _ w1 ⟨_, rfl, rfl, hw⟩
  subst w1
  refine ⟨_, rfl, fun h => by simp at h, fun _ w2 c2 => ?_⟩
  obtain ⟨a, rfl⟩ : ∃ a, p = some a := by
    cases p with
    | some a => exact ⟨a, rfl⟩
    | none =>
      exfalso
      obtain ⟨s, hs⟩ : ∃ s, (sets.map (Value.int .u32))[0]? = some s := by
        have := h.some
        cases sets with
        | nil => exact absurd rfl this
        | cons a l => exact ⟨_, rfl⟩
      obtain ⟨a, ha, _⟩ := h2.at hs
      cases ha
  have h12 := c2.obj (by simp) h1
  have cells : ∀ {A : World}, A.heap[b]? = some (.cells #[.int .i64 most, .slice (some a) sets.length c, .map (some r), .map (some j)] 201 (0, 0)) →
      A.cell? (⟨b, 0, none⟩ : Addr) = some (.int .i64 most) ∧ A.cell? ((⟨b, 0, none⟩ : Addr).add 1) = some (.slice (some a) sets.length c) ∧ A.cell? ((⟨b, 0, none⟩ : Addr).add 2) = some (.map (some r)) ∧ A.cell? ((⟨b, 0, none⟩ : Addr).add 3) = some (.map (some j)) := fun hA =>
    ⟨by rw [cell_of hA]; rfl, by rw [add_at, cell_of hA]; rfl, by rw [add_at, cell_of hA]; rfl, by rw [add_at, cell_of hA]; rfl⟩
  have k2 := cells h12
  have hm := h.most2
  have hfw := h.few
  refine ⟨_, rfl, _, k2.1, _, _, _, k2.2.1, _, k2.2.2.1, _, k2.2.2.2, ?_⟩
  refine (clone111 (h2.chg c2 (by simp)) (by omega)).mono ?_
  rintro _ w3 ⟨q, qn, qc, rfl, rfl, hq, c3, hqf⟩
  have c03 := c2.trans0 c3
  have k3 := cells (c03.obj (by simp) h1)
  refine ⟨_, _, _, rfl, ⟨k3.1, k3.2.1, k3.2.2.1, k3.2.2.2⟩, ?_⟩
  obtain ⟨es, ck, m1, m2⟩ := h3.chg c03 (by simp)
  refine (clone112 m1).mono ?_
  rintro _ w4 ⟨_, rfl, rfl, hw⟩
  have c4 : Chg [] w3 w4 := by rw [hw]; exact Chg.alloc _ _
  have m14 : w4.heap[w3.heap.size]? = some (.map es ck) := by rw [hw]; exact heap_new _ _
  have k4 := cells ((c03.trans0 c4).obj (by simp) h1)
  refine ⟨_, rfl, ⟨k4.1, k4.2.1, k4.2.2.1, k4.2.2.2⟩, ?_⟩
  refine (clone113 ((c03.trans0 c4).obj (by simp) h4)).mono ?_
  rintro _ w5 ⟨_, rfl, rfl, hw5⟩
  have c5 : Chg [] w4 w5 := by rw [hw5]; exact Chg.alloc _ _
  have m15 : w5.heap[w4.heap.size]? = some (.map #[] clk) := by rw [hw5]; exact heap_new _ _
  have c05 := (c03.trans0 c4).trans0 c5
  have k5 := cells (c05.obj (by simp) h1)
  refine ⟨_, rfl, ⟨k5.1, k5.2.1, k5.2.2.1, k5.2.2.2⟩, ?_⟩
  refine v_alloc fun b1 w6 e1 hb1 c6 => ?_
  have s2 := c2.size
  have s3 := c3.size
  have s4 : w4.heap.size = w3.heap.size + 1 := by rw [hw]; simp
  have s5 : w5.heap.size = w4.heap.size + 1 := by rw [hw5]; simp
  have hqlt := hq.lt
  refine ⟨b1, b1 :: w3.heap.size :: w4.heap.size :: rowB q, rfl, ⟨⟨q, qc, w3.heap.size, w4.heap.size, clk, hb1, ((hq.chg c4 (by simp)).chg c5 (by simp)).chg c6 (by simp), ⟨es, ck, c6.obj (by simp) (c5.obj (by simp) m14), m2⟩, c6.obj (by simp) m15, rfl⟩, ?_, h.some, h.few, h.most1, h.most2, h.each, h.distinct⟩, c05.trans0 c6, fun i hi => ?_⟩
  · simp only [List.nodup_cons, List.mem_cons, not_or]
    exact ⟨⟨by omega, by omega, fun hm => by have := hqlt _ hm; omega⟩, ⟨by omega, fun hm => by have := hqlt _ hm; omega⟩, fun hm => by have := hqlt _ hm; omega, rowB_nodup _⟩
  · simp only [List.mem_cons] at hi
    rcases hi with rfl | rfl | rfl | hi
    · omega
    · omega
    · omega
    · have := hqf i hi; omega

theorem flow_copy {w : World} {b : Nat} {F : Fl} {fp : List Nat} (h : FlowAt w b F fp) :
    Calls Try.prog 37 #[.pointer (some ⟨b, 0, none⟩)] w fun e w' => ∃ r1 : Option Addr, e = .returned (.pointer r1) ∧ (∃ b' fp', r1 = some ⟨b', 0, none⟩ ∧ FlowAt w' b' F fp' ∧ Chg [] w w' ∧ ∀ i ∈ fp', w.heap.size ≤ i) := by
  obtain ⟨T, m, d, r, l, fpT, fpm, fpd, gm, gd, h1, h2, h3, h4, h5, h6, h7, h8, h9, rfl⟩ := h.there
  refine go_flow_Flow_Copy _ _ _ ?_
  unfold W_flow_Flow_Copy
  refine (flow_none h).mono ?_
  rintro _ w1 ⟨_, rfl, rfl, hw⟩
  subst w1
  refine ⟨_, rfl, fun h => by simp at h, fun _ w2 c2 => ?_⟩
  have cells : ∀ {A : World}, A.heap[b]? = some (.cells #[.int .i64 F.fr, .int .i64 F.se, .pointer (some ⟨T, 0, none⟩), .pointer (some ⟨m, 0, none⟩), .pointer (some ⟨d, 0, none⟩), .map (some r)] 145 (0, 0)) →
      CellsAt A (⟨b, 0, none⟩ : Addr) 0 [.int .i64 F.fr, .int .i64 F.se] ∧ A.cell? ((⟨b, 0, none⟩ : Addr).add 2) = some (.pointer (some ⟨T, 0, none⟩)) ∧ A.cell? ((⟨b, 0, none⟩ : Addr).add 3) = some (.pointer (some ⟨m, 0, none⟩)) ∧ A.cell? ((⟨b, 0, none⟩ : Addr).add 4) = some (.pointer (some ⟨d, 0, none⟩)) ∧ A.cell? ((⟨b, 0, none⟩ : Addr).add 5) = some (.map (some r)) := fun hA =>
    ⟨⟨by rw [add_at, cell_of hA]; rfl, by rw [add_at, cell_of hA]; rfl, trivial⟩, by rw [add_at, cell_of hA]; rfl, by rw [add_at, cell_of hA]; rfl, by rw [add_at, cell_of hA]; rfl, by rw [add_at, cell_of hA]; rfl⟩
  have k2 := cells (c2.obj (by simp) h1)
  refine ⟨_, rfl, _, _, k2.1, _, k2.2.1, _, k2.2.2.1, _, k2.2.2.2.1, _, k2.2.2.2.2, ?_⟩
  refine (table_copy (h2.chg c2 (by simp))).mono ?_
  rintro _ w3 ⟨_, rfl, T', fpT', rfl, hT', c3, hfT⟩
  have c03 := c2.trans0 c3
  refine ⟨_, rfl, cells (c03.obj (by simp) h1), ?_⟩
  refine (shadow_copy (h3.chg c03 (by simp))).mono ?_
  rintro _ w4 ⟨_, rfl, m', fpm', rfl, hm', c4, hfm⟩
  have c04 := c03.trans0 c4
  refine ⟨_, rfl, cells (c04.obj (by simp) h1), ?_⟩
  refine (shadow_copy (h4.chg c04 (by simp))).mono ?_
  rintro _ w5 ⟨_, rfl, d', fpd', rfl, hd', c5, hfd⟩
  have c05 := c04.trans0 c5
  refine ⟨_, rfl, cells (c05.obj (by simp) h1), ?_⟩
  obtain ⟨es, ck, m1, m2⟩ := h5.chg c05 (by simp)
  refine (clone80 m1).mono ?_
  rintro _ w6 ⟨_, rfl, rfl, hw6⟩
  have c6 : Chg [] w5 w6 := by rw [hw6]; exact Chg.alloc _ _
  have m16 : w6.heap[w5.heap.size]? = some (.map es ck) := by rw [hw6]; exact heap_new _ _
  refine ⟨_, rfl, cells ((c05.trans0 c6).obj (by simp) h1), ?_⟩
  refine v_alloc fun b1 w7 e1 hb1 c7 => ?_
  have s2 := c2.size
  have s3 := c3.size
  have s4 := c4.size
  have s5 := c5.size
  have s6 : w6.heap.size = w5.heap.size + 1 := by rw [hw6]; simp
  have t1 := hT'.lt
  have t2 := hm'.lt
  have t3 := hd'.lt
  have c37 := ((c4.trans0 c5).trans0 c6).trans0 c7
  refine ⟨b1, b1 :: w5.heap.size :: (fpT' ++ (fpm' ++ fpd')), rfl, ⟨⟨T', m', d', w5.heap.size, l, fpT', fpm', fpd', gm, gd, hb1, hT'.chg c37 (by simp), hm'.chg ((c5.trans0 c6).trans0 c7) (by simp), hd'.chg (c6.trans0 c7) (by simp), ⟨es, ck, c7.obj (by simp) m16, m2⟩, h6, h7, h8, h9, rfl⟩, ?_⟩, (c05.trans0 c6).trans0 c7, fun i hi => ?_⟩
  · have u1 := hT'.nodup
    have u2 := hm'.nodup
    have u3 := hd'.nodup
    simp only [List.nodup_cons, List.mem_cons, List.mem_append, not_or, List.nodup_append]
    refine ⟨⟨by omega, fun hm => by have := t1 _ hm; omega, fun hm => by have := t2 _ hm; omega, fun hm => by have := t3 _ hm; omega⟩, ⟨fun hm => by have := t1 _ hm; omega, fun hm => by have := t2 _ hm; omega, fun hm => by have := t3 _ hm; omega⟩, u1, ⟨u2, u3, fun a ha c hc e => ?_⟩, fun a ha c hc e => ?_⟩
    · have := t2 a ha; have := hfd c hc; omega
    · have := t1 a ha
      rcases hc with hc | hc
      · have := hfm c hc; omega
      · have := hfd c hc; omega
  · simp only [List.mem_cons, List.mem_append] at hi
    rcases hi with rfl | rfl | hi | hi | hi
    · omega
    · omega
    · have := hfT i hi; omega
    · have := hfm i hi; omega
    · have := hfd i hi; omega
end Go.Proofs.Ytkfncibmfcdokaa
end

/- XGall -/
section
set_option linter.unusedVariables false
set_option linter.unusedSimpArgs false
namespace Go.Proofs.Ytkfncibmfcdokaa
open Go Go.X

/- (*pomander/flow.Flow).all -/
def W_flow_Flow_all (f1 : Option Addr) (w : World) (R : (Option Nat) → World → Prop) : Prop :=
  ∃ a1 : Addr, f1 = some a1 ∧ (∃ (t1 : Option Nat), w.cell? (a1.add 5) = some (.map t1) ∧ (Calls Try.prog 80 #[.map t1] w fun e w1 => ∃ (r2 : Option Nat), e = .returned (.map r2) ∧ (∀ (b1 : Nat) (w3 : World), (w1.heap.size ≤ b1 ∧ b1 < w3.heap.size) → Chg [] w1 w3 → (∃ (t2 : Option Addr), w3.cell? (a1.add 3) = some (.pointer t2) ∧ (Calls Try.prog 50 #[.pointer t2] w3 fun e w4 => ∃ (r3 : Value), e = .returned (r3) ∧ (Same w3 w4 [b1] ∧ (∃ (S1 Sp1 : List (Int × Int) → Prop) (keep1 : List Nat), XR.IsFn Try.prog r3 ∧ XR.Iterates Try.prog r3 (fun x : Int × Int => #[.int .i64 x.1, .int .u32 x.2]) S1 Sp1 keep1 w4 ∧ (∀ i_ ∈ keep1, i_ < w4.heap.size) ∧ ∃ (I1 : List Nat → List (Int × Int) → World → Prop), (∀ (pre_ : List (Int × Int)), XR.Stab w4 (fun O_ w_ => I1 O_ pre_ w_)) ∧ (∀ (O1 : List Nat) (w5 : World), Chg [] w4 w5 → XR.InO w4 O1 w5 → I1 O1 ([]) w5) ∧ (∀ (l1 : Nat) (O1 : List Nat) (pre1 : List (Int × Int)) (x1 : Int) (x2 : Int) (w5 : World), XR.InO w4 O1 w5 → l1 ∈ O1 → Sp1 (pre1 ++ [(x1, x2)]) → I1 O1 pre1 w5 → (∀ (w6 : World), Chg [l1] w5 w6 → (∃ w7 : World, (Instr.mapUpdate 143 (.map r2) (.agg #[.int .i64 10, .int .i64 x1]) (.int .u32 x2)).run Try.prog w6 = .ok () w7 ∧ (Same w6 w7 [b1] ∧ ((w6.heap.size ≤ w7.heap.size ∧ I1 O1 (pre1 ++ [(x1, x2)]) w7 ∧ Same w6 w7 (keep1 ++ O1))))))) ∧ (∀ (d1 : Nat) (O2 : List Nat) (xs1 : List (Int × Int)) (w8 : World), XR.InO w4 O2 w8 → d1 ∈ O2 → S1 xs1 → I1 O2 xs1 w8 → (∃ (t3 : Option Addr), w8.cell? (a1.add 4) = some (.pointer t3) ∧ (Calls Try.prog 50 #[.pointer t3] w8 fun e w9 => ∃ (r4 : Value), e = .returned (r4) ∧ (Same w8 w9 [b1, d1] ∧ (∃ (S2 Sp2 : List (Int × Int) → Prop) (keep2 : List Nat), XR.IsFn Try.prog r4 ∧ XR.Iterates Try.prog r4 (fun x : Int × Int => #[.int .i64 x.1, .int .u32 x.2]) S2 Sp2 keep2 w9 ∧ (∀ i_ ∈ keep2, i_ < w9.heap.size) ∧ ∃ (I2 : List Nat → List (Int × Int) → World → Prop), (∀ (pre_ : List (Int × Int)), XR.Stab w9 (fun O_ w_ => I2 O_ pre_ w_)) ∧ (∀ (O3 : List Nat) (w10 : World), Chg [] w9 w10 → XR.InO w9 O3 w10 → I2 O3 ([]) w10) ∧ (∀ (l2 : Nat) (O3 : List Nat) (pre2 : List (Int × Int)) (x3 : Int) (x4 : Int) (w10 : World), XR.InO w9 O3 w10 → l2 ∈ O3 → Sp2 (pre2 ++ [(x3, x4)]) → I2 O3 pre2 w10 → (∀ (w11 : World), Chg [l2] w10 w11 → (∃ w12 : World, (Instr.mapUpdate 143 (.map r2) (.agg #[.int .i64 12, .int .i64 x3]) (.int .u32 x4)).run Try.prog w11 = .ok () w12 ∧ (Same w11 w12 [b1, d1] ∧ ((w11.heap.size ≤ w12.heap.size ∧ I2 O3 (pre2 ++ [(x3, x4)]) w12 ∧ Same w11 w12 (keep2 ++ O3))))))) ∧ (∀ (d2 : Nat) (O4 : List Nat) (xs2 : List (Int × Int)) (w13 : World), XR.InO w9 O4 w13 → d2 ∈ O4 → S2 xs2 → I2 O4 xs2 w13 → (∀ w14 : World, Chg [d2, d1] w13 w14 → (R r2 w14)))))))))))))))
set_option maxRecDepth 100000 in
theorem go_flow_Flow_all (f1 : Option Addr) (w : World) (R : (Option Nat) → World → Prop) (h : W_flow_Flow_all f1 w R) : Calls Try.prog 99 #[.pointer f1] w (fun e w' => ∃ (r1 : Option Nat), e = .returned (.map r1) ∧ R r1 w') := by
  unfold W_flow_Flow_all at h
  refine XR.enterM (N := 36) Try.func99 rfl rfl ?_
  refine CW.seq ?_
  refine CW.region fun L hL => ?_
  refine LW.rd hL rfl (Wants.free rfl) rfl (Rd.assign (v := .map none) rfl) ?_
  refine LW.nil hL rfl ?_
  refine NW.then ?_
  refine CW.seq ?_
  refine CW.region fun L hL => ?_
  refine LW.rd hL rfl (Wants.free rfl) rfl (Rd.move (v := .pointer f1) rfl) ?_
  obtain ⟨a1, ha1, h⟩ := h
  refine LW.rd hL rfl (Wants.free rfl) rfl (Rd.nil (q := a1) (by rw [← ha1]; rfl)) ?_
  refine LW.rd hL rfl (Wants.free rfl) rfl (Rd.fa (v := .pointer (some (a1.add 5))) rfl (fun _ => by kernel_rfl)) ?_
  obtain ⟨t1, hc1, h⟩ := h
  refine LW.rd hL rfl (Wants.free rfl) rfl (Rd.ld (v := .map t1) rfl (by kernel_rfl) (eqs hc1)) ?_
  refine LW.call hL rfl (Wants.free rfl) rfl (Cl.fn (f := 80) rfl Try.func80 (by kernel_rfl) rfl) h (fun e w1 h_ => ?_)
  clear h
  obtain ⟨r2, rfl, h⟩ := h_
  refine ⟨_, rfl, ?_⟩
  obtain ⟨b1, hb_b1⟩ : ∃ b1, b1 = World.size w1 := ⟨_, rfl⟩
  obtain ⟨w2, hw_w2⟩ : ∃ w2, w2 = World.alloc w1 (.cells #[.map none] 143) := ⟨_, rfl⟩
  refine LW.val hL rfl (Wants.free rfl) rfl (boxE hb_b1 hw_w2 (Vl.alloc (z := .map none) (by kernel_rfl))) ?_
  have hB := Boxes.alloc (cs := [.map none]) (T := 143) (Boxes.nil w1) hb_b1 hw_w2
  have hlo_b1 := sil_lo (Chg.refl [] w1) hb_b1
  have hc_w2 := sil_alloc (Chg.refl [] w1) hw_w2
  obtain ⟨w3, hw_w3⟩ : ∃ x, x = World.setCell w2 (⟨b1, 0, none⟩ : Addr) (.map r2) := ⟨_, rfl⟩
  refine LW.eff hL rfl (Wants.free rfl) rfl (stE hw_w3 (Ef.st rfl rfl rfl (by kernel_rfl) (box_cell (v := .map none) (hB.at (i := 0) rfl) rfl) (free_of (hB.at (i := 0) rfl) 0))) ?_
  replace hB : Boxes w3 [(b1, [.map r2], 143)] := Boxes.store1  (i := 0) (o := 0) hB rfl rfl rfl rfl hw_w3
  have hc_w3 := sil_new hc_w2 (sil_c1 hw_w3) hlo_b1
  refine LW.nil hL rfl ?_
  refine NW.then ?_
  refine CW.seq ?_
  refine CW.seq ?_
  refine CW.region fun L hL => ?_
  refine LW.rd hL rfl (Wants.free rfl) rfl (Rd.move (v := .pointer f1) rfl) ?_
  refine LW.rd hL rfl (Wants.free rfl) rfl (Rd.nil (q := a1) (by rw [← ha1]; rfl)) ?_
  refine LW.rd hL rfl (Wants.free rfl) rfl (Rd.fa (v := .pointer (some (a1.add 3))) rfl (fun _ => by kernel_rfl)) ?_
  replace h := h b1 w3 ⟨hlo_b1, lt_of_heap (hB.at (i := 0) rfl)⟩ hc_w3
  obtain ⟨t2, hc2, h⟩ := h
  refine LW.rd hL rfl (Wants.free rfl) rfl (Rd.ld (v := .pointer t2) rfl (by kernel_rfl) (eqs hc2)) ?_
  refine LW.call hL rfl (Wants.free rfl) rfl (Cl.fn (f := 50) rfl Try.func50 (by kernel_rfl) rfl) h (fun e w4 h_ => ?_)
  clear h
  obtain ⟨r3, rfl, h⟩ := h_
  obtain ⟨hsm1, h⟩ := h
  replace hB := Boxes.sameS hB hsm1 (by simp)
  refine ⟨_, rfl, ?_⟩
  refine LW.nil hL rfl ?_
  refine NW.then ?_
  refine CW.block ?_
  obtain ⟨S1, Sp1, keep1, hfn_, hit_, hkp_, I1, hst_I1, h0_, hrd_, hdn_⟩ := h
  refine XR.CW.rangeV (α := Int × Int) (enc := (fun x : Int × Int => #[.int .i64 x.1, .int .u32 x.2])) (S := S1) (Sp := Sp1) (keep := keep1) rfl hfn_ (fun _ => rfl) (by decide) hit_ (fun (O_ : List Nat) (pre_ : List (Int × Int)) (w_ : World) => I1 O_ pre_ w_ ∧ Boxes w_ [(b1, [.map r2], 143)]) (fun (c_ : Code) (O_ : List Nat) (pre_ : List (Int × Int)) (w_ : World) => False) ?_ ?_ ?_ hkp_ ?_ ?_ ?_
  · intro pre_ O_ O2_ A_ B_ hi_ hO_ hc_ hO2_ hg_
    have hB0_ := hB
    obtain ⟨hi_, hB⟩ := hi_
    exact ⟨hst_I1  pre_ O_ O2_ A_ B_ hi_ hO_ hc_ hO2_ hg_, hB.stab hB0_ rfl hO_ hc_⟩
  · intro c_ pre_ O_ O2_ A_ B_ hi_ hO_ hc_ hO2_ hg_
    exact hi_.elim
  · intro O_ A_ hc_ hO_
    exact ⟨h0_ O_ A_ hc_ hO_, Boxes.chg hB hc_ (by simp)⟩
  · intro l1 O1 pre1 x_ w5 hO_ hl_ hSp_ hi_
    obtain ⟨x1, x2⟩ := x_
    obtain ⟨hi_, hB⟩ := hi_
    have h := hrd_ l1 O1 pre1 x1 x2 w5 hO_ hl_ hSp_ hi_
    refine XR.CW.seq ?_
    refine XR.CW.region fun L hL => ?_
    refine XR.LW.rd hL rfl (Wants.free rfl) rfl (Rd.assign (v := .int .i64 x1) rfl) ?_
    refine XR.LW.nil hL rfl ?_
    refine XR.NW.then ?_
    refine XR.CW.region fun L hL => ?_
    refine XR.LW.rd hL rfl (Wants.free rfl) rfl (Rd.assign (v := .int .u32 x2) rfl) ?_
    refine XR.LW.nil hL rfl ?_
    refine XR.NW.begin (Chg.refl [] w5) (fun w6 hcb_w6 hlp_ hib_ => ?_)
    have hc_w6 : Chg [l1] w5 w6 := sil_more (Chg.refl [] w5) hcb_w6
    replace hB := hB.notloop hlp_ hcb_w6
    replace h := h  w6  hc_w6
    refine XR.CW.block ?_
    refine XR.CW.region fun L hL => ?_
    refine XR.LW.rd hL rfl (Wants.free rfl) rfl (Rd.ld (v := .map r2) rfl (by kernel_rfl) (eqs (box_cell (hB.at (i := 0) rfl) rfl))) ?_
    refine XR.LW.rd hL rfl (Wants.free rfl) rfl (Rd.move (v := .int .i64 x1) rfl) ?_
    refine XR.LW.rd hL rfl (Wants.free rfl) rfl (Rd.build (v := .agg #[.int .i64 10, .int .i64 x1]) rfl (fun _ => by kernel_rfl)) ?_
    refine XR.LW.rd hL rfl (Wants.free rfl) rfl (Rd.move (v := .int .u32 x2) rfl) ?_
    obtain ⟨w7, hm1, h⟩ := h
    refine XR.LW.eff hL rfl (Wants.free rfl) rfl (Ef.mapUpdate rfl rfl rfl hm1) ?_
    obtain ⟨hsm2, h⟩ := h
    replace hB := Boxes.sameS hB hsm2 (by simp)
    refine XR.LW.nil hL rfl ?_
    refine NW.block ?_
    exact fun a_ ha_ => ⟨h.1, ⟨h.2.1, hB⟩, h.2.2⟩
  · intro d1 O2 xs1 w8 hO_ hd_ hdh_ hS_ hi_
    obtain ⟨hi_, hB⟩ := hi_
    have h := hdn_ d1 O2 xs1 w8 hO_ hd_ hS_ hi_
    have hK := XR.Marks.cons (XR.Marks.nil _) hdh_ (by simp)
    refine NW.block ?_
    refine NW.then ?_
    refine CW.seq ?_
    refine CW.seq ?_
    refine CW.region fun L hL => ?_
    refine LW.rd hL rfl (Wants.free rfl) rfl (Rd.move (v := .pointer f1) rfl) ?_
    refine LW.rd hL rfl (Wants.free rfl) rfl (Rd.nil (q := a1) (by rw [← ha1]; rfl)) ?_
    refine LW.rd hL rfl (Wants.free rfl) rfl (Rd.fa (v := .pointer (some (a1.add 4))) rfl (fun _ => by kernel_rfl)) ?_
    obtain ⟨t3, hc3, h⟩ := h
    refine LW.rd hL rfl (Wants.free rfl) rfl (Rd.ld (v := .pointer t3) rfl (by kernel_rfl) (eqs hc3)) ?_
    refine LW.call hL rfl (Wants.free rfl) rfl (Cl.fn (f := 50) rfl Try.func50 (by kernel_rfl) rfl) h (fun e w9 h_ => ?_)
    clear h
    obtain ⟨r4, rfl, h⟩ := h_
    obtain ⟨hsm3, h⟩ := h
    replace hB := Boxes.sameS hB hsm3 (by simp)
    replace hK := XR.Marks.same hK hsm3 (by simp)
    refine ⟨_, rfl, ?_⟩
    refine LW.nil hL rfl ?_
    refine NW.then ?_
    refine CW.block ?_
    obtain ⟨S2, Sp2, keep2, hfn_, hit_, hkp_, I2, hst_I2, h0_, hrd_, hdn_⟩ := h
    refine XR.CW.rangeV (α := Int × Int) (enc := (fun x : Int × Int => #[.int .i64 x.1, .int .u32 x.2])) (S := S2) (Sp := Sp2) (keep := keep2) rfl hfn_ (fun _ => rfl) (by decide) hit_ (fun (O_ : List Nat) (pre_ : List (Int × Int)) (w_ : World) => I2 O_ pre_ w_ ∧ XR.Marks w_ [d1] ∧ Boxes w_ [(b1, [.map r2], 143)]) (fun (c_ : Code) (O_ : List Nat) (pre_ : List (Int × Int)) (w_ : World) => False) ?_ ?_ ?_ hkp_ ?_ ?_ ?_
    · intro pre_ O_ O2_ A_ B_ hi_ hO_ hc_ hO2_ hg_
      have hB0_ := hB
      have hK0_ := hK
      obtain ⟨hi_, hK, hB⟩ := hi_
      exact ⟨hst_I2  pre_ O_ O2_ A_ B_ hi_ hO_ hc_ hO2_ hg_, hK.stab hK0_ hO_ hc_, hB.stab hB0_ rfl hO_ hc_⟩
    · intro c_ pre_ O_ O2_ A_ B_ hi_ hO_ hc_ hO2_ hg_
      exact hi_.elim
    · intro O_ A_ hc_ hO_
      exact ⟨h0_ O_ A_ hc_ hO_, hK.chg hc_ (by simp), Boxes.chg hB hc_ (by simp)⟩
    · intro l2 O3 pre2 x_ w10 hO_ hl_ hSp_ hi_
      obtain ⟨x3, x4⟩ := x_
      obtain ⟨hi_, hK, hB⟩ := hi_
      have h := hrd_ l2 O3 pre2 x3 x4 w10 hO_ hl_ hSp_ hi_
      refine XR.CW.seq ?_
      refine XR.CW.region fun L hL => ?_
      refine XR.LW.rd hL rfl (Wants.free rfl) rfl (Rd.assign (v := .int .i64 x3) rfl) ?_
      refine XR.LW.nil hL rfl ?_
      refine XR.NW.then ?_
      refine XR.CW.region fun L hL => ?_
      refine XR.LW.rd hL rfl (Wants.free rfl) rfl (Rd.assign (v := .int .u32 x4) rfl) ?_
      refine XR.LW.nil hL rfl ?_
      refine XR.NW.begin (Chg.refl [] w10) (fun w11 hcb_w11 hlp_ hib_ => ?_)
      have hc_w11 : Chg [l2] w10 w11 := sil_more (Chg.refl [] w10) hcb_w11
      replace hB := hB.notloop hlp_ hcb_w11
      replace hK := hK.notloop hlp_ hcb_w11
      replace h := h  w11  hc_w11
      refine XR.CW.block ?_
      refine XR.CW.region fun L hL => ?_
      refine XR.LW.rd hL rfl (Wants.free rfl) rfl (Rd.ld (v := .map r2) rfl (by kernel_rfl) (eqs (box_cell (hB.at (i := 0) rfl) rfl))) ?_
      refine XR.LW.rd hL rfl (Wants.free rfl) rfl (Rd.move (v := .int .i64 x3) rfl) ?_
      refine XR.LW.rd hL rfl (Wants.free rfl) rfl (Rd.build (v := .agg #[.int .i64 12, .int .i64 x3]) rfl (fun _ => by kernel_rfl)) ?_
      refine XR.LW.rd hL rfl (Wants.free rfl) rfl (Rd.move (v := .int .u32 x4) rfl) ?_
      obtain ⟨w12, hm2, h⟩ := h
      refine XR.LW.eff hL rfl (Wants.free rfl) rfl (Ef.mapUpdate rfl rfl rfl hm2) ?_
      obtain ⟨hsm4, h⟩ := h
      replace hB := Boxes.sameS hB hsm4 (by simp)
      replace hK := XR.Marks.same hK hsm4 (by simp)
      refine XR.LW.nil hL rfl ?_
      refine NW.block ?_
      exact fun a_ ha_ => ⟨h.1, ⟨h.2.1, hK, hB⟩, h.2.2⟩
    · intro d2 O4 xs2 w13 hO_ hd_ hdh_ hS_ hi_
      have hK0_ := hK
      obtain ⟨hi_, hK, hB⟩ := hi_
      have h := hdn_ d2 O4 xs2 w13 hO_ hd_ hS_ hi_
      have hK := XR.Marks.cons2 hK hK0_ (hO_ _ hd_).1 hdh_
      refine NW.block ?_
      refine NW.then ?_
      refine CW.seq ?_
      refine CW.region fun L hL => ?_
      refine LW.rd hL rfl (Wants.free rfl) rfl (Rd.ld (v := .map r2) rfl (by kernel_rfl) (eqs (box_cell (hB.at (i := 0) rfl) rfl))) ?_
      refine LW.rd hL rfl (Wants.free rfl) rfl (Rd.assign (v := .map r2) rfl) ?_
      refine LW.nil hL rfl ?_
      refine NW.then ?_
      refine CW.ret ?_
      exact XR.resM (ms := [d2, d1]) (vs := [.map r2]) hK rfl (fun w_ hc_ => ⟨(ResOK.t rfl ResOK.nil), r2, rfl, h w_ hc_⟩)
    · intro d3 c_ O5 xs3 w15 hO_ hd_ hdh_ hS_ hi_
      exact hi_.elim
  · intro d4 c_ O6 xs4 w16 hO_ hd_ hdh_ hS_ hi_
    exact hi_.elim

end Go.Proofs.Ytkfncibmfcdokaa
end

/- XFlowAll -/
section
/- Flows: the map of all places that have sets. -/
set_option linter.unusedVariables false
set_option linter.unusedSimpArgs false
namespace Go.Proofs.Ytkfncibmfcdokaa
open Go Go.RowKit Go.X Go.XR

/-- The places of a kind put into a map. -/
def addAll (c : Int) (xs : List (Int × Int)) (l : List ((Int × Int) × Int)) : List ((Int × Int) × Int) := xs.foldl (fun l x => upd (c, x.1) x.2 l) l
theorem addAll_append (c : Int) (xs ys : List (Int × Int)) (l : List ((Int × Int) × Int)) : addAll c (xs ++ ys) l = addAll c ys (addAll c xs l) := by simp [addAll]
theorem addAll_look (c : Int) (g : Int → Int) (l : List ((Int × Int) × Int)) (p : Int × Int) : ∀ k : Nat, lookK p (addAll c (someL g k) l) = if p.1 = c ∧ 0 ≤ p.2 ∧ p.2 < k ∧ g p.2 ≠ 0 then some (g p.2) else lookK p l
  | 0 => by
    rw [if_neg (by omega)]; rfl
  | k + 1 => by
    have ih := addAll_look c g l p k
    rw [someL_succ, addAll_append]
    by_cases hz : g k = 0
    · rw [if_pos hz]
      show lookK p (addAll c (someL g k) l) = _
      rw [ih]
      by_cases h : p.1 = c ∧ 0 ≤ p.2 ∧ p.2 < k ∧ g p.2 ≠ 0
      · rw [if_pos h, if_pos ⟨h.1, h.2.1, by omega, h.2.2.2⟩]
      · rw [if_neg h, if_neg]
        rintro ⟨h1, h2, h3, h4⟩
        refine h ⟨h1, h2, ?_, h4⟩
        rcases Decidable.em (p.2 = k) with e | e
        · rw [e] at h4; exact absurd hz h4
        · omega
    · rw [if_neg hz]
      show lookK p (upd (c, (k : Int)) (g k) (addAll c (someL g k) l)) = _
      rw [lookK_upd, ih]
      by_cases e : p = (c, (k : Int))
      · subst e
        rw [if_pos rfl, if_pos ⟨rfl, by simp only []; omega, by simp only []; omega, hz⟩]
      · rw [if_neg e]
        have e' : p.1 = c → p.2 ≠ k := fun h1 h2 => e (Prod.ext h1 h2)
        by_cases h : p.1 = c ∧ 0 ≤ p.2 ∧ p.2 < k ∧ g p.2 ≠ 0
        · rw [if_pos h, if_pos ⟨h.1, h.2.1, by omega, h.2.2.2⟩]
        · rw [if_neg h, if_neg]
          rintro ⟨h1, h2, h3, h4⟩
          exact h ⟨h1, h2, by have := e' h1; omega, h4⟩

def encU1 (n : Int) : Value := .int .u32 n
/-- What all places' map says. -/
structure AllIs (w : World) (m : Nat) (F : Fl) (L : List ((Int × Int) × Int)) : Prop where
  map : MapIs w m encP (fun n : Int => .int .u32 n) L
  look : ∀ p, lookK p L = if F.g p = 0 then none else some (F.g p)
  may : ∀ x ∈ L, mayP F.fr F.se x.1

theorem flow_all_map {w : World} {b : Nat} {F : Fl} {fp : List Nat} (h : FlowAt w b F fp) :
    Calls Try.prog 99 #[.pointer (some ⟨b, 0, none⟩)] w fun e w' => ∃ r2 : Option Nat, e = .returned (.map r2) ∧ ∃ m L, r2 = some m ∧ AllIs w' m F L ∧ Chg [] w w' ∧ w.heap.size ≤ m := by
  obtain ⟨T, m, d, r, l, fpT, fpm, fpd, gm, gd, h1, h2, h3, h4, h5, h6, h7, h8, h9, rfl⟩ := h.there
  have hlb := lt_of_heap h1
  refine go_flow_Flow_all _ _ _ ?_
  unfold W_flow_Flow_all
  obtain ⟨es, clk, m1, m2⟩ := h5
  refine ⟨_, rfl, some r, by rw [add_at, cell_of h1]; rfl, ?_⟩
  refine (clone80 m1).mono ?_
  rintro _ w1 ⟨_, rfl, rfl, hw⟩
  have c1 : Chg [] w w1 := by subst hw; exact Chg.alloc _ _
  have hm1 : MapIs w1 w.heap.size encP (fun n : Int => .int .u32 n) l := ⟨es, clk, by subst hw; exact heap_new w _, m2⟩
  have s1 := c1.size
  have lm1 := hm1.lt
  refine ⟨_, rfl, ?_⟩
  rintro b1 w3 ⟨i1, j1⟩ c3
  have s3 := c3.size
  have c03 := c1.trans0 c3
  refine ⟨_, by rw [add_at, cell_of (c03.obj (by simp) h1)]; rfl, ?_⟩
  refine (shadow_all (h3.chg c03 (by simp))).mono ?_
  rintro _ w4 ⟨_, rfl, cb, b', fp', rfl, hcb, hA, c4, hnew⟩
  have s4 := c4.size
  have hlA := hA.lt
  have hlcb := lt_of_heap hcb
  have c04 := c03.trans0 c4
  refine ⟨_, rfl, Same.chg c4 (by simp; omega), _, _, _, isFn93 cb, iterates_shadow hcb hA, by simp; exact ⟨hlcb, hlA⟩, ?_⟩
  refine ⟨fun O pre w' => ∃ k : Nat, k ≤ 64 * F.fr.toNat ∧ pre = someL gm k ∧ MapIs w' w.heap.size encP (fun n : Int => .int .u32 n) (addAll 10 (someL gm k) l) ∧ Chg [] w w' ∧ w4.heap.size ≤ w'.heap.size, ?_, ?_, ?_, ?_⟩
  · rintro pre O O' A B ⟨k, k1, k2, k3, k4, k5⟩ hO hc hO' hg
    have := hc.size
    exact ⟨k, k1, k2, k3.chg hc (fun hm => by have := (hO _ hm).1; omega), k4.trans hc (fun i hi hlt => by have := (hO i hi).1; omega), by omega⟩
  · intro O w5 c5 hO
    exact ⟨0, Nat.zero_le _, rfl, ((hm1.chg c3 (by simp)).chg c4 (by simp)).chg c5 (by simp), c04.trans0 c5, c5.size⟩
  · rintro l1 O pre x1 x2 w5 hO hl1 ⟨suf, hsuf⟩ ⟨k, k1, rfl, k3, k4, k5⟩ w6 c6
    have hl1' := hO l1 hl1
    have s6 := c6.size
    rw [List.append_assoc] at hsuf
    obtain ⟨j, rfl, hkj, hjn, rfl, hj0, hz, hnext⟩ := someL_next (64 * F.fr.toNat - k) k (by omega) hsuf
    have hm6 := k3.chg c6 (fun hm => by simp at hm; omega)
    obtain ⟨w7, hrun, c7, s7, hm7⟩ := hm6.update (P := Try.prog) (T := 143) u143 keyPlace (10, (j : Int)) (gm j)
    refine ⟨w7, hrun, Same.of c7 (fun i hi => by simp at hi; exact ⟨by omega, by simp; omega⟩), by omega, ⟨j + 1, by omega, hnext.symm, ?_, (k4.trans c6 (fun i hi hlt => by simp at hi; omega)).trans c7 (fun i hi hlt => by simp at hi; omega), by omega⟩, Same.of c7 (fun i hi => ?_)⟩
    · rw [hnext, addAll_append]; exact hm7
    · rcases List.mem_append.1 hi with h | h
      · have h1 := hnew i h
        have h2 : i < w4.heap.size := by
          rcases List.mem_cons.1 h with e | e
          · omega
          · exact hlA i e
        exact ⟨by omega, by simp; omega⟩
      · have := hO i h
        exact ⟨by omega, by simp; omega⟩
  · rintro d1 O xs w8 hO hd1 hxs ⟨k, k1, hxs', k3, k4, k5⟩
    have hd1' := hO d1 hd1
    rw [hxs'.symm.trans hxs] at k3
    refine ⟨_, by rw [add_at, cell_of (k4.obj (by simp) h1)]; rfl, ?_⟩
    refine (shadow_all (h4.chg k4 (by simp))).mono ?_
    rintro _ w9 ⟨_, rfl, cb2, b2', fp2', rfl, hcb2, hA2, c9, hnew2⟩
    have s9 := c9.size
    have hlA2 := hA2.lt
    have hlcb2 := lt_of_heap hcb2
    have c09 := k4.trans0 c9
    refine ⟨_, rfl, Same.chg c9 (by simp; omega), _, _, _, isFn93 cb2, iterates_shadow hcb2 hA2, by simp; exact ⟨hlcb2, hlA2⟩, ?_⟩
    refine ⟨fun O pre w' => ∃ k : Nat, k ≤ 64 * F.se.toNat ∧ pre = someL gd k ∧ MapIs w' w.heap.size encP (fun n : Int => .int .u32 n) (addAll 12 (someL gd k) (addAll 10 (someL gm (64 * F.fr.toNat)) l)) ∧ Chg [] w w' ∧ w9.heap.size ≤ w'.heap.size, ?_, ?_, ?_, ?_⟩
    · rintro pre O O' A B ⟨k, k1, k2, k3, k4, k5⟩ hO hc hO' hg
      have := hc.size
      exact ⟨k, k1, k2, k3.chg hc (fun hm => by have := (hO _ hm).1; omega), k4.trans hc (fun i hi hlt => by have := (hO i hi).1; omega), by omega⟩
    · intro O w10 c10 hO
      exact ⟨0, Nat.zero_le _, rfl, (k3.chg c9 (by simp)).chg c10 (by simp), c09.trans0 c10, c10.size⟩
    · rintro l2 O pre x3 x4 w10 hO hl2 ⟨suf, hsuf⟩ ⟨k, k1, rfl, k3, k4, k5⟩ w11 c11
      have hl2' := hO l2 hl2
      have s11 := c11.size
      rw [List.append_assoc] at hsuf
      obtain ⟨j, rfl, hkj, hjn, rfl, hj0, hz, hnext⟩ := someL_next (64 * F.se.toNat - k) k (by omega) hsuf
      have hm11 := k3.chg c11 (fun hm => by simp at hm; omega)
      obtain ⟨w12, hrun, c12, s12, hm12⟩ := hm11.update (P := Try.prog) (T := 143) u143 keyPlace (12, (j : Int)) (gd j)
      refine ⟨w12, hrun, Same.of c12 (fun i hi => by simp at hi; exact ⟨by omega, by simp; omega⟩), by omega, ⟨j + 1, by omega, hnext.symm, ?_, (k4.trans c11 (fun i hi hlt => by simp at hi; omega)).trans c12 (fun i hi hlt => by simp at hi; omega), by omega⟩, Same.of c12 (fun i hi => ?_)⟩
      · rw [hnext, addAll_append]; exact hm12
      · rcases List.mem_append.1 hi with h | h
        · have h1 := hnew2 i h
          have h2 : i < w9.heap.size := by
            rcases List.mem_cons.1 h with e | e
            · omega
            · exact hlA2 i e
          exact ⟨by omega, by simp; omega⟩
        · have := hO i h
          exact ⟨by omega, by simp; omega⟩
    · rintro d2 O2 xs2 w13 hO2 hd2 hxs2 ⟨k, k1, hxs2', k3', k4', k5'⟩ w14 c14
      have hd2' := hO2 d2 hd2
      rw [hxs2'.symm.trans hxs2] at k3'
      have hlook : ∀ p, lookK p (addAll 12 (someL gd (64 * F.se.toNat)) (addAll 10 (someL gm (64 * F.fr.toNat)) l)) = if F.g p = 0 then none else some (F.g p) := fun p => by
        have hl0 : ∀ q : Int × Int, q.1 = 10 ∨ q.1 = 12 → lookK q l = none := fun q hq => lookK_none.2 fun x hx e => by
          have := h9 x hx
          rw [e] at this
          omega
        have hp3 := h3.pages1
        have hp4 := h4.pages1
        rw [addAll_look, addAll_look]
        obtain ⟨c, n⟩ := p
        by_cases e1 : c = 12
        · subst e1
          rw [h7]
          simp only []
          by_cases e2 : gd n = 0
          · rw [if_neg (by simp [e2]), if_neg (by omega), hl0 _ (.inr rfl), if_pos e2]
          · have : 0 ≤ n ∧ n < 64 * F.se := by
              rcases Decidable.em (0 ≤ n ∧ n < 64 * F.se) with h | h
              · exact h
              · exact absurd (h4.out (by omega)) e2
            rw [if_pos ⟨trivial, by omega, by omega, e2⟩, if_neg e2]
        · by_cases e3 : c = 10
          · subst e3
            rw [h6]
            simp only []
            rw [if_neg (by omega)]
            by_cases e2 : gm n = 0
            · rw [if_neg (by simp [e2]), hl0 _ (.inl rfl), if_pos e2]
            · have : 0 ≤ n ∧ n < 64 * F.fr := by
                rcases Decidable.em (0 ≤ n ∧ n < 64 * F.fr) with h | h
                · exact h
                · exact absurd (h3.out (by omega)) e2
              rw [if_pos ⟨trivial, by omega, by omega, e2⟩, if_neg e2]
          · rw [if_neg (by simp only []; omega), if_neg (by simp only []; omega), h8 (c, n) e3 e1]
            cases hl : lookK (c, n) l with
            | none => simp
            | some v =>
              have := h9 _ (lookK_mem hl)
              simp only [Option.getD_some]
              rw [if_neg (by simp only [] at this; omega)]
      have c014 : Chg [] w w14 := k4'.trans c14 (fun i hi hlt => by simp at hi; omega)
      have hmap := k3'.chg c14 (fun hm => by simp at hm; omega)
      refine ⟨_, _, rfl, ⟨hmap, hlook, fun x hx => ?_⟩, c014, Nat.le_refl _⟩
      obtain ⟨_, _, _, _, hnd, _⟩ := hmap
      have hl := (lookK_iff hnd).2 (show (x.1, x.2) ∈ _ from hx)
      rw [addAll_look, addAll_look] at hl
      have hw := h.wide
      obtain ⟨⟨c, n⟩, v⟩ := x
      simp only [] at hl ⊢
      by_cases e1 : c = 12 ∧ 0 ≤ n ∧ n < ((64 * F.se.toNat : Nat) : Int) ∧ gd n ≠ 0
      · obtain ⟨rfl, e2, e3, e4⟩ := e1
        have hb : boundP F.fr F.se 12 = 64 * F.se := rfl
        exact ⟨by simp, by simp, e2, by simp only []; rw [hb]; omega⟩
      · rw [if_neg e1] at hl
        by_cases e5 : c = 10 ∧ 0 ≤ n ∧ n < ((64 * F.fr.toNat : Nat) : Int) ∧ gm n ≠ 0
        · obtain ⟨rfl, e2, e3, e4⟩ := e5
          have hb : boundP F.fr F.se 10 = 64 * F.fr := rfl
          exact ⟨by simp, by simp, e2, by simp only []; rw [hb]; omega⟩
        · rw [if_neg e5] at hl
          exact (h9 _ (lookK_mem hl)).2.2.1
end Go.Proofs.Ytkfncibmfcdokaa
end

/- XG10 -/
section
set_option linter.unusedVariables false
set_option linter.unusedSimpArgs false
namespace Go.Proofs.Ytkfncibmfcdokaa
open Go Go.X

/- maps.Keys[map[pomander/api.Place]uint32,pomander/api.Place,uint32] -/
def W_maps_Keys_134 (m1 : Option Nat) (w : World) (R : Value → World → Prop) : Prop :=
  ∀ b1 : Nat, b1 = World.size w → ∀ w1 : World, w1 = World.alloc w (.cells #[.map m1] 143) → (R (.func (.func 121) #[] #[.pointer (some (⟨b1, 0, none⟩ : Addr))]) w1)
set_option maxRecDepth 100000 in
theorem go_maps_Keys_134 (m1 : Option Nat) (w : World) (R : Value → World → Prop) (h : W_maps_Keys_134 m1 w R) : Calls Try.prog 102 #[.map m1] w (fun e w' => ∃ (r1 : Value), e = .returned (r1) ∧ R r1 w') := by
  unfold W_maps_Keys_134 at h
  refine enter (N := 4) Try.func102 rfl rfl ?_
  refine CW.seq ?_
  refine CW.region fun L hL => ?_
  obtain ⟨b1, hb_b1⟩ : ∃ b1, b1 = World.size w := ⟨_, rfl⟩
  obtain ⟨w1, hw_w1⟩ : ∃ w1, w1 = World.alloc w (.cells #[.map m1] 143) := ⟨_, rfl⟩
  replace h := h b1 hb_b1 w1 hw_w1
  refine LW.val hL rfl (Wants.free rfl) rfl (boxE hb_b1 hw_w1 (Vl.box (v := .map m1) rfl)) ?_
  refine LW.rd hL rfl (Wants.free rfl) rfl (Rd.assign (v := .nilFunc) rfl) ?_
  refine LW.nil hL rfl ?_
  refine NW.then ?_
  refine CW.seq ?_
  refine CW.region fun L hL => ?_
  refine LW.rd hL rfl (Wants.free rfl) rfl (Rd.makeFunc rfl) ?_
  refine LW.rd hL rfl (Wants.free rfl) rfl (Rd.assign (v := .func (.func 121) #[] #[.pointer (some (⟨b1, 0, none⟩ : Addr))]) rfl) ?_
  refine LW.nil hL rfl ?_
  refine NW.then ?_
  refine CW.ret ?_
  exact res1 rfl rfl ⟨.func (.func 121) #[] #[.pointer (some (⟨b1, 0, none⟩ : Addr))], rfl, h⟩

/- maps.Keys[map[pomander/api.Place]uint32,pomander/api.Place,uint32]$1 -/
def W_maps_Keys_134_1 (yield1 : Value) (cap1 : Addr) (w : World) (R : World → Prop) : Prop :=
  ∃ (t1 : Option Nat), w.cell? cap1 = some (.map t1) ∧ (∃ (it1 : Option Addr) (w1 : World), (Instr.range 143 (.map t1)).run Try.prog w = .ok (.pointer it1) w1 ∧ (∃ (I1 : World → Prop) (m1 : World → Nat), I1 w1 ∧ ∀ (w2 : World), I1 w2 → ∃ (nx1 : Array Value) (ok1 : Bool) (w3 : World), (Instr.next (.pointer it1) false 0).run Try.prog w2 = .ok (.tuple nx1) w3 ∧ nx1[0]? = some (.bool ok1) ∧ ((ok1 = true → ∃ (k1 : Int) (k2 : Int) (v1 : Int), (Instr.entry (.pointer it1)).run Try.prog w3 = .ok (.tuple #[.agg #[.int .i64 k1, .int .i64 k2], .int .u32 v1]) w3 ∧ (∀ (b1 : Nat) (w5 : World), (w3.heap.size ≤ b1 ∧ b1 < w5.heap.size) → Chg [] w3 w5 → (XR.CallsY Try.prog yield1 #[.agg #[.int .i64 k1, .int .i64 k2]] w5 fun e w6 => ∃ (r1 : Bool), e = .returned (.bool r1) ∧ (((!r1) = true → R w6) ∧ ((!r1) = false → (I1 w6 ∧ m1 w6 < m1 w2)))))) ∧ (ok1 = false → R w3))))
set_option maxRecDepth 100000 in
theorem go_maps_Keys_134_1 (yield1 : Value) (cap1 : Addr) (w : World) (R : World → Prop) (h : W_maps_Keys_134_1 yield1 cap1 w R) : Calls Try.prog 121 #[yield1, .pointer (some cap1)] w (fun e w' => e = .returned (.tuple #[]) ∧ R w') := by
  unfold W_maps_Keys_134_1 at h
  refine enter (N := 14) Try.func121 rfl rfl ?_
  refine CW.seq ?_
  refine CW.region fun L hL => ?_
  obtain ⟨t1, hc1, h⟩ := h
  refine LW.rd hL rfl (Wants.free rfl) rfl (Rd.ld (v := .map t1) rfl (by kernel_rfl) (eqs hc1)) ?_
  obtain ⟨it1, w1, hm1, h⟩ := h
  refine LW.val hL rfl (Wants.free rfl) rfl (Vl.range (v := .pointer it1) rfl hm1) ?_
  refine LW.nil hL rfl ?_
  refine NW.then ?_
  refine CW.block ?_
  obtain ⟨I1, m1, hI1, h⟩ := h
  refine CW.loop (S := Unit) (fun s1 => [(0, yield1), (5, .pointer it1)]) (fun s1 w2 => I1 w2) (fun s1 w2 => m1 w2) () (by exact ⟨rfl, rfl, trivial⟩) hI1 (fun s1 w2 hI1 => ?_)
  replace h := h w2 hI1
  refine CW.seq ?_
  refine CW.region fun L hL => ?_
  obtain ⟨nx1, ok1, w3, hm2, hk1, h⟩ := h
  refine LW.val hL rfl (Wants.free rfl) rfl (Vl.next (v := .tuple nx1) rfl hm2) ?_
  refine LW.rd hL rfl (Wants.free rfl) rfl (Rd.extract (v := .bool ok1) rfl hk1) ?_
  refine LW.nil hL rfl ?_
  refine NW.then ?_
  refine CW.seq ?_
  refine CW.cond rfl (fun hb1 => ?_) (fun hb1 => ?_)
  · replace h := h.1 hb1
    refine CW.skip ?_
    refine NW.then ?_
    refine CW.block ?_
    refine CW.seq ?_
    refine CW.region fun L hL => ?_
    obtain ⟨k1, k2, v1, hl1, h⟩ := h
    refine LW.rd hL rfl (Wants.free rfl) rfl (Rd.entry (v := .tuple #[.agg #[.int .i64 k1, .int .i64 k2], .int .u32 v1]) rfl (fun _ e => e ▸ hl1)) ?_
    refine LW.rd hL rfl (Wants.free rfl) rfl (Rd.extract (v := .agg #[.int .i64 k1, .int .i64 k2]) rfl rfl) ?_
    obtain ⟨b1, hb_b1⟩ : ∃ b1, b1 = World.size w3 := ⟨_, rfl⟩
    obtain ⟨w4, hw_w4⟩ : ∃ w4, w4 = World.alloc w3 (.cells #[.int .i64 0, .int .i64 0] 56) := ⟨_, rfl⟩
    refine LW.val hL rfl (Wants.free rfl) rfl (boxE hb_b1 hw_w4 (Vl.alloc (z := .agg #[.int .i64 0, .int .i64 0]) (by kernel_rfl))) ?_
    have hB := Boxes.alloc (cs := [.int .i64 0, .int .i64 0]) (T := 56) (Boxes.nil w3) hb_b1 hw_w4
    have hlo_b1 := sil_lo (Chg.refl [] w3) hb_b1
    have hc_w4 := sil_alloc (Chg.refl [] w3) hw_w4
    obtain ⟨w5, hw_w5⟩ : ∃ x, x = setCells w4 (⟨b1, 0, none⟩ : Addr) 0 [.int .i64 k1, .int .i64 k2] := ⟨_, rfl⟩
    refine LW.eff hL rfl (Wants.free rfl) rfl (stNE hw_w5 (Ef.stN (cs := [.int .i64 k1, .int .i64 k2]) rfl rfl (by kernel_rfl) (List.forall_mem_cons.2 ⟨rfl, (List.forall_mem_cons.2 ⟨rfl, (List.forall_mem_nil _)⟩)⟩) (has_of (hB.at (i := 0) rfl) (by simp)) (free_of' (hB.at (i := 0) rfl)))) ?_
    replace hB : Boxes w5 [(b1, [.int .i64 k1, .int .i64 k2], 56)] := Boxes.store (vs := [.int .i64 k1, .int .i64 k2]) (i := 0) (o := 0) hB rfl rfl rfl rfl hw_w5
    have hc_w5 := sil_new hc_w4 (sil_cN hw_w5) hlo_b1
    refine LW.nil hL rfl ?_
    refine NW.then ?_
    refine CW.seq ?_
    refine XR.CW.un ?_
    refine XR.CW.region fun L hL => ?_
    refine XR.LW.rd hL rfl (Wants.free rfl) rfl (Rd.move (v := yield1) rfl) ?_
    refine XR.LW.rd hL rfl (Wants.free rfl) rfl (Rd.ldN (cs := [.int .i64 k1, .int .i64 k2]) rfl (by kernel_rfl) (by kernel_rfl) (cellsS (box_cells (hB.at (i := 0) rfl) rfl))) ?_
    replace h := h b1 w5 ⟨hlo_b1, lt_of_heap (hB.at (i := 0) rfl)⟩ hc_w5
    refine XR.LW.callY hL rfl (Wants.free rfl) rfl rfl rfl h (fun e w6 h_ => ?_)
    clear h
    obtain ⟨r1, rfl, h⟩ := h_
    refine ⟨_, rfl, ?_⟩
    refine XR.LW.rd hL rfl (Wants.free rfl) rfl (Rd.un (v := .bool (!r1)) rfl (fun _ => by kernel_rfl)) ?_
    refine XR.LW.nil hL rfl ?_
    refine NW.then ?_
    refine CW.cond rfl (fun hb2 => ?_) (fun hb2 => ?_)
    · replace h := h.1 hb2
      refine CW.ret ?_
      refine RW.block ?_
      refine RW.then ?_
      refine RW.block ?_
      exact res0 rfl ⟨rfl, h⟩
    · replace h := h.2 hb2
      refine CW.skip ?_
      refine NW.block ?_
      exact NW.loop (S := Unit) (Ek := fun s1 => [(0, yield1), (5, .pointer it1)]) () (by exact ⟨rfl, rfl, trivial⟩) h
  · replace h := h.2 hb1
    refine CW.exit ?_
    refine XW.then ?_
    refine XW.then ?_
    refine XW.hit ?_
    exact res0n rfl (by exact ⟨rfl, h⟩)

/- slices.AppendSeq[[]pomander/api.Place,pomander/api.Place] -/
def W_slices_AppendSeq_194 (s1 : Option Addr) (s1n : Nat) (s1c : Nat) (seq1 : Value) (w : World) (R : (Option Addr) → Nat → Nat → World → Prop) : Prop :=
  ∀ (b1 : Nat) (w1 : World), (w.heap.size ≤ b1 ∧ b1 < w1.heap.size) → Chg [] w w1 → (∃ (S1 Sp1 : List (Int × Int) → Prop) (keep1 : List Nat), XR.IsFn Try.prog seq1 ∧ XR.Iterates Try.prog seq1 (fun x : Int × Int => #[.agg #[.int .i64 x.1, .int .i64 x.2]]) S1 Sp1 keep1 w1 ∧ (∀ i_ ∈ keep1, i_ < w1.heap.size) ∧ ∃ (I1 : (Option Addr) → Nat → Nat → List Nat → List (Int × Int) → World → Prop), (∀ (c1 : Option Addr) (c1n : Nat) (c1c : Nat) (pre_ : List (Int × Int)), XR.Stab w1 (fun O_ w_ => I1 c1 c1n c1c O_ pre_ w_)) ∧ (∀ (O1 : List Nat) (w2 : World), Chg [] w1 w2 → XR.InO w1 O1 w2 → I1 s1 s1n s1c O1 ([]) w2) ∧ (∀ (l1 : Nat) (O1 : List Nat) (pre1 : List (Int × Int)) (x1 : Int) (x2 : Int) (c1 : Option Addr) (c1n : Nat) (c1c : Nat) (w2 : World), XR.InO w1 O1 w2 → l1 ∈ O1 → Sp1 (pre1 ++ [(x1, x2)]) → I1 c1 c1n c1c O1 pre1 w2 → (∀ (b2 : Nat) (w5 : World), (w2.heap.size ≤ b2 ∧ b2 < w5.heap.size) → Chg [l1] w2 w5 → (∀ b3 : Nat, b3 = World.size w5 → ∀ w6 : World, w6 = World.alloc w5 (.cells #[.int .i64 x1, .int .i64 x2] 56) → (∃ (l2 : Option Addr) (l2n : Nat) (l2c : Nat) (w7 : World), (Builtin.append_ #[47, 47] 47 #[.slice c1 c1n c1c, .slice (some (⟨b3, 0, none⟩ : Addr)) 1 1]).run Try.prog w6 = .ok (.slice l2 l2n l2c) w7 ∧ (Same w6 w7 [b1] ∧ (∀ (w8 : World), Chg [b1] w7 w8 → ((w5.heap.size ≤ w8.heap.size ∧ I1 l2 l2n l2c O1 (pre1 ++ [(x1, x2)]) w8 ∧ Same w5 w8 (keep1 ++ O1))))))))) ∧ (∀ (d1 : Nat) (O2 : List Nat) (xs1 : List (Int × Int)) (c1 : Option Addr) (c1n : Nat) (c1c : Nat) (w9 : World), XR.InO w1 O2 w9 → d1 ∈ O2 → S1 xs1 → I1 c1 c1n c1c O2 xs1 w9 → (∀ w10 : World, Chg [d1] w9 w10 → (R c1 c1n c1c w10))))
set_option maxRecDepth 100000 in
theorem go_slices_AppendSeq_194 (s1 : Option Addr) (s1n : Nat) (s1c : Nat) (seq1 : Value) (w : World) (R : (Option Addr) → Nat → Nat → World → Prop) (h : W_slices_AppendSeq_194 s1 s1n s1c seq1 w R) : Calls Try.prog 137 #[.slice s1 s1n s1c, seq1] w (fun e w' => ∃ (r1 : Option Addr) (r1n : Nat) (r1c : Nat), e = .returned (.slice r1 r1n r1c) ∧ R r1 r1n r1c w') := by
  unfold W_slices_AppendSeq_194 at h
  refine XR.enterM (N := 13) Try.func137 rfl rfl ?_
  refine CW.seq ?_
  refine CW.region fun L hL => ?_
  obtain ⟨b1, hb_b1⟩ : ∃ b1, b1 = World.size w := ⟨_, rfl⟩
  obtain ⟨w1, hw_w1⟩ : ∃ w1, w1 = World.alloc w (.cells #[.slice s1 s1n s1c] 47) := ⟨_, rfl⟩
  refine LW.val hL rfl (Wants.free rfl) rfl (boxE hb_b1 hw_w1 (Vl.box (v := .slice s1 s1n s1c) rfl)) ?_
  have hB := Boxes.alloc (cs := [.slice s1 s1n s1c]) (T := 47) (Boxes.nil w) hb_b1 hw_w1
  have hlo_b1 := sil_lo (Chg.refl [] w) hb_b1
  have hc_w1 := sil_alloc (Chg.refl [] w) hw_w1
  refine LW.rd hL rfl (Wants.free rfl) rfl (Rd.assign (v := .slice none 0 0) rfl) ?_
  refine LW.nil hL rfl ?_
  refine NW.then ?_
  refine CW.seq ?_
  refine CW.seq ?_
  refine CW.region fun L hL => ?_
  refine LW.rd hL rfl (Wants.free rfl) rfl (Rd.move (v := seq1) rfl) ?_
  refine LW.nil hL rfl ?_
  refine NW.then ?_
  refine CW.block ?_
  replace h := h b1 w1 ⟨hlo_b1, lt_of_heap (hB.at (i := 0) rfl)⟩ hc_w1
  obtain ⟨S1, Sp1, keep1, hfn_, hit_, hkp_, I1, hst_I1, h0_, hrd_, hdn_⟩ := h
  refine XR.CW.rangeV (α := Int × Int) (enc := (fun x : Int × Int => #[.agg #[.int .i64 x.1, .int .i64 x.2]])) (S := S1) (Sp := Sp1) (keep := keep1) rfl hfn_ (fun _ => rfl) (by decide) hit_ (fun (O_ : List Nat) (pre_ : List (Int × Int)) (w_ : World) => ∃ (c1 : Option Addr) (c1n : Nat) (c1c : Nat), I1 c1 c1n c1c O_ pre_ w_ ∧ Boxes w_ [(b1, [.slice c1 c1n c1c], 47)]) (fun (c_ : Code) (O_ : List Nat) (pre_ : List (Int × Int)) (w_ : World) => False) ?_ ?_ ?_ hkp_ ?_ ?_ ?_
  · intro pre_ O_ O2_ A_ B_ hi_ hO_ hc_ hO2_ hg_
    have hB0_ := hB
    obtain ⟨c1, c1n, c1c, hi_, hB⟩ := hi_
    exact ⟨c1, c1n, c1c, hst_I1 c1 c1n c1c pre_ O_ O2_ A_ B_ hi_ hO_ hc_ hO2_ hg_, hB.stab hB0_ rfl hO_ hc_⟩
  · intro c_ pre_ O_ O2_ A_ B_ hi_ hO_ hc_ hO2_ hg_
    exact hi_.elim
  · intro O_ A_ hc_ hO_
    exact ⟨s1, s1n, s1c, h0_ O_ A_ hc_ hO_, Boxes.chg hB hc_ (by simp)⟩
  · intro l1 O1 pre1 x_ w2 hO_ hl_ hSp_ hi_
    obtain ⟨x1, x2⟩ := x_
    obtain ⟨c1, c1n, c1c, hi_, hB⟩ := hi_
    have h := hrd_ l1 O1 pre1 x1 x2 c1 c1n c1c w2 hO_ hl_ hSp_ hi_
    refine XR.CW.region fun L hL => ?_
    obtain ⟨b2, hb_b2⟩ : ∃ b2, b2 = World.size w2 := ⟨_, rfl⟩
    obtain ⟨w3, hw_w3⟩ : ∃ w3, w3 = World.alloc w2 (.cells #[.int .i64 0, .int .i64 0] 56) := ⟨_, rfl⟩
    refine XR.LW.val hL rfl (Wants.free rfl) rfl (boxE hb_b2 hw_w3 (Vl.alloc (z := .agg #[.int .i64 0, .int .i64 0]) (by kernel_rfl))) ?_
    replace hB := Boxes.alloc (cs := [.int .i64 0, .int .i64 0]) (T := 56) hB hb_b2 hw_w3
    have hlo_b2 := sil_lo (Chg.refl [] w2) hb_b2
    have hc_w3 := sil_alloc (Chg.refl [] w2) hw_w3
    obtain ⟨w4, hw_w4⟩ : ∃ x, x = setCells w3 (⟨b2, 0, none⟩ : Addr) 0 [.int .i64 x1, .int .i64 x2] := ⟨_, rfl⟩
    refine XR.LW.eff hL rfl (Wants.free rfl) rfl (stNE hw_w4 (Ef.stN (cs := [.int .i64 x1, .int .i64 x2]) rfl rfl (by kernel_rfl) (List.forall_mem_cons.2 ⟨rfl, (List.forall_mem_cons.2 ⟨rfl, (List.forall_mem_nil _)⟩)⟩) (has_of (hB.at (i := 0) rfl) (by simp)) (free_of' (hB.at (i := 0) rfl)))) ?_
    replace hB : Boxes w4 [(b2, [.int .i64 x1, .int .i64 x2], 56), (b1, [.slice c1 c1n c1c], 47)] := Boxes.store (vs := [.int .i64 x1, .int .i64 x2]) (i := 0) (o := 0) hB rfl rfl rfl rfl hw_w4
    have hc_w4 := sil_new hc_w3 (sil_cN hw_w4) hlo_b2
    refine XR.LW.nil hL rfl ?_
    refine XR.NW.begin hc_w4 (fun w5 hcb_w5 hlp_ hib_ => ?_)
    have hc_w5 : Chg [l1] w2 w5 := sil_more hc_w4 hcb_w5
    replace hB := hB.notloop hlp_ hcb_w5
    replace h := h b2 w5 ⟨hlo_b2, lt_of_heap (hB.at (i := 0) rfl)⟩ hc_w5
    refine XR.CW.block ?_
    refine XR.CW.region fun L hL => ?_
    refine XR.LW.rd hL rfl (Wants.free rfl) rfl (Rd.ld (v := .slice c1 c1n c1c) rfl (by kernel_rfl) (eqs (box_cell (hB.at (i := 1) rfl) rfl))) ?_
    refine XR.LW.rd hL rfl (Wants.free rfl) rfl (Rd.ldN (cs := [.int .i64 x1, .int .i64 x2]) rfl (by kernel_rfl) (by kernel_rfl) (cellsS (box_cells (hB.at (i := 0) rfl) rfl))) ?_
    obtain ⟨b3, hb_b3⟩ : ∃ b3, b3 = World.size w5 := ⟨_, rfl⟩
    obtain ⟨w6, hw_w6⟩ : ∃ w6, w6 = World.alloc w5 (.cells #[.int .i64 x1, .int .i64 x2] 56) := ⟨_, rfl⟩
    replace h := h b3 hb_b3 w6 hw_w6
    refine XR.LW.val hL rfl (Wants.free rfl) rfl (sliceE (n := 1) hb_b3 hw_w6 (fun w => Vl.buildSlice (vs := [(0, .agg #[.int .i64 x1, .int .i64 x2])]) rfl (by kernel_rfl))) ?_
    replace hB := hB.grow hw_w6
    obtain ⟨l2, l2n, l2c, w7, ha1, h⟩ := h
    refine XR.LW.val hL rfl (Wants.free rfl) rfl (Vl.builtin (v := .slice l2 l2n l2c) rfl (valB ha1)) ?_
    obtain ⟨hsm1, h⟩ := h
    replace hB := Boxes.sameS (hB.sel [1] (by decide) rfl) hsm1 (by simp)
    obtain ⟨w8, hw_w8⟩ : ∃ x, x = World.setCell w7 (⟨b1, 0, none⟩ : Addr) (.slice l2 l2n l2c) := ⟨_, rfl⟩
    refine XR.LW.eff hL rfl (Wants.free rfl) rfl (stE hw_w8 (Ef.st rfl rfl rfl (by kernel_rfl) (box_cell (v := .slice c1 c1n c1c) (hB.at (i := 0) rfl) rfl) (free_of (hB.at (i := 0) rfl) 0))) ?_
    replace hB : Boxes w8 [(b1, [.slice l2 l2n l2c], 47)] := Boxes.store1  (i := 0) (o := 0) hB rfl rfl rfl rfl hw_w8
    have hc_w8 : Chg [b1] w7 w8 := sil_more (Chg.refl [] w7) (sil_c1 hw_w8)
    refine XR.LW.nil hL rfl ?_
    refine NW.block ?_
    replace h := h  w8  hc_w8
    exact fun a_ ha_ => ⟨h.1, ⟨l2, l2n, l2c, h.2.1, hB⟩, h.2.2⟩
  · intro d1 O2 xs1 w9 hO_ hd_ hdh_ hS_ hi_
    obtain ⟨c1, c1n, c1c, hi_, hB⟩ := hi_
    have h := hdn_ d1 O2 xs1 c1 c1n c1c w9 hO_ hd_ hS_ hi_
    have hK := XR.Marks.cons (XR.Marks.nil _) hdh_ (by simp)
    refine NW.block ?_
    refine NW.then ?_
    refine CW.seq ?_
    refine CW.region fun L hL => ?_
    refine LW.rd hL rfl (Wants.free rfl) rfl (Rd.ld (v := .slice c1 c1n c1c) rfl (by kernel_rfl) (eqs (box_cell (hB.at (i := 0) rfl) rfl))) ?_
    refine LW.rd hL rfl (Wants.free rfl) rfl (Rd.assign (v := .slice c1 c1n c1c) rfl) ?_
    refine LW.nil hL rfl ?_
    refine NW.then ?_
    refine CW.ret ?_
    exact XR.resM (ms := [d1]) (vs := [.slice c1 c1n c1c]) hK rfl (fun w_ hc_ => ⟨(ResOK.t rfl ResOK.nil), c1, c1n, c1c, rfl, h w_ hc_⟩)
  · intro d2 c_ O3 xs2 w11 hO_ hd_ hdh_ hS_ hi_
    exact hi_.elim

/- slices.Collect[pomander/api.Place] -/
def W_slices_Collect_841 (seq1 : Value) (w : World) (R : (Option Addr) → Nat → Nat → World → Prop) : Prop :=
  Calls Try.prog 137 #[.slice none 0 0, seq1] w fun e w1 => ∃ (r2 : Option Addr) (r2n : Nat) (r2c : Nat), e = .returned (.slice r2 r2n r2c) ∧ (R r2 r2n r2c w1)
set_option maxRecDepth 100000 in
theorem go_slices_Collect_841 (seq1 : Value) (w : World) (R : (Option Addr) → Nat → Nat → World → Prop) (h : W_slices_Collect_841 seq1 w R) : Calls Try.prog 119 #[seq1] w (fun e w' => ∃ (r1 : Option Addr) (r1n : Nat) (r1c : Nat), e = .returned (.slice r1 r1n r1c) ∧ R r1 r1n r1c w') := by
  unfold W_slices_Collect_841 at h
  refine enter (N := 5) Try.func119 rfl rfl ?_
  refine CW.seq ?_
  refine CW.region fun L hL => ?_
  refine LW.rd hL rfl (Wants.free rfl) rfl (Rd.assign (v := .slice none 0 0) rfl) ?_
  refine LW.nil hL rfl ?_
  refine NW.then ?_
  refine CW.seq ?_
  refine CW.region fun L hL => ?_
  refine LW.rd hL rfl (Wants.free rfl) rfl (Rd.move (v := seq1) rfl) ?_
  refine LW.call hL rfl (Wants.free rfl) rfl (Cl.fn (f := 137) rfl Try.func137 (by kernel_rfl) rfl) h (fun e w1 h_ => ?_)
  clear h
  obtain ⟨r2, r2n, r2c, rfl, h⟩ := h_
  refine ⟨_, rfl, ?_⟩
  refine LW.rd hL rfl (Wants.free rfl) rfl (Rd.assign (v := .slice r2 r2n r2c) rfl) ?_
  refine LW.nil hL rfl ?_
  refine NW.then ?_
  refine CW.ret ?_
  exact res1 rfl rfl ⟨r2, r2n, r2c, rfl, h⟩

/- slices.SortedFunc[pomander/api.Place] -/
def W_slices_SortedFunc_841 (seq1 : Value) (cmp1 : Value) (w : World) (R : (Option Addr) → Nat → Nat → World → Prop) : Prop :=
  Calls Try.prog 119 #[seq1] w fun e w1 => ∃ (r2 : Option Addr) (r2n : Nat) (r2c : Nat), e = .returned (.slice r2 r2n r2c) ∧ (Calls Try.prog 120 #[.slice r2 r2n r2c, cmp1] w1 fun e w2 => e = .returned (.tuple #[]) ∧ (R r2 r2n r2c w2))
set_option maxRecDepth 100000 in
theorem go_slices_SortedFunc_841 (seq1 : Value) (cmp1 : Value) (w : World) (R : (Option Addr) → Nat → Nat → World → Prop) (h : W_slices_SortedFunc_841 seq1 cmp1 w R) : Calls Try.prog 101 #[seq1, cmp1] w (fun e w' => ∃ (r1 : Option Addr) (r1n : Nat) (r1c : Nat), e = .returned (.slice r1 r1n r1c) ∧ R r1 r1n r1c w') := by
  unfold W_slices_SortedFunc_841 at h
  refine enter (N := 12) Try.func101 rfl rfl ?_
  refine CW.seq ?_
  refine CW.region fun L hL => ?_
  refine LW.rd hL rfl (Wants.free rfl) rfl (Rd.assign (v := .slice none 0 0) rfl) ?_
  refine LW.nil hL rfl ?_
  refine NW.then ?_
  refine CW.seq ?_
  refine CW.region fun L hL => ?_
  refine LW.rd hL rfl (Wants.free rfl) rfl (Rd.move (v := seq1) rfl) ?_
  refine LW.call hL rfl (Wants.free rfl) rfl (Cl.fn (f := 119) rfl Try.func119 (by kernel_rfl) rfl) h (fun e w1 h_ => ?_)
  clear h
  obtain ⟨r2, r2n, r2c, rfl, h⟩ := h_
  refine ⟨_, rfl, ?_⟩
  refine LW.rd hL rfl (Wants.free rfl) rfl (Rd.assign (v := .slice r2 r2n r2c) rfl) ?_
  refine LW.nil hL rfl ?_
  refine NW.then ?_
  refine CW.seq ?_
  refine CW.region fun L hL => ?_
  refine LW.rd hL rfl (Wants.free rfl) rfl (Rd.move (v := .slice r2 r2n r2c) rfl) ?_
  refine LW.rd hL rfl (Wants.free rfl) rfl (Rd.move (v := cmp1) rfl) ?_
  refine LW.call hL rfl (Wants.free rfl) rfl (Cl.fn (f := 120) rfl Try.func120 (by kernel_rfl) rfl) h (fun e w2 h_ => ?_)
  clear h
  obtain ⟨rfl, h⟩ := h_
  refine ⟨_, rfl, ?_⟩
  refine LW.nil hL rfl ?_
  refine NW.then ?_
  refine CW.seq ?_
  refine CW.region fun L hL => ?_
  refine LW.rd hL rfl (Wants.free rfl) rfl (Rd.move (v := .slice r2 r2n r2c) rfl) ?_
  refine LW.rd hL rfl (Wants.free rfl) rfl (Rd.assign (v := .slice r2 r2n r2c) rfl) ?_
  refine LW.nil hL rfl ?_
  refine NW.then ?_
  refine CW.ret ?_
  exact res1 rfl rfl ⟨r2, r2n, r2c, rfl, h⟩

/- cmp.Compare[pomander/api.PlaceKind] -/
def W_cmp_Compare_942 (x1 : Int) (y1 : Int) (w : World) (R : Int → World → Prop) : Prop :=
  Calls Try.prog 139 #[.int .i64 x1] w fun e w1 => ∃ (r2 : Bool), e = .returned (.bool r2) ∧ (Calls Try.prog 139 #[.int .i64 y1] w1 fun e w2 => ∃ (r3 : Bool), e = .returned (.bool r3) ∧ ((r2 = true → (r3 = true → R 0 w2) ∧ (r3 = false → R (-1) w2)) ∧ (r2 = false → (r3 = true → R 1 w2) ∧ (r3 = false → ((decide (x1 < y1)) = true → R (-1) w2) ∧ ((decide (x1 < y1)) = false → ((decide (x1 > y1)) = true → R 1 w2) ∧ ((decide (x1 > y1)) = false → R 0 w2))))))
set_option maxRecDepth 100000 in
theorem go_cmp_Compare_942 (x1 : Int) (y1 : Int) (w : World) (R : Int → World → Prop) (h : W_cmp_Compare_942 x1 y1 w R) : Calls Try.prog 122 #[.int .i64 x1, .int .i64 y1] w (fun e w' => ∃ (r1 : Int), e = .returned (.int .i64 r1) ∧ R r1 w') := by
  unfold W_cmp_Compare_942 at h
  refine enter (N := 20) Try.func122 rfl rfl ?_
  refine CW.seq ?_
  refine CW.region fun L hL => ?_
  refine LW.rd hL rfl (Wants.free rfl) rfl (Rd.assign (v := .int .i64 0) rfl) ?_
  refine LW.nil hL rfl ?_
  refine NW.then ?_
  refine CW.seq ?_
  refine CW.region fun L hL => ?_
  refine LW.rd hL rfl (Wants.free rfl) rfl (Rd.move (v := .int .i64 x1) rfl) ?_
  refine LW.call hL rfl (Wants.free rfl) rfl (Cl.fn (f := 139) rfl Try.func139 (by kernel_rfl) rfl) h (fun e w1 h_ => ?_)
  clear h
  obtain ⟨r2, rfl, h⟩ := h_
  refine ⟨_, rfl, ?_⟩
  refine LW.rd hL rfl (Wants.free rfl) rfl (Rd.assign (v := .bool r2) rfl) ?_
  refine LW.nil hL rfl ?_
  refine NW.then ?_
  refine CW.seq ?_
  refine CW.region fun L hL => ?_
  refine LW.rd hL rfl (Wants.free rfl) rfl (Rd.move (v := .int .i64 y1) rfl) ?_
  refine LW.call hL rfl (Wants.free rfl) rfl (Cl.fn (f := 139) rfl Try.func139 (by kernel_rfl) rfl) h (fun e w2 h_ => ?_)
  clear h
  obtain ⟨r3, rfl, h⟩ := h_
  refine ⟨_, rfl, ?_⟩
  refine LW.rd hL rfl (Wants.free rfl) rfl (Rd.assign (v := .bool r3) rfl) ?_
  refine LW.nil hL rfl ?_
  refine NW.then ?_
  refine CW.seq ?_
  refine CW.seq ?_
  refine CW.region fun L hL => ?_
  refine LW.rd hL rfl (Wants.free rfl) rfl (Rd.move (v := .bool r2) rfl) ?_
  refine LW.nil hL rfl ?_
  refine NW.then ?_
  refine CW.cond rfl (fun hb1 => ?_) (fun hb1 => ?_)
  · replace h := h.1 hb1
    refine CW.seq ?_
    refine CW.seq ?_
    refine CW.region fun L hL => ?_
    refine LW.rd hL rfl (Wants.free rfl) rfl (Rd.move (v := .bool r3) rfl) ?_
    refine LW.nil hL rfl ?_
    refine NW.then ?_
    refine CW.cond rfl (fun hb2 => ?_) (fun hb2 => ?_)
    · replace h := h.1 hb2
      refine CW.seq ?_
      refine CW.region fun L hL => ?_
      refine LW.rd hL rfl (Wants.free rfl) rfl (Rd.assign (v := .int .i64 0) rfl) ?_
      refine LW.nil hL rfl ?_
      refine NW.then ?_
      refine CW.ret ?_
      refine RW.then ?_
      refine RW.then ?_
      exact res1 rfl rfl ⟨0, rfl, h⟩
    · replace h := h.2 hb2
      refine CW.skip ?_
      refine NW.then ?_
      refine CW.seq ?_
      refine CW.region fun L hL => ?_
      refine LW.rd hL rfl (Wants.free rfl) rfl (Rd.assign (v := .int .i64 (-1)) rfl) ?_
      refine LW.nil hL rfl ?_
      refine NW.then ?_
      refine CW.ret ?_
      refine RW.then ?_
      exact res1 rfl rfl ⟨(-1), rfl, h⟩
  · replace h := h.2 hb1
    refine CW.skip ?_
    refine NW.then ?_
    refine CW.seq ?_
    refine CW.seq ?_
    refine CW.region fun L hL => ?_
    refine LW.rd hL rfl (Wants.free rfl) rfl (Rd.move (v := .bool r3) rfl) ?_
    refine LW.nil hL rfl ?_
    refine NW.then ?_
    refine CW.cond rfl (fun hb3 => ?_) (fun hb3 => ?_)
    · replace h := h.1 hb3
      refine CW.seq ?_
      refine CW.region fun L hL => ?_
      refine LW.rd hL rfl (Wants.free rfl) rfl (Rd.assign (v := .int .i64 1) rfl) ?_
      refine LW.nil hL rfl ?_
      refine NW.then ?_
      refine CW.ret ?_
      refine RW.then ?_
      exact res1 rfl rfl ⟨1, rfl, h⟩
    · replace h := h.2 hb3
      refine CW.skip ?_
      refine NW.then ?_
      refine CW.seq ?_
      refine CW.seq ?_
      refine CW.region fun L hL => ?_
      refine LW.rd hL rfl (Wants.free rfl) rfl (Rd.move (v := .int .i64 x1) rfl) ?_
      refine LW.rd hL rfl (Wants.free rfl) rfl (Rd.move (v := .int .i64 y1) rfl) ?_
      refine LW.rd hL rfl (Wants.free rfl) rfl (Rd.bin (v := .bool (decide (x1 < y1))) rfl rfl (fun w => by kernel_rfl)) ?_
      refine LW.nil hL rfl ?_
      refine NW.then ?_
      refine CW.cond rfl (fun hb4 => ?_) (fun hb4 => ?_)
      · replace h := h.1 hb4
        refine CW.seq ?_
        refine CW.region fun L hL => ?_
        refine LW.rd hL rfl (Wants.free rfl) rfl (Rd.assign (v := .int .i64 (-1)) rfl) ?_
        refine LW.nil hL rfl ?_
        refine NW.then ?_
        refine CW.ret ?_
        refine RW.then ?_
        exact res1 rfl rfl ⟨(-1), rfl, h⟩
      · replace h := h.2 hb4
        refine CW.skip ?_
        refine NW.then ?_
        refine CW.seq ?_
        refine CW.seq ?_
        refine CW.region fun L hL => ?_
        refine LW.rd hL rfl (Wants.free rfl) rfl (Rd.move (v := .int .i64 x1) rfl) ?_
        refine LW.rd hL rfl (Wants.free rfl) rfl (Rd.move (v := .int .i64 y1) rfl) ?_
        refine LW.rd hL rfl (Wants.free rfl) rfl (Rd.bin (v := .bool (decide (x1 > y1))) rfl rfl (fun w => by kernel_rfl)) ?_
        refine LW.nil hL rfl ?_
        refine NW.then ?_
        refine CW.cond rfl (fun hb5 => ?_) (fun hb5 => ?_)
        · replace h := h.1 hb5
          refine CW.seq ?_
          refine CW.region fun L hL => ?_
          refine LW.rd hL rfl (Wants.free rfl) rfl (Rd.assign (v := .int .i64 1) rfl) ?_
          refine LW.nil hL rfl ?_
          refine NW.then ?_
          refine CW.ret ?_
          refine RW.then ?_
          exact res1 rfl rfl ⟨1, rfl, h⟩
        · replace h := h.2 hb5
          refine CW.skip ?_
          refine NW.then ?_
          refine CW.seq ?_
          refine CW.region fun L hL => ?_
          refine LW.rd hL rfl (Wants.free rfl) rfl (Rd.assign (v := .int .i64 0) rfl) ?_
          refine LW.nil hL rfl ?_
          refine NW.then ?_
          refine CW.ret ?_
          exact res1 rfl rfl ⟨0, rfl, h⟩

/- cmp.Compare[int] -/
def W_cmp_Compare_61 (x1 : Int) (y1 : Int) (w : World) (R : Int → World → Prop) : Prop :=
  Calls Try.prog 140 #[.int .i64 x1] w fun e w1 => ∃ (r2 : Bool), e = .returned (.bool r2) ∧ (Calls Try.prog 140 #[.int .i64 y1] w1 fun e w2 => ∃ (r3 : Bool), e = .returned (.bool r3) ∧ ((r2 = true → (r3 = true → R 0 w2) ∧ (r3 = false → R (-1) w2)) ∧ (r2 = false → (r3 = true → R 1 w2) ∧ (r3 = false → ((decide (x1 < y1)) = true → R (-1) w2) ∧ ((decide (x1 < y1)) = false → ((decide (x1 > y1)) = true → R 1 w2) ∧ ((decide (x1 > y1)) = false → R 0 w2))))))
set_option maxRecDepth 100000 in
theorem go_cmp_Compare_61 (x1 : Int) (y1 : Int) (w : World) (R : Int → World → Prop) (h : W_cmp_Compare_61 x1 y1 w R) : Calls Try.prog 123 #[.int .i64 x1, .int .i64 y1] w (fun e w' => ∃ (r1 : Int), e = .returned (.int .i64 r1) ∧ R r1 w') := by
  unfold W_cmp_Compare_61 at h
  refine enter (N := 20) Try.func123 rfl rfl ?_
  refine CW.seq ?_
  refine CW.region fun L hL => ?_
  refine LW.rd hL rfl (Wants.free rfl) rfl (Rd.assign (v := .int .i64 0) rfl) ?_
  refine LW.nil hL rfl ?_
  refine NW.then ?_
  refine CW.seq ?_
  refine CW.region fun L hL => ?_
  refine LW.rd hL rfl (Wants.free rfl) rfl (Rd.move (v := .int .i64 x1) rfl) ?_
  refine LW.call hL rfl (Wants.free rfl) rfl (Cl.fn (f := 140) rfl Try.func140 (by kernel_rfl) rfl) h (fun e w1 h_ => ?_)
  clear h
  obtain ⟨r2, rfl, h⟩ := h_
  refine ⟨_, rfl, ?_⟩
  refine LW.rd hL rfl (Wants.free rfl) rfl (Rd.assign (v := .bool r2) rfl) ?_
  refine LW.nil hL rfl ?_
  refine NW.then ?_
  refine CW.seq ?_
  refine CW.region fun L hL => ?_
  refine LW.rd hL rfl (Wants.free rfl) rfl (Rd.move (v := .int .i64 y1) rfl) ?_
  refine LW.call hL rfl (Wants.free rfl) rfl (Cl.fn (f := 140) rfl Try.func140 (by kernel_rfl) rfl) h (fun e w2 h_ => ?_)
  clear h
  obtain ⟨r3, rfl, h⟩ := h_
  refine ⟨_, rfl, ?_⟩
  refine LW.rd hL rfl (Wants.free rfl) rfl (Rd.assign (v := .bool r3) rfl) ?_
  refine LW.nil hL rfl ?_
  refine NW.then ?_
  refine CW.seq ?_
  refine CW.seq ?_
  refine CW.region fun L hL => ?_
  refine LW.rd hL rfl (Wants.free rfl) rfl (Rd.move (v := .bool r2) rfl) ?_
  refine LW.nil hL rfl ?_
  refine NW.then ?_
  refine CW.cond rfl (fun hb1 => ?_) (fun hb1 => ?_)
  · replace h := h.1 hb1
    refine CW.seq ?_
    refine CW.seq ?_
    refine CW.region fun L hL => ?_
    refine LW.rd hL rfl (Wants.free rfl) rfl (Rd.move (v := .bool r3) rfl) ?_
    refine LW.nil hL rfl ?_
    refine NW.then ?_
    refine CW.cond rfl (fun hb2 => ?_) (fun hb2 => ?_)
    · replace h := h.1 hb2
      refine CW.seq ?_
      refine CW.region fun L hL => ?_
      refine LW.rd hL rfl (Wants.free rfl) rfl (Rd.assign (v := .int .i64 0) rfl) ?_
      refine LW.nil hL rfl ?_
      refine NW.then ?_
      refine CW.ret ?_
      refine RW.then ?_
      refine RW.then ?_
      exact res1 rfl rfl ⟨0, rfl, h⟩
    · replace h := h.2 hb2
      refine CW.skip ?_
      refine NW.then ?_
      refine CW.seq ?_
      refine CW.region fun L hL => ?_
      refine LW.rd hL rfl (Wants.free rfl) rfl (Rd.assign (v := .int .i64 (-1)) rfl) ?_
      refine LW.nil hL rfl ?_
      refine NW.then ?_
      refine CW.ret ?_
      refine RW.then ?_
      exact res1 rfl rfl ⟨(-1), rfl, h⟩
  · replace h := h.2 hb1
    refine CW.skip ?_
    refine NW.then ?_
    refine CW.seq ?_
    refine CW.seq ?_
    refine CW.region fun L hL => ?_
    refine LW.rd hL rfl (Wants.free rfl) rfl (Rd.move (v := .bool r3) rfl) ?_
    refine LW.nil hL rfl ?_
    refine NW.then ?_
    refine CW.cond rfl (fun hb3 => ?_) (fun hb3 => ?_)
    · replace h := h.1 hb3
      refine CW.seq ?_
      refine CW.region fun L hL => ?_
      refine LW.rd hL rfl (Wants.free rfl) rfl (Rd.assign (v := .int .i64 1) rfl) ?_
      refine LW.nil hL rfl ?_
      refine NW.then ?_
      refine CW.ret ?_
      refine RW.then ?_
      exact res1 rfl rfl ⟨1, rfl, h⟩
    · replace h := h.2 hb3
      refine CW.skip ?_
      refine NW.then ?_
      refine CW.seq ?_
      refine CW.seq ?_
      refine CW.region fun L hL => ?_
      refine LW.rd hL rfl (Wants.free rfl) rfl (Rd.move (v := .int .i64 x1) rfl) ?_
      refine LW.rd hL rfl (Wants.free rfl) rfl (Rd.move (v := .int .i64 y1) rfl) ?_
      refine LW.rd hL rfl (Wants.free rfl) rfl (Rd.bin (v := .bool (decide (x1 < y1))) rfl rfl (fun w => by kernel_rfl)) ?_
      refine LW.nil hL rfl ?_
      refine NW.then ?_
      refine CW.cond rfl (fun hb4 => ?_) (fun hb4 => ?_)
      · replace h := h.1 hb4
        refine CW.seq ?_
        refine CW.region fun L hL => ?_
        refine LW.rd hL rfl (Wants.free rfl) rfl (Rd.assign (v := .int .i64 (-1)) rfl) ?_
        refine LW.nil hL rfl ?_
        refine NW.then ?_
        refine CW.ret ?_
        refine RW.then ?_
        exact res1 rfl rfl ⟨(-1), rfl, h⟩
      · replace h := h.2 hb4
        refine CW.skip ?_
        refine NW.then ?_
        refine CW.seq ?_
        refine CW.seq ?_
        refine CW.region fun L hL => ?_
        refine LW.rd hL rfl (Wants.free rfl) rfl (Rd.move (v := .int .i64 x1) rfl) ?_
        refine LW.rd hL rfl (Wants.free rfl) rfl (Rd.move (v := .int .i64 y1) rfl) ?_
        refine LW.rd hL rfl (Wants.free rfl) rfl (Rd.bin (v := .bool (decide (x1 > y1))) rfl rfl (fun w => by kernel_rfl)) ?_
        refine LW.nil hL rfl ?_
        refine NW.then ?_
        refine CW.cond rfl (fun hb5 => ?_) (fun hb5 => ?_)
        · replace h := h.1 hb5
          refine CW.seq ?_
          refine CW.region fun L hL => ?_
          refine LW.rd hL rfl (Wants.free rfl) rfl (Rd.assign (v := .int .i64 1) rfl) ?_
          refine LW.nil hL rfl ?_
          refine NW.then ?_
          refine CW.ret ?_
          refine RW.then ?_
          exact res1 rfl rfl ⟨1, rfl, h⟩
        · replace h := h.2 hb5
          refine CW.skip ?_
          refine NW.then ?_
          refine CW.seq ?_
          refine CW.region fun L hL => ?_
          refine LW.rd hL rfl (Wants.free rfl) rfl (Rd.assign (v := .int .i64 0) rfl) ?_
          refine LW.nil hL rfl ?_
          refine NW.then ?_
          refine CW.ret ?_
          exact res1 rfl rfl ⟨0, rfl, h⟩

/- cmp.isNaN[pomander/api.PlaceKind] -/
def W_cmp_isNaN_942 (x1 : Int) (w : World) (R : Bool → World → Prop) : Prop :=
  R (!(x1 == x1)) w
set_option maxRecDepth 100000 in
theorem go_cmp_isNaN_942 (x1 : Int) (w : World) (R : Bool → World → Prop) (h : W_cmp_isNaN_942 x1 w R) : Calls Try.prog 139 #[.int .i64 x1] w (fun e w' => ∃ (r1 : Bool), e = .returned (.bool r1) ∧ R r1 w') := by
  unfold W_cmp_isNaN_942 at h
  refine enter (N := 6) Try.func139 rfl rfl ?_
  refine CW.seq ?_
  refine CW.region fun L hL => ?_
  refine LW.rd hL rfl (Wants.free rfl) rfl (Rd.assign (v := .bool false) rfl) ?_
  refine LW.nil hL rfl ?_
  refine NW.then ?_
  refine CW.seq ?_
  refine CW.region fun L hL => ?_
  refine LW.rd hL rfl (Wants.free rfl) rfl (Rd.move (v := .int .i64 x1) rfl) ?_
  refine LW.rd hL rfl (Wants.free rfl) rfl (Rd.move (v := .int .i64 x1) rfl) ?_
  refine LW.rd hL rfl (Wants.free rfl) rfl (Rd.bin (v := .bool (!(x1 == x1))) rfl rfl (fun w => by kernel_rfl)) ?_
  refine LW.rd hL rfl (Wants.free rfl) rfl (Rd.assign (v := .bool (!(x1 == x1))) rfl) ?_
  refine LW.nil hL rfl ?_
  refine NW.then ?_
  refine CW.ret ?_
  exact res1 rfl rfl ⟨!(x1 == x1), rfl, h⟩

/- cmp.isNaN[int] -/
def W_cmp_isNaN_61 (x1 : Int) (w : World) (R : Bool → World → Prop) : Prop :=
  R (!(x1 == x1)) w
set_option maxRecDepth 100000 in
theorem go_cmp_isNaN_61 (x1 : Int) (w : World) (R : Bool → World → Prop) (h : W_cmp_isNaN_61 x1 w R) : Calls Try.prog 140 #[.int .i64 x1] w (fun e w' => ∃ (r1 : Bool), e = .returned (.bool r1) ∧ R r1 w') := by
  unfold W_cmp_isNaN_61 at h
  refine enter (N := 6) Try.func140 rfl rfl ?_
  refine CW.seq ?_
  refine CW.region fun L hL => ?_
  refine LW.rd hL rfl (Wants.free rfl) rfl (Rd.assign (v := .bool false) rfl) ?_
  refine LW.nil hL rfl ?_
  refine NW.then ?_
  refine CW.seq ?_
  refine CW.region fun L hL => ?_
  refine LW.rd hL rfl (Wants.free rfl) rfl (Rd.move (v := .int .i64 x1) rfl) ?_
  refine LW.rd hL rfl (Wants.free rfl) rfl (Rd.move (v := .int .i64 x1) rfl) ?_
  refine LW.rd hL rfl (Wants.free rfl) rfl (Rd.bin (v := .bool (!(x1 == x1))) rfl rfl (fun w => by kernel_rfl)) ?_
  refine LW.rd hL rfl (Wants.free rfl) rfl (Rd.assign (v := .bool (!(x1 == x1))) rfl) ?_
  refine LW.nil hL rfl ?_
  refine NW.then ?_
  refine CW.ret ?_
  exact res1 rfl rfl ⟨!(x1 == x1), rfl, h⟩

/- (*pomander/flow.Flow).All -/
def W_flow_Flow_All (f1 : Option Addr) (w : World) (R : Value → World → Prop) : Prop :=
  ∀ b1 : Nat, b1 = World.size w → ∀ w1 : World, w1 = World.alloc w (.map #[] 0) → (∀ b2 : Nat, b2 = World.size w1 → ∀ w2 : World, w2 = World.alloc w1 (.cells #[.map none] 143) → ((∃ o : Value, w2.cell? (⟨b2, 0, none⟩ : Addr) = some o) ∧ w2.frozen? (⟨b2, 0, none⟩ : Addr) = false ∧ ∀ w3 : World, w3 = World.setCell w2 (⟨b2, 0, none⟩ : Addr) (.map (some b1)) → (∃ J1 : World → Prop, (∀ (w4 : World), J1 w4 → R (.func (.func 100) #[] #[.pointer (some (⟨b2, 0, none⟩ : Addr))]) w4) ∧ (Calls Try.prog 73 #[.pointer f1] w3 fun e w5 => ∃ (r2 : Bool), e = .returned (.bool r2) ∧ (((!r2) = true → Calls Try.prog 99 #[.pointer f1] w5 fun e w6 => ∃ (r3 : Option Nat), e = .returned (.map r3) ∧ ((∃ o : Value, w6.cell? (⟨b2, 0, none⟩ : Addr) = some o) ∧ w6.frozen? (⟨b2, 0, none⟩ : Addr) = false ∧ ∀ w7 : World, w7 = World.setCell w6 (⟨b2, 0, none⟩ : Addr) (.map r3) → (J1 w7))) ∧ ((!r2) = false → J1 w5))))))
set_option maxRecDepth 100000 in
theorem go_flow_Flow_All (f1 : Option Addr) (w : World) (R : Value → World → Prop) (h : W_flow_Flow_All f1 w R) : Calls Try.prog 62 #[.pointer f1] w (fun e w' => ∃ (r1 : Value), e = .returned (r1) ∧ R r1 w') := by
  unfold W_flow_Flow_All at h
  refine enter (N := 11) Try.func62 rfl rfl ?_
  refine CW.seq ?_
  refine CW.region fun L hL => ?_
  refine LW.rd hL rfl (Wants.free rfl) rfl (Rd.assign (v := .nilFunc) rfl) ?_
  refine LW.nil hL rfl ?_
  refine NW.then ?_
  refine CW.seq ?_
  refine CW.region fun L hL => ?_
  obtain ⟨b1, hb_b1⟩ : ∃ b1, b1 = World.size w := ⟨_, rfl⟩
  obtain ⟨w1, hw_w1⟩ : ∃ w1, w1 = World.alloc w (.map #[] 0) := ⟨_, rfl⟩
  replace h := h b1 hb_b1 w1 hw_w1
  refine LW.val hL rfl (Wants.free rfl) rfl (mapE hb_b1 hw_w1 Vl.makeMap) ?_
  obtain ⟨b2, hb_b2⟩ : ∃ b2, b2 = World.size w1 := ⟨_, rfl⟩
  obtain ⟨w2, hw_w2⟩ : ∃ w2, w2 = World.alloc w1 (.cells #[.map none] 143) := ⟨_, rfl⟩
  replace h := h b2 hb_b2 w2 hw_w2
  refine LW.val hL rfl (Wants.free rfl) rfl (boxE hb_b2 hw_w2 (Vl.alloc (z := .map none) (by kernel_rfl))) ?_
  obtain ⟨⟨o_w3, ho1⟩, hf1, h⟩ := h
  obtain ⟨w3, hw_w3⟩ : ∃ w3, w3 = World.setCell w2 (⟨b2, 0, none⟩ : Addr) (.map (some b1)) := ⟨_, rfl⟩
  replace h := h w3 hw_w3
  refine LW.eff hL rfl (Wants.free rfl) rfl (stE hw_w3 (Ef.st rfl rfl rfl (by kernel_rfl) ho1 hf1)) ?_
  refine LW.nil hL rfl ?_
  refine NW.then ?_
  obtain ⟨J1, hJ1, h⟩ := h
  refine CW.cut (S := Unit) (fun s1 => [(2, .nilFunc), (3, .pointer (some (⟨b2, 0, none⟩ : Addr)))]) (fun s1 w4 => J1 w4) (fun s1 w4 h_ => ?_) ?_
  · replace h := hJ1 w4 h_; clear h_
    refine CW.seq ?_
    refine CW.region fun L hL => ?_
    refine LW.rd hL rfl (Wants.free rfl) rfl (Rd.makeFunc rfl) ?_
    refine LW.rd hL rfl (Wants.free rfl) rfl (Rd.assign (v := .func (.func 100) #[] #[.pointer (some (⟨b2, 0, none⟩ : Addr))]) rfl) ?_
    refine LW.nil hL rfl ?_
    refine NW.then ?_
    refine CW.ret ?_
    exact res1 rfl rfl ⟨.func (.func 100) #[] #[.pointer (some (⟨b2, 0, none⟩ : Addr))], rfl, h⟩
  · skip
    refine CW.seq ?_
    refine CW.region fun L hL => ?_
    refine LW.rd hL rfl (Wants.free rfl) rfl (Rd.move (v := .pointer f1) rfl) ?_
    refine LW.call hL rfl (Wants.free rfl) rfl (Cl.fn (f := 73) rfl Try.func73 (by kernel_rfl) rfl) h (fun e w5 h_ => ?_)
    clear h
    obtain ⟨r2, rfl, h⟩ := h_
    refine ⟨_, rfl, ?_⟩
    refine LW.rd hL rfl (Wants.free rfl) rfl (Rd.un (v := .bool (!r2)) rfl (fun _ => by kernel_rfl)) ?_
    refine LW.nil hL rfl ?_
    refine NW.then ?_
    refine CW.cond rfl (fun hb1 => ?_) (fun hb1 => ?_)
    · replace h := h.1 hb1
      refine CW.region fun L hL => ?_
      refine LW.rd hL rfl (Wants.free rfl) rfl (Rd.move (v := .pointer f1) rfl) ?_
      refine LW.call hL rfl (Wants.free rfl) rfl (Cl.fn (f := 99) rfl Try.func99 (by kernel_rfl) rfl) h (fun e w6 h_ => ?_)
      clear h
      obtain ⟨r3, rfl, h⟩ := h_
      refine ⟨_, rfl, ?_⟩
      obtain ⟨⟨o_w7, ho2⟩, hf2, h⟩ := h
      obtain ⟨w7, hw_w7⟩ : ∃ w7, w7 = World.setCell w6 (⟨b2, 0, none⟩ : Addr) (.map r3) := ⟨_, rfl⟩
      replace h := h w7 hw_w7
      refine LW.eff hL rfl (Wants.free rfl) rfl (stE hw_w7 (Ef.st rfl rfl rfl (by kernel_rfl) ho2 hf2)) ?_
      refine LW.nil hL rfl ?_
      exact NW.cut (S := Unit) (Ek := fun s1 => [(2, .nilFunc), (3, .pointer (some (⟨b2, 0, none⟩ : Addr)))]) () (by exact ⟨rfl, rfl, trivial⟩) h
    · replace h := h.2 hb1
      refine CW.skip ?_
      exact NW.cut (S := Unit) (Ek := fun s1 => [(2, .nilFunc), (3, .pointer (some (⟨b2, 0, none⟩ : Addr)))]) () (by exact ⟨rfl, rfl, trivial⟩) h

end Go.Proofs.Ytkfncibmfcdokaa
end

/- XOrder -/
section
/- flow.order: which place is ahead; as slices.SortFunc asks it. -/
set_option linter.unusedVariables false
set_option linter.unusedSimpArgs false
namespace Go.Proofs.Ytkfncibmfcdokaa
open Go Go.RowKit Go.X Go.Shelf Go.Sort

def cmpI (x y : Int) : Int := if x < y then -1 else if y < x then 1 else 0
def cmpP (x y : Int × Int) : Int := if cmpI x.1 y.1 = 0 then cmpI x.2 y.2 else cmpI x.1 y.1
theorem isNaN139 (w : World) (x : Int) : Calls Try.prog 139 #[.int .i64 x] w fun e w' => ∃ r : Bool, e = .returned (.bool r) ∧ (r = false ∧ w' = w) := by
  refine go_cmp_isNaN_942 _ _ _ ?_
  unfold W_cmp_isNaN_942
  exact ⟨by simp, rfl⟩
theorem isNaN140 (w : World) (x : Int) : Calls Try.prog 140 #[.int .i64 x] w fun e w' => ∃ r : Bool, e = .returned (.bool r) ∧ (r = false ∧ w' = w) := by
  refine go_cmp_isNaN_61 _ _ _ ?_
  unfold W_cmp_isNaN_61
  exact ⟨by simp, rfl⟩
theorem cmp122 (w : World) (x y : Int) : Calls Try.prog 122 #[.int .i64 x, .int .i64 y] w fun e w' => ∃ r : Int, e = .returned (.int .i64 r) ∧ (r = cmpI x y ∧ w' = w) := by
  refine go_cmp_Compare_942 _ _ _ _ ?_
  unfold W_cmp_Compare_942
  refine (isNaN139 w x).mono ?_
  rintro _ w1 ⟨_, rfl, rfl, hw⟩
  subst w1
  refine ⟨_, rfl, ?_⟩
  refine (isNaN139 w y).mono ?_
  rintro _ w1 ⟨_, rfl, rfl, hw⟩
  subst w1
  refine ⟨_, rfl, fun h => by simp at h, fun _ => ⟨fun h => by simp at h, fun _ => ⟨fun h => ?_, fun h => ⟨fun h' => ?_, fun h' => ?_⟩⟩⟩⟩
  · have := of_decide_eq_true h
    exact ⟨by unfold cmpI; rw [if_pos this], rfl⟩
  · have h1 := of_decide_eq_false h
    have h2 := of_decide_eq_true h'
    exact ⟨by unfold cmpI; rw [if_neg h1, if_pos h2], rfl⟩
  · have h1 := of_decide_eq_false h
    have h2 := of_decide_eq_false h'
    exact ⟨by unfold cmpI; rw [if_neg h1, if_neg h2], rfl⟩
theorem cmp123 (w : World) (x y : Int) : Calls Try.prog 123 #[.int .i64 x, .int .i64 y] w fun e w' => ∃ r : Int, e = .returned (.int .i64 r) ∧ (r = cmpI x y ∧ w' = w) := by
  refine go_cmp_Compare_61 _ _ _ _ ?_
  unfold W_cmp_Compare_61
  refine (isNaN140 w x).mono ?_
  rintro _ w1 ⟨_, rfl, rfl, hw⟩
  subst w1
  refine ⟨_, rfl, ?_⟩
  refine (isNaN140 w y).mono ?_
  rintro _ w1 ⟨_, rfl, rfl, hw⟩
  subst w1
  refine ⟨_, rfl, fun h => by simp at h, fun _ => ⟨fun h => by simp at h, fun _ => ⟨fun h => ?_, fun h => ⟨fun h' => ?_, fun h' => ?_⟩⟩⟩⟩
  · have := of_decide_eq_true h
    exact ⟨by unfold cmpI; rw [if_pos this], rfl⟩
  · have h1 := of_decide_eq_false h
    have h2 := of_decide_eq_true h'
    exact ⟨by unfold cmpI; rw [if_neg h1, if_pos h2], rfl⟩
  · have h1 := of_decide_eq_false h
    have h2 := of_decide_eq_false h'
    exact ⟨by unfold cmpI; rw [if_neg h1, if_neg h2], rfl⟩

set_option maxHeartbeats 1000000 in
theorem order103 (x y : Int × Int) (W : World) : Calls Try.prog 103 #[.agg #[.int .i64 x.1, .int .i64 x.2], .agg #[.int .i64 y.1, .int .i64 y.2]] W fun e w' => e = .returned (.int .i64 (cmpP x y)) ∧ ∃ q os', w' = grow (W.drewN q) os' := by
  have h1 := fun W' => cmp122 W' x.1 y.1
  have h2 := fun W' => cmp123 W' x.2 y.2
  unfold cmpP
  generalize cmpI x.1 y.1 = r1 at h1 ⊢
  generalize cmpI x.2 y.2 = r2 at h2 ⊢
  go_enter Try.func103, Try.ntmps103
  go_wp2_with (first
    | (go_at_call 122; refine (h1 _).mono ?_; rintro e w' ⟨_, rfl, rfl, rfl⟩)
    | (go_at_call 123; refine (h2 _).mono ?_; rintro e w' ⟨_, rfl, rfl, rfl⟩))
  all_goals first
    | (exfalso; simp_all; done)
    | (go_ret; exact ⟨by simp_all, 0, _, by rw [alloc_eq_grow, alloc_eq_grow, grow_grow]; rfl⟩)
end Go.Proofs.Ytkfncibmfcdokaa
end

/- XPSort -/
section
/- slices.SortFunc over places (by the shelf's contract). -/
set_option linter.unusedVariables false
set_option linter.unusedSimpArgs false
namespace Go.Proofs.Ytkfncibmfcdokaa
open Go Go.RowKit Go.X Go.Shelf Go.Sort

/-! The shelf's laying of slices.SortFunc (written by the kit's lay-plain) -/
def sortP_ren : Go.Shelf.Ren := ⟨fun | 6 => 120 | 15 => 136 | 14 => 138 | 28 => 150 | 29 => 151 | 20 => 152 | 21 => 153 | 22 => 154 | 23 => 155 | 24 => 156 | 25 => 157 | 26 => 158 | 27 => 159 | 46 => 165 | 47 => 161 | 48 => 162 | 49 => 166 | 50 => 167 | 57 => 169 | n => n, fun | 22 => 47 | 24 => 56 | 25 => 194 | 3 => 3 | 39 => 128 | 0 => 0 | 53 => 22 | 55 => 237 | 4 => 4 | 46 => 230 | 45 => 229 | 50 => 221 | 5 => 5 | 9 => 9 | 66 => 243 | 70 => 247 | 76 => 251 | 77 => 252 | n => n, fun | n => n⟩
theorem sortP : Go.Proofs.SlLaysF0.n6 Try.prog sortP_ren := {
  mixed := by kernel_rfl
  f6 := ⟨Try.f120.name, by decide, Try.func120.trans (congrArg some (by kernel_rfl))⟩
  f14 := ⟨Try.f138.name, by decide, Try.func138.trans (congrArg some (by kernel_rfl))⟩
  f15 := Try.func136.trans (congrArg some (by kernel_rfl))
  f20 := ⟨Try.f152.name, by decide, Try.func152.trans (congrArg some (by kernel_rfl))⟩
  f21 := ⟨Try.f153.name, by decide, Try.func153.trans (congrArg some (by kernel_rfl))⟩
  f22 := ⟨Try.f154.name, by decide, Try.func154.trans (congrArg some (by kernel_rfl))⟩
  f23 := ⟨Try.f155.name, by decide, Try.func155.trans (congrArg some (by kernel_rfl))⟩
  f24 := ⟨Try.f156.name, by decide, Try.func156.trans (congrArg some (by kernel_rfl))⟩
  f25 := ⟨Try.f157.name, by decide, Try.func157.trans (congrArg some (by kernel_rfl))⟩
  f26 := ⟨Try.f158.name, by decide, Try.func158.trans (congrArg some (by kernel_rfl))⟩
  f27 := ⟨Try.f159.name, by decide, Try.func159.trans (congrArg some (by kernel_rfl))⟩
  f28 := Try.func150.trans (congrArg some (by kernel_rfl))
  f29 := Try.func151.trans (congrArg some (by kernel_rfl))
  f46 := ⟨Try.f165.name, by decide, Try.func165.trans (congrArg some (by kernel_rfl))⟩
  f47 := Try.func161.trans (congrArg some (by kernel_rfl))
  f48 := Try.func162.trans (congrArg some (by kernel_rfl))
  f49 := ⟨Try.f166.name, by decide, Try.func166.trans (congrArg some (by kernel_rfl))⟩
  f50 := ⟨Try.f167.name, by decide, Try.func167.trans (congrArg some (by kernel_rfl))⟩
  f57 := ⟨Try.f169.name, by decide, Try.func169.trans (congrArg some (by kernel_rfl))⟩
  t0 := Try.underlying0
  a0 := Try.isAgg0
  z0 := Try.sizeOf0
  v0 := Try.zeroValue0
  t3 := Try.underlying3
  a3 := Try.isAgg3
  z3 := Try.sizeOf3
  v3 := Try.zeroValue3
  t4 := Try.underlying4
  a4 := Try.isAgg4
  z4 := Try.sizeOf4
  v4 := Try.zeroValue4
  t5 := Try.underlying5
  a5 := Try.isAgg5
  z5 := Try.sizeOf5
  v5 := Try.zeroValue5
  t9 := Try.underlying9
  a9 := Try.isAgg9
  z9 := Try.sizeOf9
  v9 := Try.zeroValue9
  t22 := Try.underlying47
  a22 := Try.isAgg47
  z22 := Try.sizeOf47
  v22 := Try.zeroValue47
  t25 := Try.underlying194
  a25 := Try.isAgg194
  z25 := Try.sizeOf194
  v25 := Try.zeroValue194
  t39 := Try.underlying128
  a39 := Try.isAgg128
  z39 := Try.sizeOf128
  v39 := Try.zeroValue128
  t45 := Try.underlying229
  a45 := Try.isAgg229
  z45 := Try.sizeOf229
  v45 := Try.zeroValue229
  t46 := Try.underlying230
  a46 := Try.isAgg230
  z46 := Try.sizeOf230
  v46 := Try.zeroValue230
  t50 := Try.underlying221
  a50 := Try.isAgg221
  z50 := Try.sizeOf221
  v50 := Try.zeroValue221
  t53 := Try.underlying22
  a53 := Try.isAgg22
  z53 := Try.sizeOf22
  v53 := Try.zeroValue22
  t55 := Try.underlying237
  a55 := Try.isAgg237
  z55 := Try.sizeOf237
  v55 := Try.zeroValue237
  t66 := Try.underlying243
  a66 := Try.isAgg243
  z66 := Try.sizeOf243
  v66 := Try.zeroValue243
  t70 := Try.underlying247
  a70 := Try.isAgg247
  z70 := Try.sizeOf247
  v70 := Try.zeroValue247
  t76 := Try.underlying251
  a76 := Try.isAgg251
  z76 := Try.sizeOf251
  v76 := Try.zeroValue251
  t77 := Try.underlying252
  a77 := Try.isAgg252
  z77 := Try.sizeOf252
  v77 := Try.zeroValue252 }

def encPl (x : Int × Int) : List Value := [.int .i64 x.1, .int .i64 x.2]
def ltPl (x y : Int × Int) : Prop := x.1 < y.1 ∨ (x.1 = y.1 ∧ x.2 < y.2)
instance (x y : Int × Int) : Decidable (ltPl x y) := by unfold ltPl; exact inferInstance
theorem lt_cmpP (x y : Int × Int) : ltOf cmpP x y = decide (ltPl x y) := by
  unfold ltOf cmpP cmpI ltPl
  refine decide_eq_decide.2 ?_
  by_cases h1 : x.1 < y.1
  · simp [h1]
  · by_cases h2 : y.1 < x.1
    · simp [h1, h2]; omega
    · by_cases h3 : x.2 < y.2
      · simp [h1, h2, h3]; omega
      · by_cases h4 : y.2 < x.2
        · simp [h1, h2, h3, h4]
        · simp [h1, h2, h3, h4]
theorem swoP : SWO (ltOf cmpP) where
  irrefl x := by rw [lt_cmpP]; exact decide_eq_false (by unfold ltPl; omega)
  trans x y z h1 h2 := by rw [lt_cmpP] at *; have a := of_decide_eq_true h1; have b := of_decide_eq_true h2; exact decide_eq_true (by unfold ltPl at *; omega)
  ntrans x y z h1 h2 := by rw [lt_cmpP] at *; have a := of_decide_eq_false h1; have b := of_decide_eq_false h2; exact decide_eq_false (by unfold ltPl at *; omega)
theorem cmpLays103 (blk off size : Nat) (w : World) : CmpLays Try.prog 103 #[] encPl 2 cmpP blk off size w :=
  fun _ _ _ _ x y => order103 x y _

theorem flat_length2 (xs : List (Int × Int)) : (xs.flatMap encPl).length = xs.length * 2 := by
  induction xs with
  | nil => rfl
  | cons a l ih => rw [List.flatMap_cons, List.length_append, ih]; simp [encPl]; omega
theorem flat_get2 : ∀ (xs : List (Int × Int)) (j : Nat) (x : Int × Int), xs[j]? = some x → (xs.flatMap encPl)[j * 2]? = some (.int .i64 x.1) ∧ (xs.flatMap encPl)[j * 2 + 1]? = some (.int .i64 x.2)
  | [], j, x, h => by simp at h
  | a :: l, 0, x, h => by simp at h; subst h; simp [encPl]
  | a :: l, j + 1, x, h => by
    have := flat_get2 l j x (by simpa using h)
    simp only [List.flatMap_cons, encPl, List.cons_append, List.nil_append]
    rw [show (j + 1) * 2 = j * 2 + 1 + 1 by omega]
    simpa using this
theorem flatK_eq (xs : List (Int × Int)) : flatK encPl 2 xs.toArray = (xs.flatMap encPl).toArray := by
  refine ext_get! (by rw [size_flatK, List.size_toArray, List.size_toArray, flat_length2]) fun t ht => ?_
  have ht' : t < xs.length * 2 := by simpa using ht
  rw [get_flatK _ _ _ t (by simpa using ht')]
  have hj : t / 2 < xs.length := by omega
  have hx : xs[t / 2]? = some xs[t / 2] := List.getElem?_eq_getElem hj
  obtain ⟨g0, g1⟩ := flat_get2 xs (t / 2) _ hx
  have e1 : (xs.toArray[t / 2]!) = xs[t / 2] := by simp [hj]
  rw [e1]
  have hl : t < (xs.flatMap encPl).length := by rw [flat_length2]; exact ht'
  have e2 : (xs.flatMap encPl).toArray[t]! = (xs.flatMap encPl)[t] := by rw [getElem!_pos _ t (by simpa using hl)]; simp
  rw [e2]
  rcases Nat.mod_two_eq_zero_or_one t with h | h
  · rw [h]
    have : t / 2 * 2 = t := by omega
    rw [this, List.getElem?_eq_getElem hl] at g0
    rw [Option.some.inj g0]; rfl
  · rw [h]
    have : t / 2 * 2 + 1 = t := by omega
    rw [this, List.getElem?_eq_getElem hl] at g1
    rw [Option.some.inj g1]; rfl

theorem heap_sortedV {w : World} {g n : Nat} {os : Array Obj} {cur : Array Value} {e : TypeId} {fr : Nat × Nat} (F : Array Value) (hb : w.heap[g]? = some (.cells cur e fr)) :
    (grow (putRow id (Sort.ahead w n) g 0 F) os).heap[g]? = some (.cells (putCells id 0 F cur) e fr) := by
  have hg : g < w.heap.size := (Array.getElem?_eq_some_iff.1 hb).1
  rw [heap_grow_old _ _ (by simpa using hg)]
  simp [putRow, mapBlock, Sort.ahead, Array.getElem?_modify, hb, onCells]
theorem chg_sortedV {w : World} {g n : Nat} {os : Array Obj} (F : Array Value) : Chg [g] w (grow (putRow id (Sort.ahead w n) g 0 F) os) := by
  refine ⟨rfl, rfl, rfl, by simp, fun k hk hne => ?_⟩
  rw [heap_grow_old _ _ (by simpa using hk)]
  have : g ≠ k := fun e => hne (by simp [e])
  simp [putRow, mapBlock, Sort.ahead, Array.getElem?_modify, this]
theorem take_putCellsV (cur F : Array Value) (h : F.size ≤ cur.size) : (putCells id 0 F cur).toList.take F.size = F.toList := by
  apply List.ext_getElem?
  intro j
  by_cases hj : j < F.size
  · rw [List.getElem?_take_of_lt hj, Array.getElem?_toList]
    simp [putCells, hj, show j < cur.size by omega]
  · rw [List.getElem?_take_eq_none (by omega), List.getElem?_eq_none (by simp; omega)]

theorem sort_places {w : World} {p : Option Addr} {n c : Nat} {xs : List (Int × Int)} (h : RowAt w 56 2 p n c (xs.flatMap encPl)) (hn : n = xs.length) (hle : n ≤ 1000000000000) :
    Calls Try.prog 120 #[.slice p n c, .func (.func 103) #[] #[]] w fun e w' => e = .returned (.tuple #[]) ∧ ∃ ys : List (Int × Int), ys.Perm xs ∧ ys.Pairwise (fun a b => ¬ ltPl b a) ∧ RowAt w' 56 2 p n c (ys.flatMap encPl) ∧ Chg (rowB p) w w' := by
  subst hn
  rcases h.2 with ⟨hv, hz⟩ | ⟨g, cap, cur, hv, hb, hg, h1, h2, h3, h4⟩
  · obtain rfl : xs = [] := List.eq_nil_of_length_eq_zero hz
    cases hv
    refine (AnyF.slices_SortFunc_none sortP none 0 _ w).mono ?_
    rintro e w' ⟨rfl, rfl⟩
    exact ⟨rfl, [], List.Perm.refl _, List.Pairwise.nil, h, Chg.refl _ _⟩
  · cases hv
    have eg : ∀ args w, (callFunc 103 args).run Try.prog w = .ok (.enter 103 args) w := enters_of Try.func103 (by kernel_rfl) rfl
    have hH : HoldsK encPl 2 w g 0 xs.toArray := by
      unfold HoldsK
      rw [flatK_eq]
      intro j hj
      have hj' : j < (xs.flatMap encPl).length := by simpa using hj
      refine ⟨?_, by simp [World.frozen?, hg]⟩
      have e1 : cur.toList[j]? = (xs.flatMap encPl)[j]? := by
        rw [← h4, List.getElem?_take_of_lt (by rw [flat_length2] at hj'; omega)]
      simp only [World.cell?, hg, Nat.zero_add, Option.isSome_none, Bool.false_eq_true, if_false]
      rw [← Array.getElem?_toList, e1, List.getElem?_eq_getElem hj', getElem!_pos _ j (by simpa using hj')]
      simp
    have hcon := AnyQ.slices_SortFunc sortP 2 Try.isAgg56 Try.sizeOf56 encPl (fun _ => rfl) (fun x v hv => by simp [encPl] at hv; rcases hv with rfl | rfl <;> rfl) cmpP swoP 103 #[] g 0 c xs.toArray w eg (cmpLays103 g 0 _ w) hH (lt_of_heap hg) (by simp; omega)
    rw [List.size_toArray] at hcon
    refine Calls.mono hcon ?_
    rintro e w' ⟨rfl, d', nn, os, ⟨hs, _, hperm⟩, hsort, rfl⟩
    have hd : d'.toList.Perm xs := by
      have hs' : d'.size = xs.length := by simpa using hs
      have e1 : d'.extract 0 xs.length = d' := by rw [← hs']; simp
      have e2 : xs.toArray.extract 0 xs.length = xs.toArray := by simp
      rw [e1, e2] at hperm
      simpa using hperm
    have hlen : d'.toList.length = xs.length := hd.length_eq
    have hds : d' = d'.toList.toArray := by simp
    refine ⟨rfl, d'.toList, hd, ?_, ?_, ?_⟩
    · rw [List.pairwise_iff_getElem]
      intro i j hi hj hij
      have := hsort i j (Nat.zero_le _) hij (by omega)
      rw [lt_cmpP] at this
      have := of_decide_eq_false this
      rw [getElem!_pos d' j (by simpa using hj), getElem!_pos d' i (by simpa using hi)] at this
      simpa using this
    · unfold sortWorldK putRowK
      rw [hds, flatK_eq]
      have hF : ((d'.toList.flatMap encPl).toArray).size = xs.length * 2 := by rw [List.size_toArray, flat_length2, hlen]
      refine ⟨by rw [List.toList_toArray, flat_length2, hlen], .inr ⟨g, c, _, rfl, Nat.zero_le _, heap_sortedV _ hg, h1, h2, by simp [putCells, h3], ?_⟩⟩
      have := take_putCellsV cur (d'.toList.flatMap encPl).toArray (by rw [hF, h3]; exact Nat.mul_le_mul_right 2 h1)
      rw [hF] at this
      simpa using this
    · unfold sortWorldK putRowK
      simpa [rowB] using chg_sortedV (w := w) (g := g) (n := nn) (os := os) (flatK encPl 2 d')
end Go.Proofs.Ytkfncibmfcdokaa
end

/- XPCollect -/
section
/- maps.Keys over places; slices.Collect, slices.SortedFunc over them. -/
set_option linter.unusedVariables false
set_option linter.unusedSimpArgs false
namespace Go.Proofs.Ytkfncibmfcdokaa
open Go Go.RowKit Go.X Go.XR

theorem encP_inj : ∀ a b : Int × Int, encP a = encP b → a = b := fun a b h => by
  simp [encP] at h
  exact Prod.ext h.1 h.2

theorem maps_pkeys (w : World) (m : Option Nat) : Calls Try.prog 102 #[.map m] w fun e w' => ∃ r : Value, e = .returned r ∧ ∃ cb, r = .func (.func 121) #[] #[.pointer (some ⟨cb, 0, none⟩)] ∧ cb = w.heap.size ∧ w'.heap[cb]? = some (.cells #[.map m] 143 (0, 0)) ∧ Chg [] w w' := by
  refine go_maps_Keys_134 _ _ _ ?_
  unfold W_maps_Keys_134
  exact v_alloc fun b w1 e h c => ⟨b, rfl, e, h, c⟩

theorem isFn121 (cb : Nat) : IsFn Try.prog (.func (.func 121) #[] #[.pointer (some ⟨cb, 0, none⟩)]) := ⟨121, Try.f121, _, rfl, Try.func121, by kernel_rfl, by kernel_rfl⟩
theorem iterates_pkeys {w : World} {cb m : Nat} {l : List ((Int × Int) × Int)} (hcb : w.heap[cb]? = some (.cells #[.map (some m)] 143 (0, 0))) (hm : MapIs w m encP (fun n : Int => .int .u32 n) l) :
    Iterates Try.prog (.func (.func 121) #[] #[.pointer (some ⟨cb, 0, none⟩)]) (fun x : Int × Int => #[.agg #[.int .i64 x.1, .int .i64 x.2]]) (allS Prod.fst l) (allSp Prod.fst l) [cb, m] w := by
  intro W yv I Ix hW hI hIx h0 hround
  refine ⟨121, #[.pointer (some ⟨cb, 0, none⟩)], Try.f121, rfl, Try.func121, by kernel_rfl, by kernel_rfl, ?_⟩
  have hcW := hW.obj (by simp) hcb
  have hmW := hm.chg hW (by simp)
  have hlm := hmW.lt
  refine (go_maps_Keys_134_1 yv ⟨cb, 0, none⟩ W (fun w' => ∃ Own, InO W Own w' ∧ ((∃ xs, allS Prod.fst l xs ∧ I Own xs w') ∨ ∃ pre, allSp Prod.fst l pre ∧ Ix Own pre w')) ?_).mono (fun e w' h => ⟨⟨_, h.1⟩, h.2⟩)
  unfold W_maps_Keys_134_1
  obtain ⟨it, w1, hrg, c1, hit, hI1⟩ := iter_range (P := Try.prog) (T := 143) hmW u143
  refine ⟨_, by rw [cell_of hcW]; rfl, _, w1, hrg, ?_⟩
  have hne : it ≠ m := by omega
  have s1 := c1.size
  have hitlt := hI1.lt
  refine ⟨fun w2 => ∃ done, I [it] (done.map Prod.fst) w2 ∧ IterAt w2 it m encP (fun n : Int => .int .u32 n) l done ∧ w1.heap.size ≤ w2.heap.size, fun w2 => l.length - seenN w2 it, ⟨[], ?_, hI1, Nat.le_refl _⟩, ?_⟩
  · exact hI [] [] [it] W w1 h0 (by intro i hi; cases hi) c1 (by intro i hi; simp at hi; omega) (by intro i hi; simp at hi; omega)
  rintro w2 ⟨done, hi, hIt, s2⟩
  have hin : ∀ {A : World}, w1.heap.size ≤ A.heap.size → InO W [it] A := fun hA i hi => by simp at hi; omega
  rcases iter_next (P := Try.prog) hIt hne encP_inj 0 with ⟨hnx, hall⟩ | ⟨k, v, w3, hkl, hnew, hrun, c3, hI3, hent⟩
  · exact ⟨_, false, w2, hnx, rfl, fun h => by simp at h, fun _ => ⟨[it], hin s2, .inl ⟨_, ⟨done, rfl, hIt.sub.2.1, hIt.sub.1, hall⟩, hi⟩⟩⟩
  · have s3 := c3.size
    refine ⟨_, true, w3, hrun, rfl, fun _ => ⟨k.1, k.2, v, hent, ?_⟩, fun h => by simp at h⟩
    rintro b1 w5 ⟨q1, q2⟩ c5
    have s5 := c5.size
    have hI5 := hI3.chg c5 (by simp) (by simp)
    have hi3 := hI (done.map Prod.fst) [it] [it] w2 w3 hi (hin s2) c3 (hin (by omega)) (fun i h => .inl h)
    have hi5 := hI (done.map Prod.fst) [it] [it] w3 w5 hi3 (hin (by omega)) c5.nil (hin (by omega)) (fun i h => .inl h)
    have e1 : done.map Prod.fst ++ [k] = (done ++ [(k, v)]).map Prod.fst := by simp
    refine (hround [it] (done.map Prod.fst) k w5 (hin (by omega)) ⟨done ++ [(k, v)], e1, hI3.sub.2.1, hI3.sub.1⟩ hi5).mono ?_
    rintro e w4 ⟨s4, ⟨rfl, hi4, hs4⟩ | ⟨rfl, hx4⟩⟩
    · refine ⟨true, rfl, fun h => by simp at h, fun _ => ⟨⟨done ++ [(k, v)], by rw [← e1]; exact hi4, hI5.eq (hs4 it (by simp)) (hs4 m (by simp)), by omega⟩, ?_⟩⟩
      have a1 := hIt.count
      have a2 := hI5.count
      have a3 := hIt.more hkl hnew
      have a4 : seenN w4 it = seenN w5 it := by unfold seenN; rw [hs4 it (by simp)]
      simp at a2
      simp only []
      omega
    · exact ⟨false, rfl, fun _ => ⟨[it], hin (by omega), .inr ⟨_, ⟨done ++ [(k, v)], e1, hI3.sub.2.1, hI3.sub.1⟩, hx4⟩⟩, fun h => by simp at h⟩

theorem Iterates_later {α : Type} {P : Program} {fv : Value} {enc : α → Array Value} {S Sp : List α → Prop} {keep : List Nat} {w w1 : World} (h : Iterates P fv enc S Sp keep w) (hc : Chg [] w w1) : Iterates P fv enc S Sp keep w1 :=
  fun W yv I Ix hW => h W yv I Ix (hc.trans0 hW)
theorem append_pseq {w : World} {fv : Value} {S Sp : List (Int × Int) → Prop} {keep : List Nat} (hf : IsFn Try.prog fv) (hi : Iterates Try.prog fv (fun x : Int × Int => #[.agg #[.int .i64 x.1, .int .i64 x.2]]) S Sp keep w) (hk : ∀ i ∈ keep, i < w.heap.size)
    (hle : ∀ pre, Sp pre → pre.length ≤ 1000000000000) :
    Calls Try.prog 137 #[.slice none 0 0, fv] w fun e w' => ∃ (p : Option Addr) (n c : Nat), e = .returned (.slice p n c) ∧ ∃ xs, S xs ∧ n = xs.length ∧ RowAt w' 56 2 p n c (xs.flatMap encPl) ∧ Chg [] w w' ∧ ∀ b ∈ rowB p, w.heap.size ≤ b := by
  refine go_slices_AppendSeq_194 _ _ _ _ _ _ ?_
  unfold W_slices_AppendSeq_194
  rintro b1 w1 ⟨hb1, hb2⟩ c1
  have s1 := c1.size
  refine ⟨S, Sp, keep, hf, Iterates_later hi c1, fun i h => Nat.lt_of_lt_of_le (hk i h) s1,
    fun p n c O pre w' => n = pre.length ∧ RowAt w' 56 2 p n c (pre.flatMap encPl) ∧ (∀ b ∈ rowB p, b ∉ O ∧ w1.heap.size ≤ b) ∧ Chg [] w w' ∧ w1.heap.size ≤ w'.heap.size, ?_, ?_, ?_, ?_⟩
  · rintro p n c pre O O' A B ⟨k1, k2, k3, k4, k5⟩ hO hc hO' hg
    have hsz := hc.size
    refine ⟨k1, k2.chg hc (fun b hb => (k3 b hb).1), fun b hb => ⟨fun hm => ?_, (k3 b hb).2⟩, k4.trans hc (fun i hi hlt => by have := (hO i hi).1; omega), by omega⟩
    rcases hg _ hm with h | h
    · exact (k3 b hb).1 h
    · have := k2.lt b hb; omega
  · intro O w2 c2 hO
    exact ⟨rfl, RowAt.nil, by simp [rowB], c1.trans0 c2, c2.size⟩
  · rintro l1 O pre x1 x2 p n c w2 hO hl1 hsp ⟨k1, k2, k3, k4, k5⟩ b2 w3 ⟨q1, q2⟩ c3
    have s3 := c3.size
    have hl := hO l1 hl1
    have hlp : ∀ b ∈ rowB p, b ∉ [l1] := fun b hb hm => by simp at hm; subst hm; exact (k3 _ hb).1 hl1
    refine v_alloc fun b3 w4 e2 hb2' c4 => ?_
    have s4 := c4.size
    have hlen := hle _ hsp
    simp at hlen
    have hr4 : RowAt w4 56 2 p n c (pre.flatMap encPl) := (k2.chg c3 hlp).chg c4 (by simp)
    obtain ⟨p', c', w5, hrun, hr5, c5, hnew⟩ := hr4.append (P := Try.prog) (t := 47) (ty := 47) (i := Try.t56) (z := .agg #[.int .i64 0, .int .i64 0]) (bytes := 16) (by kernel_rfl) (by kernel_rfl) (by kernel_rfl) (by kernel_rfl) (by kernel_rfl) rfl (by omega) (a := ⟨b3, 0, none⟩) (m := 1) (mc := 1) (news := [Value.int .i64 x1, Value.int .i64 x2]) (by simp)
      (fun j u hj => by
        match j, hj with
        | 0, hj => simp at hj; subst hj; rw [add_at, cell_of hb2']; rfl
        | 1, hj => simp at hj; subst hj; rw [add_at, cell_of hb2']; rfl
        | j + 2, hj => simp at hj) (by simp; exact ⟨rfl, rfl⟩) (by subst k1; unfold maxLen; omega) (by omega)
    have s5 := c5.size
    refine ⟨p', n + 1, c', w5, hrun, Same.of c5 (fun b hb => ⟨by simp at hb; omega, fun hm => by simp at hb; have := (k3 _ hm).2; omega⟩), fun w6 c6 => ?_⟩
    have s6 := c6.size
    have hnew' : ∀ b ∈ rowB p', b ∉ O ∧ w1.heap.size ≤ b := fun b hb => by
      rcases hnew b hb with h | h
      · exact k3 b h
      · exact ⟨fun hm => by have := (hO _ hm).2; omega, by omega⟩
    have c46 : Chg (b1 :: rowB p) w4 w6 := (c5.mono (fun i hi _ => List.mem_cons_of_mem _ hi)).trans c6 (fun i hi _ => by simp at hi; simp [hi])
    have c36 : Chg (b1 :: rowB p) w3 w6 := (c4.nil (f := b1 :: rowB p)).trans c46 (fun i hi _ => hi)
    refine ⟨by omega, ⟨by simp [k1], ?_, hnew', ?_, by omega⟩, ?_⟩
    · rw [List.flatMap_append]
      exact hr5.chg c6 (fun b hb hm => by simp at hm; have := (hnew' b hb).2; omega)
    · have c03 : Chg [] w w3 := k4.trans c3 (fun i hi hlt => by simp at hi; omega)
      exact c03.trans c36 (fun i hi hlt => by
        rcases List.mem_cons.1 hi with h | h
        · omega
        · have := (k3 i h).2; omega)
    · refine Same.of c36 (fun b hb => ?_)
      rcases List.mem_append.1 hb with h | h
      · have := hk b h
        refine ⟨by omega, fun hm => ?_⟩
        rcases List.mem_cons.1 hm with h | h
        · omega
        · have := (k3 b h).2; omega
      · have := hO b h
        refine ⟨by omega, fun hm => ?_⟩
        rcases List.mem_cons.1 hm with h' | h'
        · omega
        · exact (k3 b h').1 h
  · rintro d O xs p n c w7 hO hd hS ⟨k1, k2, k3, k4, k5⟩ w8 c8
    exact ⟨xs, hS, k1, k2.chg c8 (fun b hb hm => by simp at hm; subst hm; exact (k3 _ hb).1 hd), k4.trans c8 (fun i hi hlt => by simp at hi; subst hi; have := (hO _ hd).1; omega), fun b hb => by have := (k3 b hb).2; omega⟩

theorem sorted_places {w : World} {fv : Value} {S Sp : List (Int × Int) → Prop} {keep : List Nat} (hf : IsFn Try.prog fv) (hi : Iterates Try.prog fv (fun x : Int × Int => #[.agg #[.int .i64 x.1, .int .i64 x.2]]) S Sp keep w) (hk : ∀ i ∈ keep, i < w.heap.size)
    (hle : ∀ pre, Sp pre → pre.length ≤ 1000000000000) (hSp : ∀ xs, S xs → Sp xs) :
    Calls Try.prog 101 #[fv, .func (.func 103) #[] #[]] w fun e w' => ∃ (p : Option Addr) (n c : Nat), e = .returned (.slice p n c) ∧ ∃ xs ys : List (Int × Int), S xs ∧ ys.Perm xs ∧ ys.Pairwise (fun a b => ¬ ltPl b a) ∧ n = ys.length ∧ RowAt w' 56 2 p n c (ys.flatMap encPl) ∧ Chg [] w w' ∧ ∀ b ∈ rowB p, w.heap.size ≤ b := by
  refine go_slices_SortedFunc_841 _ _ _ _ ?_
  unfold W_slices_SortedFunc_841
  refine (go_slices_Collect_841 _ _ (fun p n c w' => ∃ xs, S xs ∧ n = xs.length ∧ RowAt w' 56 2 p n c (xs.flatMap encPl) ∧ Chg [] w w' ∧ ∀ b ∈ rowB p, w.heap.size ≤ b) ?_).mono ?_
  · unfold W_slices_Collect_841
    refine (append_pseq hf hi hk hle).mono ?_
    rintro _ w1 ⟨p, n, c, rfl, h⟩
    exact ⟨p, n, c, rfl, h⟩
  rintro _ w1 ⟨p, n, c, rfl, xs, hS, hn, hr, c1, hb⟩
  refine ⟨p, n, c, rfl, ?_⟩
  refine (sort_places hr hn (by have := hle _ (hSp _ hS); omega)).mono ?_
  rintro _ w2 ⟨rfl, ys, hp, hs, hr2, c2⟩
  exact ⟨rfl, xs, ys, hS, hp, hs, by rw [hp.length_eq]; exact hn, hr2, c1.trans c2 (fun i hi hlt => by have := hb i hi; omega), hb⟩
end Go.Proofs.Ytkfncibmfcdokaa
end

/- XDrawn -/
section
/- Regions that draw their order, in codes that call rounds. -/
set_option linter.unusedVariables false
set_option linter.unusedSimpArgs false
set_option linter.unusedSectionVars false
namespace Go.XR
open Go Go.X Go.RowKit

section
variable {P : Program} {ops : Array Oper} {Q : Exit → Act → World → Prop} {S : World → Prop} {z : Nat}

theorem YieldsIf.wpOpIn {i : Nat} {o : Oper} {v : Value} {a : Act} (hi : ops[i]? = some o) (hy : YieldsIf P ops S o v a)
    {K : Act → World → Prop} {w : World} (hS : S w) (h : K (a.put o.dst v) w) : wpOpIn (FR none) 0 P ops Q i K a w := by
  unfold Go.wpOpIn
  simp only [hi]
  rcases hy with ⟨hw, hv⟩ | ⟨hw, rfl⟩
  · simp only [hw, if_true, Oper.wpIn, FR, Oper.semAt_none, hv w hS, Oper.uponIn]; exact ⟨fun _ _ => trivial, h⟩
  · simp only [hw, Bool.false_eq_true, if_false]; exact ⟨fun _ _ => trivial, h⟩

theorem wpOpIn_putIf {j : Nat} {oi oj : Oper} {v : Value} (hj : ops[j]? = some oj) (hap : oi.apart ops oj = true)
    (hsi : ∀ cs b, oi.op ≠ .select cs b) (hsj : ∀ cs b, oj.op ≠ .select cs b)
    (hQ : ∀ c a w, Q (.panic c) (a.put oi.dst v) w → Q (.panic c) a w) {K : Act → World → Prop} {a : Act} {w : World}
    (hy : YieldsIf P ops S oi v a) (h : wpOpIn (FR none) 0 P ops Q j K (a.put oi.dst v) w) :
    wpOpIn (FR none) 0 P ops Q j (fun a' w' => YieldsIf P ops S oi v a' ∧ K (a'.put oi.dst v) w') a w := by
  have hro : (FR none).round = none := rfl
  obtain ⟨h1, h2, h3⟩ := Oper.apart_spec hap
  have keep : ∀ (a : Act), YieldsIf P ops S oi v a → ∀ u, YieldsIf P ops S oi v (a.put oj.dst u) := fun a hy u =>
    hy.of_same (execOp_put oi hsi a oj.dst u h3) (wanted_put oi a oj.dst u h3)
  have keepD : ∀ d, YieldsIf P ops S oi v { a with defers := d :: a.defers } := fun d => hy.of_same rfl rfl
  unfold wpOpIn at *
  simp only [hj] at *
  rw [wanted_put oj a oi.dst v h1] at h
  split
  · rename_i hw
    simp only [hw, if_true] at h
    unfold Oper.wpIn at *
    refine ⟨fun _ _ => trivial, ?_⟩
    have h := h.2
    rw [hro, Oper.semAt_none, execOp_put oj hsj a oi.dst v h1] at h
    rw [hro, Oper.semAt_none]
    generalize (execOp a.eval oj).run P w = r at *
    cases r with
    | ok x w' =>
      cases x <;> simp only [Oper.uponIn] at h ⊢
      case value u => exact ⟨keep a hy u, by rw [← Act.put_comm a v u h2]; exact h⟩
      case skip => exact ⟨keep a hy _, by rw [← Act.put_comm a v undef h2]; exact h⟩
      case defer d =>
        refine ⟨keep _ (keepD d) _, ?_⟩
        rw [← Act.put_comm _ v undef h2, ← Act.put_defers]
        exact h
      case enter f args =>
        refine ⟨h.1, CallsIn.mono h.2 fun e w'' he => ?_⟩
        cases e with
        | returned u => exact ⟨keep a hy u, by rw [← Act.put_comm a v u h2]; exact he⟩
        | panicked c => exact hQ _ _ _ he
        | outgrown => exact he
      case row row args => exact ⟨h.1, RowsIn.mono h.2 fun u w'' he => ⟨keep a hy u, by rw [← Act.put_comm a v u h2]; exact he⟩⟩
      case round l f tmps assign body =>
        refine ⟨h.1, RoundIn.mono h.2 fun e w'' he => ?_⟩
        cases e with
        | returned u => exact ⟨keep a hy u, by rw [← Act.put_comm a v u h2]; exact he⟩
        | panicked c => exact hQ _ _ _ he
        | outgrown => exact he
    | halt x w' =>
      cases x <;> simp only [Oper.uponIn] at h ⊢
      case panic u => exact hQ _ _ _ h
  · rename_i hw
    simp only [hw] at h
    exact ⟨fun _ _ => trivial, keep a hy _, by rw [← Act.put_comm a v undef h2]; exact h.2⟩

/-- Whatever comes up next; behind each operation that comes up ahead of z S holds. -/
def AH (P : Program) (ops : Array Oper) (Q : Exit → Act → World → Prop) (S : World → Prop) (z : Nat) : Nat → Array Bool → Act → World → Prop
  | 0, l, a, w => Region.ready .any ops l = [] ∧ Q .normal a w
  | n + 1, l, a, w => (Region.ready .any ops l = [] → Q .normal a w) ∧
    ∀ i ∈ Region.ready .any ops l, wpOpIn (FR none) 0 P ops Q i (fun a' w' => ((l.setIfInBounds i true).getD z false = false → S w') ∧ AH P ops Q S z n (l.setIfInBounds i true) a' w') a w

theorem AH.any : ∀ (n : Nat) (l : Array Bool) (a : Act) (w : World), AH P ops Q S z n l a w → wpAnyIn (FR none) 0 P .any ops Q n l a w
  | 0, _, _, _, h => h
  | n + 1, _, _, _, h => ⟨h.1, fun i hi => wpOpIn_mono (fun a' w' h' => AH.any n _ a' w' h'.2) (h.2 i hi)⟩

theorem AH.first {S₀ : World → Prop} {i : Nat} {oi : Oper} {v : Value} (hi : ops[i]? = some oi) (hsel : ∀ (j : Nat) (o : Oper) cs b, ops[j]? = some o → o.op ≠ .select cs b)
    (hQ : ∀ c a w, Q (.panic c) (a.put oi.dst v) w → Q (.panic c) a w) (hz : i ≠ z)
    (hS₀ : ∀ l w, Shut ops l → l.getD i true = false → (l.getD z false = false → S w) → S₀ w) :
    ∀ (n : Nat) (l : Array Bool) (a : Act) (w : World),
      (∀ j oj, ops[j]? = some oj → j ≠ i → l.getD j true = false → (∀ e ∈ oj.after, Region.binds .any e = true → e.on ≠ i) → oi.apart ops oj = true) →
      Shut ops l → i ∈ Region.ready .any ops l → YieldsIf P ops S₀ oi v a → (l.getD z false = false → S w) → AH P ops Q S z n (l.setIfInBounds i true) (a.put oi.dst v) w → AH P ops Q S z (n + 1) l a w := by
  intro n
  induction n with
  | zero =>
    intro l a w _ hsh hr hy hS H
    have hpend : l.getD i true = false := (mem_ready.1 hr).1
    refine ⟨fun h => (by rw [h] at hr; cases hr), fun j hj => ?_⟩
    by_cases hji : j = i
    · subst hji; exact YieldsIf.wpOpIn hi hy (hS₀ l w hsh hpend hS) ⟨fun h => hS (by rwa [getD_set_ne false hz] at h), H⟩
    · have hm := ready_mono hj hji
      rw [H.1] at hm; cases hm
  | succ n ih =>
    intro l a w hfree hsh hr hy hS H
    have hpend : l.getD i true = false := (mem_ready.1 hr).1
    refine ⟨fun h => (by rw [h] at hr; cases hr), fun j hj => ?_⟩
    by_cases hji : j = i
    · subst hji; exact YieldsIf.wpOpIn hi hy (hS₀ l w hsh hpend hS) ⟨fun h => hS (by rwa [getD_set_ne false hz] at h), H⟩
    · have h1 := H.2 j (ready_mono hj hji)
      obtain ⟨hjun, oj, hoj, hall⟩ := mem_ready.1 hj
      have hnot : ∀ e ∈ oj.after, Region.binds .any e = true → e.on ≠ i := fun e he hb heq => by
        have h2 := hall e he hb
        rw [heq, getD_both hpend] at h2; cases h2
      have h2 := wpOpIn_putIf hoj (hfree j oj hoj hji hjun hnot) (fun cs b => hsel i oi cs b hi) (fun cs b => hsel j oj cs b hoj) hQ hy h1
      refine wpOpIn_mono (fun a' w' h3 => ?_) h2
      obtain ⟨hy', hS', hA'⟩ := h3
      have hS'' : (l.setIfInBounds j true).getD z false = false → S w' := fun h => hS' (by rw [Array.setIfInBounds_comm _ _ (Ne.symm hji), getD_set_ne false hz]; exact h)
      refine ⟨hS'', ih (l.setIfInBounds j true) a' w' (fun k ok hk hki hun hno => hfree k ok hk hki ?_ hno) (hsh.set hj) (ready_mono hr (Ne.symm hji)) hy' hS'' ?_⟩
      · by_cases hjk : j = k
        · subst hjk; exact hjun
        · rw [getD_set_ne true hjk] at hun; exact hun
      · rw [Array.setIfInBounds_comm _ _ hji]; exact hA'

variable {N : Nat} {D : List Deferred} {E : Env} {w w' : World} {H : Nat → Array Bool → Env → World → Prop} {n : Nat} {l : Array Bool} {i : Nat} {o : Oper} {v : Value}

def HW (P : Program) (N : Nat) (D : List Deferred) (ops : Array Oper) (Q : Exit → Act → World → Prop) (S : World → Prop) (z : Nat) (n : Nat) (l : Array Bool) (E : Env) (w : World) : Prop :=
  ∀ a, Sat N D E a → Shut ops l → AH P ops (NP Q) S z n l a w

theorem CW.drawn {id : Nat} (S : World → Prop) (z : Nat) (hm : P.follows .mixedOrders = true) (h : ∀ H, H = HW P N D ops Q S z → H ops.size (Array.replicate ops.size false) E w.drew) :
    CW none P N D (.region id ops true) Q E w := fun a ha =>
  wpIn_mono (wpIn_region_any hm (AH.any _ _ _ _ (h _ rfl a ha Shut.none))) fun e a w hq => by
    cases e with
    | normal => exact hq
    | _ => exact hq.elim

theorem HW.first {S₀ : World → Prop} (hH : H = HW P N D ops Q S z) (ho : ops[i]? = some o) (hc : chk ops z l i = true) (hd : okd N o.dst = true) (hS : l.getD z false = false → S w)
    (hS₀ : ∀ l w, Shut ops l → l.getD i true = false → (l.getD z false = false → S w) → S₀ w)
    (hy : ∀ a, Sat N D E a → YieldsIf P ops S₀ o v a) (k : H n (l.setIfInBounds i true) (putE o.dst v E) w) : H (n + 1) l E w := by
  subst hH
  intro a ha hsh
  simp only [chk, Bool.and_eq_true] at hc
  have hr : i ∈ Region.ready .any ops l := by simpa using hc.2.2.1
  have hz : i ≠ z := fun e => by have := hc.2.2.2; subst e; simp at this
  exact AH.first ho (Region.noSelect_spec hc.1) (fun _ _ _ h => h) hz hS₀ n l a w (Region.free_spec ho hc.2.1) hsh hr (hy a ha) hS (k _ (ha.put hd) (hsh.set hr))
/-- What reads memory is taken first. -/
theorem HW.take (hH : H = HW P N D ops Q S z) (ho : ops[i]? = some o) (hc : chk ops z l i = true) (hcr : chkR ops z i = true) (hw : Wants N ops E o) (hd : okd N o.dst = true) (hS : l.getD z false = false → S w)
    (hv : ∀ a, Sat N D E a → ∀ w, S w → (execOp a.eval o).run P w = .ok (.value v) w) (k : H n (l.setIfInBounds i true) (putE o.dst v E) w) : H (n + 1) l E w :=
  HW.first hH ho hc hd hS (chkR_spec hcr) (fun a ha => .inl ⟨hw _ _ ha, hv a ha⟩) k
/-- What looks at no memory is taken first. -/
theorem HW.pure (hH : H = HW P N D ops Q S z) (ho : ops[i]? = some o) (hc : chk ops z l i = true) (hw : Wants N ops E o) (hd : okd N o.dst = true) (hS : l.getD z false = false → S w)
    (hv : ∀ a, Sat N D E a → ∀ w, True → (execOp a.eval o).run P w = .ok (.value v) w) (k : H n (l.setIfInBounds i true) (putE o.dst v E) w) : H (n + 1) l E w :=
  HW.first (S₀ := fun _ => True) hH ho hc hd hS (fun _ _ _ _ _ => trivial) (fun a ha => .inl ⟨hw _ _ ha, hv a ha⟩) k
theorem HW.skip (hH : H = HW P N D ops Q S z) (ho : ops[i]? = some o) (hc : chk ops z l i = true) (hs : Skips N ops E o) (hd : okd N o.dst = true) (hS : l.getD z false = false → S w)
    (k : H n (l.setIfInBounds i true) (putE o.dst undef E) w) : H (n + 1) l E w :=
  HW.first (S₀ := fun _ => True) hH ho hc hd hS (fun _ _ _ _ _ => trivial) (fun a ha => .inr ⟨hs _ _ ha, rfl⟩) k
theorem HW.one (hH : H = HW P N D ops Q S z) (hr : Region.ready .any ops l = [i]) (ho : ops[i]? = some o) (hw : Wants N ops E o)
    (h : ∀ a, Sat N D E a → Shut ops l → o.wpIn (FR none) 0 P a w (fun a' w' => ((l.setIfInBounds i true).getD z false = false → S w') ∧ AH P ops (NP Q) S z n (l.setIfInBounds i true) a' w') (NP Q)) : H (n + 1) l E w := by
  subst hH
  intro a ha hsh
  refine ⟨fun h0 => (by rw [hr] at h0; cases h0), fun j hj => ?_⟩
  rw [hr] at hj
  have hji : j = i := by simpa using hj
  subst hji
  unfold wpOpIn
  simp only [ho, hw _ _ ha, if_true]
  exact h a ha hsh
theorem HW.val (hH : H = HW P N D ops Q S z) (hr : Region.ready .any ops l = [i]) (ho : ops[i]? = some o) (hw : Wants N ops E o) (hd : okd N o.dst = true)
    (hv : ∀ a, Sat N D E a → (execOp a.eval o).run P w = .ok (.value v) w') (hS : (l.setIfInBounds i true).getD z false = false → S w') (k : H n (l.setIfInBounds i true) (putE o.dst v E) w') (hn : isDefer o = false := by rfl) : H (n + 1) l E w :=
  HW.one hH hr ho hw fun a ha hsh => by
    refine ⟨fun _ _ => trivial, ?_⟩
    rw [semAt_of hn, hv a ha, Oper.uponIn_value]
    rw [hH] at k; exact ⟨hS, k _ (ha.put hd) (hsh.set (by rw [hr]; simp))⟩
theorem HW.callY {x : Operand} {args : Array Operand} {ts : Array TypeId} {d : Option Nat} {T : TypeId} {p : String} {af : Array Edge} {gd : Option (Nat × Bool)} {fv : Value} {vs : List Value} {R : Ending → World → Prop}
    (hH : H = HW P N D ops Q S z) (hr : Region.ready .any ops l = [i]) (ho : ops[i]? = some ⟨d, .call ⟨.value x, args, ts⟩, T, p, af, gd⟩) (hw : Wants N ops E ⟨d, .call ⟨.value x, args, ts⟩, T, p, af, gd⟩) (hd : okd N d = true)
    (hx : opd E x = some fv) (ha' : opdL E args.toList = some vs) (hc : CallsY P fv vs.toArray w R)
    (k : ∀ e w'', R e w'' → ∃ v, e = .returned v ∧ ((l.setIfInBounds i true).getD z false = false → S w'') ∧ H n (l.setIfInBounds i true) (putE d v E) w'') : H (n + 1) l E w := by
  rcases hc with ⟨f, cap, fn, rfl, h2, h3, h4, h5⟩ | ⟨lb, rfl, fn, tmps, as', bd, h2, h3⟩
  · refine HW.one hH hr ho hw fun a ha hsh => ⟨fun _ _ => trivial, ?_⟩
    rw [semAt_of rfl, Cl.fv hx ha' h2 h3 h4 a ha, Oper.uponIn_enter]
    refine ⟨fun h => (by cases h), FR.callsIn (h5.mono fun e w'' hR => ?_)⟩
    obtain ⟨v, rfl, hS, hk⟩ := k e w'' hR
    rw [hH] at hk; exact ⟨hS, hk _ (ha.put hd) (hsh.set (by rw [hr]; simp))⟩
  · refine HW.one hH hr ho hw fun a ha hsh => ⟨fun _ _ => trivial, ?_⟩
    have e1 : (execOp a.eval ⟨d, .call ⟨.value x, args, ts⟩, T, p, af, gd⟩).run P w = .ok (.round lb fn tmps as' bd) w := by
      have e2 : args.map a.eval = vs.toArray := opdL_map ha ha'
      simp [execOp, resolve, ha.eval hx, Deferred.ofValue, invoke, e2, h2]
    rw [semAt_of rfl, e1, Oper.uponIn_round]
    refine ⟨fun h => (by cases h), h3.mono fun e w'' hR => ?_⟩
    obtain ⟨v, rfl, hS, hk⟩ := k e w'' hR
    rw [hH] at hk; exact ⟨hS, hk _ (ha.put hd) (hsh.set (by rw [hr]; simp))⟩
theorem HW.done (hH : H = HW P N D ops Q S z) (hr : Region.ready .any ops l = []) (k : NW N D Q E w) : H n l E w := by
  subst hH
  intro a ha _
  cases n with
  | zero => exact ⟨hr, k a ha⟩
  | succ n => exact ⟨fun _ => k a ha, by rw [hr]; simp⟩
theorem HW.sub (hH : H = HW P N D ops Q S z) {F : Env} (s : Sub E F) (k : H n l E w) : H n l F w := by
  subst hH; exact fun a ha => k a (ha.sub s)
end
end Go.XR
end

/- XGfall -/
section
set_option linter.unusedVariables false
set_option linter.unusedSimpArgs false
namespace Go.Proofs.Ytkfncibmfcdokaa
open Go Go.X

/- (*pomander/flow.Flow).All$1 -/
def W_flow_Flow_All_1 (yield1 : Value) (cap1 : Addr) (w : World) (R : World → Prop) : Prop :=
  ∃ (t1 : Option Nat), w.cell? cap1 = some (.map t1) ∧ (Calls Try.prog 102 #[.map t1] w fun e w1 => ∃ (r1 : Value), e = .returned (r1) ∧ (Calls Try.prog 101 #[r1, .func (.func 103) #[] #[]] w1 fun e w2 => ∃ (r2 : Option Addr) (r2n : Nat) (r2c : Nat), e = .returned (.slice r2 r2n r2c) ∧ (∃ (I1 : Int → World → Prop) (m1 : Int → World → Nat), I1 0 w2 ∧ ∀ (x1 : Int) (w3 : World), I1 x1 w3 → ((decide (x1 < (r2n : Int))) = true → ∃ a1 : Addr, r2 = some a1 ∧ (0 : Int) ≤ x1 ∧ x1 < (r2n : Int) ∧ (∃ (t2 : Int) (t3 : Int), CellsAt w3 (a1.add (Int.toNat x1 * 2)) 0 [.int .i64 t2, .int .i64 t3] ∧ (∀ (b1 : Nat) (w6 : World), (w3.heap.size ≤ b1 ∧ b1 < w6.heap.size) → Chg [] w3 w6 → (∃ (t4 : Option Nat), w6.cell? cap1 = some (.map t4) ∧ (∃ (v1 : Int), (Instr.lookup 143 (.map t4) (.agg #[.int .i64 t2, .int .i64 t3]) false).run Try.prog w6 = .ok (.int .u32 v1) w6 ∧ (XR.CallsY Try.prog yield1 #[.agg #[.int .i64 t2, .int .i64 t3], .int .u32 v1] w6 fun e w7 => ∃ (r3 : Bool), e = .returned (.bool r3) ∧ (((!r3) = true → R w7) ∧ ((!r3) = false → (I1 (IntKind.wrap .i64 (x1 + 1)) w7 ∧ m1 (IntKind.wrap .i64 (x1 + 1)) w7 < m1 x1 w3))))))))) ∧ ((decide (x1 < (r2n : Int))) = false → R w3))))
set_option maxRecDepth 100000 in
theorem go_flow_Flow_All_1 (yield1 : Value) (cap1 : Addr) (w : World) (R : World → Prop) (h : W_flow_Flow_All_1 yield1 cap1 w R) : Calls Try.prog 100 #[yield1, .pointer (some cap1)] w (fun e w' => e = .returned (.tuple #[]) ∧ R w') := by
  unfold W_flow_Flow_All_1 at h
  refine enter (N := 21) Try.func100 rfl rfl ?_
  refine CW.seq ?_
  refine CW.region fun L hL => ?_
  obtain ⟨t1, hc1, h⟩ := h
  refine LW.rd hL rfl (Wants.free rfl) rfl (Rd.ld (v := .map t1) rfl (by kernel_rfl) (eqs hc1)) ?_
  refine LW.call hL rfl (Wants.free rfl) rfl (Cl.fn (f := 102) rfl Try.func102 (by kernel_rfl) rfl) h (fun e w1 h_ => ?_)
  clear h
  obtain ⟨r1, rfl, h⟩ := h_
  refine ⟨_, rfl, ?_⟩
  refine LW.call hL rfl (Wants.free rfl) rfl (Cl.fn (f := 101) rfl Try.func101 (by kernel_rfl) rfl) h (fun e w2 h_ => ?_)
  clear h
  obtain ⟨r2, r2n, r2c, rfl, h⟩ := h_
  refine ⟨_, rfl, ?_⟩
  refine LW.rd hL rfl (Wants.free rfl) rfl (Rd.builtin (v := .int .i64 (r2n : Int)) rfl (fun _ _ => by kernel_rfl)) ?_
  refine LW.rd hL rfl (Wants.free rfl) rfl (Rd.move (v := .int .i64 0) rfl) ?_
  refine LW.nil hL rfl ?_
  refine NW.then ?_
  refine CW.block ?_
  obtain ⟨I1, m1, hI1, h⟩ := h
  refine CW.loop (S := Int) (fun x1 => [(0, yield1), (1, .pointer (some cap1)), (7, .slice r2 r2n r2c), (8, .int .i64 (r2n : Int)), (9, .int .i64 x1)]) (fun x1 w3 => I1 x1 w3) (fun x1 w3 => m1 x1 w3) 0 (by exact ⟨rfl, rfl, rfl, rfl, rfl, trivial⟩) hI1 (fun x1 w3 hI1 => ?_)
  replace h := h x1 w3 hI1
  refine CW.seq ?_
  refine CW.region fun L hL => ?_
  refine LW.rd hL rfl (Wants.free rfl) rfl (Rd.bin (v := .bool (decide (x1 < (r2n : Int)))) rfl rfl (fun w => by kernel_rfl)) ?_
  refine LW.nil hL rfl ?_
  refine NW.then ?_
  refine CW.seq ?_
  refine CW.cond rfl (fun hb1 => ?_) (fun hb1 => ?_)
  · replace h := h.1 hb1
    refine CW.skip ?_
    refine NW.then ?_
    refine CW.seq ?_
    refine CW.block ?_
    refine CW.seq ?_
    refine CW.region fun L hL => ?_
    obtain ⟨a1, he1, hi1, hi2, h⟩ := h
    refine LW.rd hL rfl (Wants.free rfl) rfl (Rd.iaS (q := a1) (sz := 2) (by rw [← he1]; rfl) rfl Try.underlying47 (by kernel_rfl) hi1 hi2) ?_
    obtain ⟨t2, t3, hc2, h⟩ := h
    refine LW.rd hL rfl (Wants.free rfl) rfl (Rd.ldN (cs := [.int .i64 t2, .int .i64 t3]) rfl (by kernel_rfl) (by kernel_rfl) (cellsS hc2)) ?_
    obtain ⟨b1, hb_b1⟩ : ∃ b1, b1 = World.size w3 := ⟨_, rfl⟩
    obtain ⟨w4, hw_w4⟩ : ∃ w4, w4 = World.alloc w3 (.cells #[.int .i64 0, .int .i64 0] 56) := ⟨_, rfl⟩
    refine LW.val hL rfl (Wants.free rfl) rfl (boxE hb_b1 hw_w4 (Vl.alloc (z := .agg #[.int .i64 0, .int .i64 0]) (by kernel_rfl))) ?_
    have hB := Boxes.alloc (cs := [.int .i64 0, .int .i64 0]) (T := 56) (Boxes.nil w3) hb_b1 hw_w4
    have hlo_b1 := sil_lo (Chg.refl [] w3) hb_b1
    have hc_w4 := sil_alloc (Chg.refl [] w3) hw_w4
    obtain ⟨w5, hw_w5⟩ : ∃ x, x = setCells w4 (⟨b1, 0, none⟩ : Addr) 0 [.int .i64 t2, .int .i64 t3] := ⟨_, rfl⟩
    refine LW.eff hL rfl (Wants.free rfl) rfl (stNE hw_w5 (Ef.stN (cs := [.int .i64 t2, .int .i64 t3]) rfl rfl (by kernel_rfl) (List.forall_mem_cons.2 ⟨rfl, (List.forall_mem_cons.2 ⟨rfl, (List.forall_mem_nil _)⟩)⟩) (has_of (hB.at (i := 0) rfl) (by simp)) (free_of' (hB.at (i := 0) rfl)))) ?_
    replace hB : Boxes w5 [(b1, [.int .i64 t2, .int .i64 t3], 56)] := Boxes.store (vs := [.int .i64 t2, .int .i64 t3]) (i := 0) (o := 0) hB rfl rfl rfl rfl hw_w5
    have hc_w5 := sil_new hc_w4 (sil_cN hw_w5) hlo_b1
    refine LW.nil hL rfl ?_
    refine NW.then ?_
    refine CW.seq ?_
    refine XR.CW.un ?_
    obtain ⟨w6, hw_w6⟩ : ∃ x, x = World.drew w5 := ⟨_, rfl⟩
    have hc_w6 := sil_drew hc_w5 hw_w6
    replace hB := hB.drew hw_w6
    refine XR.CW.drawn (fun w => w = w6) 5 (by kernel_rfl) fun H hH => ?_
    rw [← hw_w6]
    refine XR.HW.pure (i := 0) hH rfl (by kernel_rfl) (Wants.free rfl) rfl (fun _ => rfl) (Rd.move (v := yield1) rfl) ?_
    refine XR.HW.take (i := 1) hH rfl (by kernel_rfl) (by kernel_rfl) (Wants.free rfl) rfl (fun _ => rfl) (Rd.ldN (cs := [.int .i64 t2, .int .i64 t3]) rfl (by kernel_rfl) (by kernel_rfl) (cellsS (box_cells (hB.at (i := 0) rfl) rfl))) ?_
    replace h := h b1 w6 ⟨hlo_b1, lt_of_heap (hB.at (i := 0) rfl)⟩ hc_w6
    obtain ⟨t4, hc3, h⟩ := h
    refine XR.HW.take (i := 2) hH rfl (by kernel_rfl) (by kernel_rfl) (Wants.free rfl) rfl (fun _ => rfl) (Rd.ld (v := .map t4) rfl (by kernel_rfl) (eqs hc3)) ?_
    refine XR.HW.take (i := 3) hH rfl (by kernel_rfl) (by kernel_rfl) (Wants.free rfl) rfl (fun _ => rfl) (Rd.ldN (cs := [.int .i64 t2, .int .i64 t3]) rfl (by kernel_rfl) (by kernel_rfl) (cellsS (box_cells (hB.at (i := 0) rfl) rfl))) ?_
    obtain ⟨v1, hl1, h⟩ := h
    refine XR.HW.take (i := 4) hH rfl (by kernel_rfl) (by kernel_rfl) (Wants.free rfl) rfl (fun _ => rfl) (Rd.lookup (v := .int .u32 v1) rfl rfl (fun _ e => e ▸ hl1)) ?_
    refine XR.HW.callY (i := 5) hH (by kernel_rfl) rfl (Wants.free rfl) rfl rfl rfl h (fun e w7 h_ => ?_)
    clear h
    obtain ⟨r3, rfl, h⟩ := h_
    refine ⟨_, rfl, (fun hc => by cases hc), ?_⟩
    refine XR.HW.pure (i := 6) hH rfl (by kernel_rfl) (Wants.free rfl) rfl (fun hc => by cases hc) (Rd.un (v := .bool (!r3)) rfl (fun _ => by kernel_rfl)) ?_
    refine XR.HW.done hH (by kernel_rfl) ?_
    refine NW.then ?_
    refine CW.cond rfl (fun hb2 => ?_) (fun hb2 => ?_)
    · replace h := h.1 hb2
      refine CW.ret ?_
      refine RW.block ?_
      refine RW.then ?_
      refine RW.then ?_
      refine RW.block ?_
      exact res0 rfl ⟨rfl, h⟩
    · replace h := h.2 hb2
      refine CW.skip ?_
      refine NW.block ?_
      refine NW.then ?_
      refine CW.region fun L hL => ?_
      refine LW.rd hL rfl (Wants.free rfl) rfl (Rd.bin (v := .int .i64 (IntKind.wrap .i64 (x1 + 1))) rfl rfl (fun w => by kernel_rfl)) ?_
      refine LW.rd hL rfl (Wants.free rfl) rfl (Rd.move (v := .int .i64 (IntKind.wrap .i64 (x1 + 1))) rfl) ?_
      refine LW.nil hL rfl ?_
      exact NW.loop (S := Int) (Ek := fun x1 => [(0, yield1), (1, .pointer (some cap1)), (7, .slice r2 r2n r2c), (8, .int .i64 (r2n : Int)), (9, .int .i64 x1)]) (IntKind.wrap .i64 (x1 + 1)) (by exact ⟨rfl, rfl, rfl, rfl, rfl, trivial⟩) h
  · replace h := h.2 hb1
    refine CW.exit ?_
    refine XW.then ?_
    refine XW.then ?_
    refine XW.hit ?_
    exact res0n rfl (by exact ⟨rfl, h⟩)

end Go.Proofs.Ytkfncibmfcdokaa
end

/- XFAll -/
section
/- Flows: All. -/
set_option linter.unusedVariables false
set_option linter.unusedSimpArgs false
namespace Go.Proofs.Ytkfncibmfcdokaa
open Go Go.RowKit Go.X Go.XR

theorem places_len (N : Nat) : ∀ K : Nat, ((List.range K).flatMap fun k : Nat => (List.range N).map fun n : Nat => ((k : Int), (n : Int))).length = K * N
  | 0 => by simp
  | K + 1 => by
    rw [List.range_succ, List.flatMap_append, List.length_append, places_len N K]
    simp [Nat.add_mul]
theorem keys_len {F : Fl} (hf : F.fr ≤ 32) (hs : F.se ≤ 32) {l : List (Int × Int)} (hn : l.Nodup) (h : ∀ p ∈ l, mayP F.fr F.se p) : l.length ≤ 1000000000000 := by
  have := nodup_sub_length hn (b := (List.range 18).flatMap fun k : Nat => (List.range 2147483648).map fun n : Nat => ((k : Int), (n : Int))) fun p hp => by
    obtain ⟨a, b, c, d⟩ := h p hp
    have hb : boundP F.fr F.se p.1 ≤ 2147483648 := by
      unfold boundP
      repeat' split
      all_goals omega
    exact List.mem_flatMap.2 ⟨p.1.toNat, List.mem_range.2 (by omega), List.mem_map.2 ⟨p.2.toNat, List.mem_range.2 (by omega), Prod.ext (by simp only []; omega) (by simp only []; omega)⟩⟩
  rw [places_len] at this
  omega

/-- A place, told with its set. -/
def tell (F : Fl) (p : Int × Int) : Int × Int × Int := (p.1, p.2, F.g p)
def fullF (F : Fl) (ys : List (Int × Int)) : Prop := ys.Pairwise ltPl ∧ ∀ p, p ∈ ys ↔ F.g p ≠ 0 ∧ mayP F.fr F.se p
def allF (F : Fl) (xs : List (Int × Int × Int)) : Prop := ∃ ys, fullF F ys ∧ xs = ys.map (tell F)
def allFp (F : Fl) (pre : List (Int × Int × Int)) : Prop := ∃ ys suf, fullF F ys ∧ pre ++ suf = ys.map (tell F)

theorem isFn100 (cb : Nat) : IsFn Try.prog (.func (.func 100) #[] #[.pointer (some ⟨cb, 0, none⟩)]) := ⟨100, Try.f100, _, rfl, Try.func100, by kernel_rfl, by kernel_rfl⟩
theorem iterates_flow {w : World} {cb m : Nat} {F : Fl} {L : List ((Int × Int) × Int)} (hcb : w.heap[cb]? = some (.cells #[.map (some m)] 143 (0, 0))) (h : AllIs w m F L) (hf : F.fr ≤ 32) (hs : F.se ≤ 32) :
    Iterates Try.prog (.func (.func 100) #[] #[.pointer (some ⟨cb, 0, none⟩)]) (fun x : Int × Int × Int => #[.agg #[.int .i64 x.1, .int .i64 x.2.1], .int .u32 x.2.2]) (allF F) (allFp F) [cb, m] w := by
  intro W yv I Ix hW hI hIx h0 hround
  refine ⟨100, #[.pointer (some ⟨cb, 0, none⟩)], Try.f100, rfl, Try.func100, by kernel_rfl, by kernel_rfl, ?_⟩
  have hcW := hW.obj (by simp) hcb
  have hmW := h.map.chg hW (by simp)
  have hlm := hmW.lt
  have hlcb := lt_of_heap hcW
  refine (go_flow_Flow_All_1 yv ⟨cb, 0, none⟩ W (fun w' => ∃ Own, InO W Own w' ∧ ((∃ xs, allF F xs ∧ I Own xs w') ∨ ∃ pre, allFp F pre ∧ Ix Own pre w')) ?_).mono (fun e w' h => ⟨⟨_, h.1⟩, h.2⟩)
  unfold W_flow_Flow_All_1
  refine ⟨_, by rw [cell_of hcW]; rfl, ?_⟩
  refine (maps_pkeys W (some m)).mono ?_
  rintro _ w2 ⟨_, rfl, kb, rfl, ekb, hkb, c2⟩
  have s2 := c2.size
  have hkl := lt_of_heap hkb
  refine ⟨_, rfl, ?_⟩
  have hnd : (L.map Prod.fst).Nodup := by obtain ⟨_, _, _, _, hnd, _⟩ := h.map; exact hnd
  refine (sorted_places (isFn121 kb) (iterates_pkeys hkb (hmW.chg c2 (by simp))) (by simp; omega) (fun pre hp => ?_) (fun xs ⟨d, e, n, a, _⟩ => ⟨d, e, n, a⟩)).mono ?_
  · obtain ⟨d, rfl, n, a⟩ := hp
    exact keys_len hf hs n fun p hp => by obtain ⟨x, hx, rfl⟩ := List.mem_map.1 hp; exact h.may x (a x hx)
  rintro _ w3 ⟨p, n, c, rfl, xs, ys, hS, hperm, hsort, hn, hr, c3, hp⟩
  have s3 := c3.size
  obtain ⟨done, rfl, d1, d2, d3⟩ := hS
  have hmem : ∀ q, q ∈ ys ↔ F.g q ≠ 0 ∧ mayP F.fr F.se q := fun q => by
    rw [hperm.mem_iff]
    constructor
    · intro hq
      obtain ⟨x, hx, rfl⟩ := List.mem_map.1 hq
      refine ⟨fun e => ?_, h.may x (d2 x hx)⟩
      have := h.look x.1
      rw [if_pos e] at this
      exact lookK_none.1 this x (d2 x hx) rfl
    · rintro ⟨hq, _⟩
      have := h.look q
      rw [if_neg hq] at this
      exact List.mem_map.2 ⟨(q, F.g q), d3 _ (lookK_mem this), rfl⟩
  have hyn : ys.Nodup := hperm.nodup_iff.2 d1
  have hfull : fullF F ys := ⟨(hsort.and hyn).imp fun {a b} hab => by
    have h1 := hab.1
    have h2 := hab.2
    unfold ltPl at *
    rcases Decidable.em (a.1 = b.1) with e1 | e1
    · rcases Decidable.em (a.2 = b.2) with e2 | e2
      · exact absurd (Prod.ext e1 e2) h2
      · omega
    · omega, hmem⟩
  have hyl : ys.length ≤ 1000000000000 := keys_len hf hs hyn fun p hp => ((hmem p).1 hp).2
  refine ⟨p, n, c, rfl, ?_⟩
  have c03 : Chg [] W w3 := c2.trans0 c3
  have hO : ∀ {A : World}, w3.heap.size ≤ A.heap.size → InO W (rowB p) A := fun hA i hi => ⟨by have := hp i hi; omega, by have := hr.lt i hi; omega⟩
  have hI3 := hI [] [] (rowB p) W w3 h0 (by intro i hi; cases hi) c03 (hO (Nat.le_refl _)) (fun i hi => .inr (by have := hp i hi; omega))
  refine ⟨fun x1 w4 => ∃ j : Nat, x1 = j ∧ j ≤ n ∧ I (rowB p) ((ys.take j).map (tell F)) w4 ∧ Same w3 w4 ([cb, m] ++ rowB p) ∧ w3.heap.size ≤ w4.heap.size, fun x1 _ => n - x1.toNat,
    ⟨0, rfl, Nat.zero_le _, hI3, Same.refl _ _, Nat.le_refl _⟩, ?_⟩
  rintro x1 w4 ⟨j, rfl, hj, hI4, hs4, s4⟩
  refine ⟨fun hlt => ?_, fun hge => ?_⟩
  · have hlt' : j < n := by have := of_decide_eq_true hlt; omega
    have hjl : j < ys.length := by omega
    obtain ⟨k, hk⟩ : ∃ k, ys[j]? = some k := ⟨_, List.getElem?_eq_getElem hjl⟩
    have hkm := (hmem k).1 (List.mem_of_getElem? hk)
    obtain ⟨g0, g1⟩ := flat_get2 ys j k hk
    obtain ⟨a, rfl, hc0⟩ := RowAt.at hr g0
    obtain ⟨a', e, hc1⟩ := RowAt.at hr g1
    cases e
    have ha : ∃ g, a = ⟨g, 0, none⟩ := by
      rcases hr.2 with ⟨hv, _⟩ | ⟨g, _, _, hv, _⟩
      · cases hv
      · cases hv; exact ⟨g, rfl⟩
    obtain ⟨ga, rfl⟩ := ha
    have hsb : w4.heap[(⟨ga, 0, none⟩ : Addr).block]? = w3.heap[(⟨ga, 0, none⟩ : Addr).block]? := hs4 _ (by simp [rowB])
    have ej : Int.toNat (j : Int) * 2 = j * 2 := by omega
    rw [ej]
    refine ⟨_, rfl, by omega, by omega, k.1, k.2, ⟨?_, ?_, trivial⟩, ?_⟩
    · rw [add_at, add_at, Nat.add_zero]
      rw [add_at] at hc0
      exact same_cell hsb hc0
    · rw [add_at, add_at]
      rw [add_at] at hc1
      exact same_cell hsb (by rw [show 0 + j * 2 + (0 + 1) = 0 + (j * 2 + 1) by omega]; exact hc1)
    rintro b1 w6 ⟨q1, q2⟩ c6
    have s6 := c6.size
    have hlk : ∀ x ∈ [cb, m] ++ rowB (some ⟨ga, 0, none⟩), x < w4.heap.size := fun x hx => by
      rcases List.mem_append.1 hx with hx | hx
      · have h1 := c2.size; have h2 := c3.size
        simp at hx
        rcases hx with e | e <;> subst e <;> omega
      · have := hr.lt x hx; omega
    have hs6 : Same w3 w6 ([cb, m] ++ rowB (some ⟨ga, 0, none⟩)) := fun x hx => (c6.block x (hlk x hx) (by simp)).trans (hs4 x hx)
    have hcb6 := (hs6 cb (by simp)).trans (c03.obj (by simp) hcW)
    have hm6 : MapIs w6 m encP (fun n : Int => .int .u32 n) L := by
      obtain ⟨es, clk, m1, m2⟩ := hmW.chg c03 (by simp)
      exact ⟨es, clk, (hs6 m (by simp)).trans m1, m2⟩
    have hlook := hm6.lookup (P := Try.prog) (T := 143) u143 keyPlace (z := .int .u32 0) (fun _ => by kernel_rfl) k false
    rw [h.look, if_neg hkm.1] at hlook
    refine ⟨some m, by rw [cell_of hcb6]; rfl, F.g k, by rw [show (.agg #[.int .i64 k.1, .int .i64 k.2] : Value) = encP k from rfl, hlook]; rfl, ?_⟩
    have hI6 := hI ((ys.take j).map (tell F)) (rowB (some ⟨ga, 0, none⟩)) (rowB (some ⟨ga, 0, none⟩)) w4 w6 hI4 (hO s4) c6.nil (hO (by omega)) (fun i hi => .inl hi)
    have htake : ys.take (j + 1) = ys.take j ++ [k] := by rw [List.take_add_one, hk]; rfl
    have hpre : allFp F ((ys.take j).map (tell F) ++ [tell F k]) := ⟨ys, (ys.drop (j + 1)).map (tell F), hfull, by
      rw [show [tell F k] = [k].map (tell F) from rfl, ← List.map_append, ← htake, ← List.map_append, List.take_append_drop]⟩
    refine (hround (rowB (some ⟨ga, 0, none⟩)) _ (tell F k) w6 (hO (by omega)) hpre hI6).mono ?_
    have ew1 : IntKind.wrap .i64 ((j : Int) + 1) = ((j + 1 : Nat) : Int) := by rw [wr (by omega) (by omega)]; omega
    rintro e w7 ⟨s7, ⟨rfl, hI7, hs7⟩ | ⟨rfl, hx7⟩⟩
    · refine ⟨true, rfl, fun h => by simp at h, fun _ => ⟨⟨j + 1, ew1, by omega, ?_, fun x hx => (hs7 x hx).trans (hs6 x hx), by omega⟩, by rw [ew1]; simp only []; omega⟩⟩
      rw [htake, List.map_append]; exact hI7
    · exact ⟨false, rfl, fun _ => ⟨rowB (some ⟨ga, 0, none⟩), hO (by omega), .inr ⟨_, hpre, hx7⟩⟩, fun h => by simp at h⟩
  · have : j = n := by have := of_decide_eq_false hge; omega
    subst this
    rw [List.take_of_length_le (by omega)] at hI4
    exact ⟨rowB p, hO s4, .inl ⟨_, ⟨ys, hfull, rfl⟩, hI4⟩⟩

theorem flow_all {w : World} {b : Nat} {F : Fl} {fp : List Nat} (h : FlowAt w b F fp) :
    Calls Try.prog 62 #[.pointer (some ⟨b, 0, none⟩)] w fun e w' => ∃ r : Value, e = .returned r ∧ ∃ cb m L, r = .func (.func 100) #[] #[.pointer (some ⟨cb, 0, none⟩)] ∧ w'.heap[cb]? = some (.cells #[.map (some m)] 143 (0, 0)) ∧ AllIs w' m F L ∧ Chg [] w w' ∧ w.heap.size ≤ cb ∧ w.heap.size ≤ m := by
  refine go_flow_Flow_All _ _ _ ?_
  unfold W_flow_Flow_All
  refine v_alloc fun b1 w1 e1 hb1 c1 => ?_
  refine v_alloc fun b2 w2 e2 hb2 c2 => ?_
  have s1 := c1.size
  have s2 := c2.size
  have l2 := lt_of_heap hb2
  refine v_set0 hb2 (by simp) fun w3 hb3 c3 s3 => ?_
  have c03 : Chg [] w w3 := (c1.trans0 c2).trans c3 (fun i hi hlt => by simp at hi; omega)
  have h3 := h.chg c03 (by simp)
  refine ⟨fun w' => ∃ m L, w'.heap[b2]? = some (.cells #[.map (some m)] 143 (0, 0)) ∧ AllIs w' m F L ∧ Chg [] w w' ∧ w.heap.size ≤ m, ?_, ?_⟩
  · rintro w4 ⟨m, L, k1, k2, k3, k4⟩
    exact ⟨b2, m, L, rfl, k1, k2, k3, by omega, k4⟩
  refine (flow_none h3).mono ?_
  rintro _ w5 ⟨_, rfl, rfl, hw⟩
  subst w5
  refine ⟨_, rfl, fun _ => ?_, fun h => by simp at h⟩
  refine (flow_all_map h3).mono ?_
  rintro _ w6 ⟨_, rfl, m, L, rfl, hA, c6, hm⟩
  refine ⟨_, rfl, ?_⟩
  refine v_set0 (c6.obj (by simp) hb3) (by simp) fun w7 hb7 c7 s7 => ?_
  have hmne : m ≠ b2 := by have := c03.size; omega
  exact ⟨m, L, hb7, ⟨hA.map.chg c7 (by simp; omega), hA.look, hA.may⟩, (c03.trans0 c6).trans c7 (fun i hi hlt => by simp at hi; omega), by have := c03.size; omega⟩
end Go.Proofs.Ytkfncibmfcdokaa
end

/- XFlow3 -/
section
/- Flows: Mark, Get, together, right, Decides; places and touches that lie somewhere. -/
set_option linter.unusedVariables false
set_option linter.unusedSimpArgs false
namespace Go.Proofs.Ytkfncibmfcdokaa
open Go Go.RowKit Go.X

def fillP (g : Int × Int → Int) (p : Int × Int) (set : Int) : Nat → Int × Int → Int
  | 0 => g
  | n + 1 => putP (fillP g p set n) (p.1, p.2 + n) set
def markE (F : Fl) (p : Int × Int) (n set : Int) : Int :=
  if ¬ mayP F.fr F.se p ∨ 65536 ≤ set then 2 else if n < 0 ∨ 65536 < n ∨ (0 < n ∧ ¬ mayP F.fr F.se (p.1, p.2 + n - 1)) then 4 else keepE F.most F.sets set
def markF (F : Fl) (p : Int × Int) (n set : Int) : Fl := if markE F p n set = 0 then { F with sets := keepS F.most F.sets set, g := fillP F.g p set n.toNat } else F

theorem keepS_bad {most : Int} {sets : List Int} {set : Int} (h : keepE most sets set ≠ 0) : keepS most sets set = sets := by
  unfold keepE at h; unfold keepS
  split at h
  · rename_i h1; rw [if_pos (.inl h1)]
  split at h
  · simp at h
  split at h
  · rename_i h1; rw [if_pos (.inr (.inr h1))]
  · simp at h

theorem grow_trans {fp fp' fp'' : List Nat} {w w' w'' : World} (c : Chg fp w w') (f : ∀ i ∈ fp', i ∈ fp ∨ w.heap.size ≤ i) (c' : Chg fp' w' w'') (f' : ∀ i ∈ fp'', i ∈ fp' ∨ w'.heap.size ≤ i) :
    Chg fp w w'' ∧ ∀ i ∈ fp'', i ∈ fp ∨ w.heap.size ≤ i :=
  ⟨c.trans c' (fun i hi hlt => (f i hi).resolve_right (by omega)), fun i hi => by
    rcases f' i hi with h | h
    · exact f i h
    · exact .inr (Nat.le_trans c.size h)⟩

theorem flow_mark {w : World} {b : Nat} {F : Fl} {fp : List Nat} (h : FlowAt w b F fp) {p1 p2 n set : Int} (hp : i64s p2) (hs0 : 0 ≤ set) :
    Calls Try.prog 36 #[.pointer (some ⟨b, 0, none⟩), .agg #[.int .i64 p1, .int .i64 p2], .int .i64 n, .int .u32 set] w fun e w' => ∃ r : Int, e = .returned (.int .i64 r) ∧
      (r = markE F (p1, p2) n set ∧ ∃ fp', FlowAt w' b (markF F (p1, p2) n set) fp' ∧ Chg fp w w' ∧ ∀ i ∈ fp', i ∈ fp ∨ w.heap.size ≤ i) := by
  have hwide := h.wide
  refine ok_flow_Flow_Mark _ _ _ _ _ _ _ ?_
  unfold V_flow_Flow_Mark
  refine v_alloc fun b1 w1 e1 hb1 c1 => ?_
  refine (flow_none (h.chg c1 (by simp))).mono ?_
  rintro _ w2 ⟨_, rfl, rfl, hw⟩
  subst w2
  refine ⟨_, rfl, fun h => by simp at h, fun _ => ⟨p1, p2, cellsAt_of hb1, ?_⟩⟩
  refine (flow_may (h.chg c1 (by simp)) p1 p2).mono ?_
  rintro _ w3 ⟨_, rfl, rfl, c3⟩
  have c03 := c1.trans0 c3
  have hb3 := c3.obj (by simp) hb1
  refine ⟨_, rfl, fun hbad => ?_, fun hgood => ?_⟩
  · have hb : ¬ mayP F.fr F.se (p1, p2) ∨ 65536 ≤ set := by simpa using hbad
    have hE : markE F (p1, p2) n set = 2 := by unfold markE; rw [if_pos hb]
    exact ⟨hE.symm, fp, by unfold markF; rw [if_neg (by omega)]; exact h.chg c03 (by simp), c03.nil, fun i hi => .inl hi⟩
  have hg : mayP F.fr F.se (p1, p2) ∧ set < 65536 := by simpa using hgood
  have hm := hg.1
  unfold mayP boundP at hm
  simp only [] at hm
  have hp2 : 0 ≤ p2 ∧ p2 < 2147483648 := by
    refine ⟨hm.2.2.1, ?_⟩
    have := hm.2.2.2
    split at this
    · omega
    split at this
    · omega
    split at this
    · omega
    split at this
    · omega
    split at this
    · omega
    split at this <;> omega
  have hnot : ¬ (¬ mayP F.fr F.se (p1, p2) ∨ 65536 ≤ set) := by
    rintro (h | h)
    · exact h hg.1
    · omega
  refine ⟨fun b2 w4 => Chg [] w w4 ∧ w4.heap[b1]? = some (.cells #[.int .i64 p1, .int .i64 p2] 56 (0, 0)) ∧ b2 = decide (n < 0 ∨ 65536 < n ∨ (0 < n ∧ ¬ mayP F.fr F.se (p1, p2 + n - 1))), ?_, fun hn => ?_, fun hn => ?_⟩
  rotate_left
  · have hn' : 0 ≤ n ∧ n ≤ 65536 := by simpa using hn
    refine ⟨_, fun b3 w5 h => h, fun hpos => ?_, fun hpos => ?_⟩
    · have hpos' : 0 < n := by simpa using hpos
      refine ⟨p1, by rw [cell_of hb3]; rfl, p2, by rw [cell_of hb3]; rfl, ?_⟩
      rw [wr (n := p2 + n) (by omega) (by omega), wr (by omega) (by omega)]
      refine (flow_may (h.chg c03 (by simp)) p1 (p2 + n - 1)).mono ?_
      rintro _ w6 ⟨_, rfl, rfl, c6⟩
      refine ⟨_, rfl, c03.trans0 c6, c6.obj (by simp) hb3, ?_⟩
      rw [← decide_not]
      exact decide_eq_decide.2 ⟨fun h => .inr (.inr ⟨hpos', h⟩), fun h => by
        rcases h with h | h | h
        · omega
        · omega
        · exact h.2⟩
    · have hpos' : ¬ 0 < n := by simpa using hpos
      refine ⟨c03, hb3, ?_⟩
      symm; rw [decide_eq_false_iff_not]; omega
  · have hn' : n < 0 ∨ 65536 < n := by simpa using hn
    refine ⟨c03, hb3, ?_⟩
    symm; rw [decide_eq_true_eq]; omega
  rintro b2 w4 ⟨c04, hb4, rfl⟩
  refine ⟨fun hbad => ?_, fun hok => ?_⟩
  · rw [decide_eq_true_eq] at hbad
    have hE : markE F (p1, p2) n set = 4 := by unfold markE; rw [if_neg hnot, if_pos hbad]
    exact ⟨hE.symm, fp, by unfold markF; rw [if_neg (by omega)]; exact h.chg c04 (by simp), c04.nil, fun i hi => .inl hi⟩
  rw [decide_eq_false_iff_not] at hok
  have hE : markE F (p1, p2) n set = keepE F.most F.sets set := by unfold markE; rw [if_neg hnot, if_neg hok]
  refine (flow_keep (h.chg c04 (by simp)) hs0).mono ?_
  rintro _ w7 ⟨r5, rfl, rfl, fp', hF, c7, hf⟩
  obtain ⟨c07, hf07⟩ := grow_trans (fp := fp) (fp' := fp) c04.nil (fun i hi => .inl hi) c7 hf
  have hlt := h.lt
  have hb7 : w7.heap[b1]? = some (.cells #[.int .i64 p1, .int .i64 p2] 56 (0, 0)) := c7.obj (fun hm => by have := hlt _ hm; omega) hb4
  refine ⟨_, rfl, fun hbad => ?_, fun hz => ?_⟩
  · have hbad' : keepE F.most F.sets set ≠ 0 := by simpa using hbad
    refine ⟨hE.symm, fp', ?_, c07, hf07⟩
    unfold markF; rw [if_neg (by rw [hE]; exact hbad')]
    rw [keepS_bad hbad'] at hF; exact hF
  have hz' : keepE F.most F.sets set = 0 := by simpa using hz
  have hn0 : 0 ≤ n ∧ n ≤ 65536 := by omega
  refine ⟨fun s w' => ∃ i : Nat, s = (i : Int) ∧ (i : Int) ≤ n ∧ w'.heap[b1]? = some (.cells #[.int .i64 p1, .int .i64 p2] 56 (0, 0)) ∧ ∃ fp', FlowAt w' b { F with sets := keepS F.most F.sets set, g := fillP F.g (p1, p2) set i } fp' ∧ Chg fp w w' ∧ ∀ i ∈ fp', i ∈ fp ∨ w.heap.size ≤ i ∧ i ≠ b1,
    fun s _ => (n - s).toNat, ⟨0, rfl, by omega, hb7, fp', hF, c07, fun i hi => ?_⟩, ?_⟩
  · rcases hf i hi with h | h
    · exact .inl h
    · exact .inr ⟨Nat.le_trans c04.size h, fun e => by have := lt_of_heap hb4; omega⟩
  rintro _ w8 ⟨i, rfl, hi, hb8, fp8, hF8, c8, hf8⟩
  refine ⟨fun hlt8 => ?_, fun hge => ?_⟩
  · have hlt' : (i : Int) < n := by simpa using hlt8
    refine ⟨p1, by rw [cell_of hb8]; rfl, p2, by rw [cell_of hb8]; rfl, ?_⟩
    rw [wr (n := p2 + i) (by omega) (by omega)]
    have hmi : mayP F.fr F.se (p1, p2 + i) := by
      have h1 : mayP F.fr F.se (p1, p2 + n - 1) := Classical.byContradiction fun h => hok (.inr (.inr ⟨by omega, h⟩))
      unfold mayP at h1 hg ⊢
      simp only [] at h1 hg ⊢
      omega
    refine (flow_put hF8 hmi hs0 hg.2).mono ?_
    rintro _ w9 ⟨rfl, fp9, hF9, c9, hf9⟩
    rw [wr (by omega) (by omega)]
    refine ⟨rfl, ⟨i + 1, by omega, by omega, c9.obj (fun hm => ?_) hb8, fp9, hF9, ?_, ?_⟩, by simp only []; omega⟩
    · rcases hf8 _ hm with h | h
      · have := hlt _ h; omega
      · exact h.2 rfl
    · exact c8.trans c9 (fun j hj hl => (hf8 j hj).resolve_right (fun h => by omega))
    · intro j hj
      rcases hf9 j hj with h | h
      · exact hf8 j h
      · exact .inr ⟨Nat.le_trans c8.size h, fun e => by have := lt_of_heap hb8; omega⟩
  · have hge' : ¬ (i : Int) < n := by simpa using hge
    have : n.toNat = i := by omega
    refine ⟨by rw [hE, hz'], fp8, ?_, c8, fun j hj => (hf8 j hj).imp id And.left⟩
    unfold markF; rw [if_pos (by rw [hE]; exact hz'), this]; exact hF8

theorem flow_Get {w : World} {b : Nat} {F : Fl} {fp : List Nat} (h : FlowAt w b F fp) {p1 p2 : Int} (hp : i64s p2) :
    Calls Try.prog 28 #[.pointer (some ⟨b, 0, none⟩), .agg #[.int .i64 p1, .int .i64 p2]] w fun e w' => ∃ (r1 : Int) (r2 : Int), e = .returned (.tuple #[.int .u32 r1, .int .i64 r2]) ∧
      (Chg [] w w' ∧ if mayP F.fr F.se (p1, p2) then r1 = F.g (p1, p2) ∧ r2 = 0 else r1 = 0 ∧ r2 = 2) := by
  refine ok_flow_Flow_Get _ _ _ _ _ ?_
  unfold V_flow_Flow_Get
  refine v_alloc fun b1 w1 e1 hb1 c1 => ?_
  refine ⟨fun s w2 => Chg [] w w2 ∧ s.2 = 2 ∧ ¬ mayP F.fr F.se (p1, p2), ?_, ?_⟩
  · rintro ⟨s1, s2⟩ w2 ⟨c2, rfl, hn⟩
    exact ⟨c2, by rw [if_neg hn]; exact ⟨rfl, rfl⟩⟩
  refine (flow_none (h.chg c1 (by simp))).mono ?_
  rintro _ w3 ⟨_, rfl, rfl, hw⟩
  subst w3
  refine ⟨_, rfl, fun h => by simp at h, fun _ => ⟨p1, p2, cellsAt_of hb1, ?_⟩⟩
  refine (flow_may (h.chg c1 (by simp)) p1 p2).mono ?_
  rintro _ w4 ⟨_, rfl, rfl, c4⟩
  have c04 := c1.trans0 c4
  refine ⟨_, rfl, fun hb => ⟨c04, rfl, by simpa using hb⟩, fun hb => ⟨p1, p2, cellsAt_of (c4.obj (by simp) hb1), ?_⟩⟩
  have hm : mayP F.fr F.se (p1, p2) := by simpa using hb
  refine (flow_get (h.chg c04 (by simp)) hp).mono ?_
  rintro _ w5 ⟨_, rfl, rfl, c5⟩
  exact ⟨_, rfl, c04.trans0 c5, by rw [if_pos hm]; exact ⟨rfl, rfl⟩⟩

/-! ### Places and touches -/
def pairC (x : Int × Int) : List Value := [.int .i64 x.1, .int .i64 x.2]
structure PlacesAt (w : World) (S : Nat → Prop) (p : Option Addr) (n : Nat) (ps : List (Int × Int)) : Prop where
  length : ps.length = n
  each : ∀ j x, ps[j]? = some x → i64s x.1 ∧ i64s x.2 ∧ ∃ a, p = some a ∧ S a.block ∧ CellsAt w (a.add (j * 2)) 0 [.int .i64 x.1, .int .i64 x.2]
theorem PlacesAt.chg {w w' : World} {S : Nat → Prop} {p : Option Addr} {n : Nat} {ps : List (Int × Int)} {f : List Nat} (h : PlacesAt w S p n ps) (hc : Chg f w w') (hf : ∀ i ∈ f, ¬ S i) : PlacesAt w' S p n ps :=
  ⟨h.length, fun j x hx => let ⟨h1, h2, a, h3, h4, h5⟩ := h.each j x hx; ⟨h1, h2, a, h3, h4, hc.cells (by rw [add_block]; exact fun hm => hf _ hm h4) h5⟩⟩
abbrev Tch := (Int × Int) × List (Int × Int)
structure TouchesAt (w : World) (S : Nat → Prop) (p : Option Addr) (n : Nat) (ts : List Tch) : Prop where
  length : ts.length = n
  each : ∀ j t, ts[j]? = some t → i64s t.1.1 ∧ i64s t.1.2 ∧ ∃ a q qn qc, p = some a ∧ S a.block ∧ CellsAt w (a.add (j * 3)) 0 [.int .i64 t.1.1, .int .i64 t.1.2, .slice q qn qc] ∧ PlacesAt w S q qn t.2
theorem TouchesAt.chg {w w' : World} {S : Nat → Prop} {p : Option Addr} {n : Nat} {ts : List Tch} {f : List Nat} (h : TouchesAt w S p n ts) (hc : Chg f w w') (hf : ∀ i ∈ f, ¬ S i) : TouchesAt w' S p n ts :=
  ⟨h.length, fun j x hx => let ⟨h1, h2, a, q, qn, qc, h3, h4, h5, h6⟩ := h.each j x hx; ⟨h1, h2, a, q, qn, qc, h3, h4, hc.cells (by rw [add_block]; exact fun hm => hf _ hm h4) h5, h6.chg hc hf⟩⟩

theorem get_of {α : Type} {l : List α} {j : Nat} (h : j < l.length) : ∃ x, l[j]? = some x := ⟨l[j], List.getElem?_eq_getElem h⟩
theorem take_snoc {α : Type} {l : List α} {j : Nat} {x : α} (h : l[j]? = some x) : l.take (j + 1) = l.take j ++ [x] := by
  rw [List.take_add_one, h]; rfl

def joinP (g : Int × Int → Int) (ps : List (Int × Int)) : Int := ps.foldl (fun s p => bits .or .u32 s (g p)) 0
theorem joinP_snoc (g : Int × Int → Int) (ps : List (Int × Int)) (p : Int × Int) : joinP g (ps ++ [p]) = bits .or .u32 (joinP g ps) (g p) := by simp [joinP]

theorem flow_together {w : World} {b : Nat} {F : Fl} {fp : List Nat} (h : FlowAt w b F fp) {S : Nat → Prop} {p : Option Addr} {n c : Nat} {ps : List (Int × Int)} (hp : PlacesAt w S p n ps) (hn : n ≤ 9223372036854775807) :
    Calls Try.prog 82 #[.pointer (some ⟨b, 0, none⟩), .slice p n c] w fun e w' => ∃ r : Int, e = .returned (.int .u32 r) ∧ (r = joinP F.g ps ∧ Chg [] w w') := by
  refine ok_flow_Flow_together _ _ _ _ _ _ ?_
  unfold V_flow_Flow_together
  refine ⟨fun s w' => ∃ j : Nat, s.2 = (j : Int) ∧ j ≤ n ∧ s.1 = joinP F.g (ps.take j) ∧ Chg [] w w', fun s _ => (n - s.2).toNat, ⟨0, rfl, by omega, rfl, Chg.refl _ _⟩, ?_⟩
  rintro ⟨s1, s2⟩ w1 ⟨j, rfl, hj, rfl, c1⟩
  refine ⟨fun hlt => ?_, fun hge => ?_⟩
  · have hlt' : j < n := by simpa using hlt
    obtain ⟨x, hj'⟩ := get_of (l := ps) (j := j) (by rw [hp.length]; exact hlt')
    obtain ⟨k1, k2, a, rfl, ha, hc⟩ := (hp.chg c1 (by simp)).each j _ hj'
    refine ⟨a, rfl, by simp only []; omega, by simp only []; omega, _, _, by simpa using hc, ?_⟩
    refine v_box (by rfl) (by rfl) fun b1 w3 e3 h3 c3 => ?_
    refine ⟨_, _, cellsAt_of h3, ?_⟩
    have c13 := c1.trans0 c3
    refine (flow_get (h.chg c13 (by simp)) k2).mono ?_
    rintro _ w4 ⟨r2, rfl, rfl, c4⟩
    refine ⟨_, rfl, ?_⟩
    simp only []
    rw [wr (by omega) (by omega)]
    refine ⟨⟨j + 1, by omega, by omega, ?_, c13.trans0 c4⟩, by omega⟩
    rw [take_snoc hj', joinP_snoc]
  · have hge' : ¬ j < n := by simpa using hge
    refine ⟨?_, c1⟩
    rw [List.take_of_length_le (by rw [hp.length]; omega)]

def rightT (fr se : Int) (t : Tch) : Prop := (t.1 = (0, 0) ∨ mayP fr se t.1) ∧ ∀ p ∈ t.2, mayP fr se p
instance (fr se : Int) (t : Tch) : Decidable (rightT fr se t) := by unfold rightT; exact inferInstance
theorem flow_right {w : World} {b : Nat} {F : Fl} {fp : List Nat} (h : FlowAt w b F fp) {S : Nat → Prop} {p : Option Addr} {n c : Nat} {ts : List Tch} (hp : TouchesAt w S p n ts) (hn : n ≤ 9223372036854775807) (hin : ∀ t ∈ ts, t.2.length ≤ 9223372036854775807) :
    Calls Try.prog 81 #[.pointer (some ⟨b, 0, none⟩), .slice p n c] w fun e w' => ∃ r : Bool, e = .returned (.bool r) ∧ (r = decide (∀ t ∈ ts, rightT F.fr F.se t) ∧ Chg [] w w') := by
  refine ok_flow_Flow_right _ _ _ _ _ _ ?_
  unfold V_flow_Flow_right
  refine ⟨fun s w' => ∃ j : Nat, s.2 = (j : Int) ∧ j ≤ n ∧ (∀ t ∈ ts.take j, rightT F.fr F.se t) ∧ Chg [] w w', fun s _ => (n - s.2).toNat, ⟨0, rfl, by omega, by simp, Chg.refl _ _⟩, ?_⟩
  rintro ⟨s1, s2⟩ w1 ⟨j, rfl, hj, hall, c1⟩
  refine ⟨fun hlt => ?_, fun hge => ?_⟩
  · have hlt' : j < n := by simpa using hlt
    obtain ⟨t, hj'⟩ := get_of (l := ts) (j := j) (by rw [hp.length]; exact hlt')
    have hmem : t ∈ ts := List.mem_of_getElem? hj'
    obtain ⟨k1, k2, a, q, qn, qc, rfl, ha, hc, hps⟩ := (hp.chg c1 (by simp)).each j _ hj'
    refine ⟨a, rfl, by simp only []; omega, by simp only []; omega, t.1.1, t.1.2, q, qn, qc, by simpa using hc, ?_⟩
    refine v_box (by rfl) (by rfl) fun b1 w3 e3 h3 c3 => ?_
    have c03 := c1.trans0 c3
    refine ⟨t.1.1, t.1.2, ⟨by rw [add_at, cell_of h3]; rfl, by rw [add_at, cell_of h3]; rfl, trivial⟩, ?_⟩
    have hno : ¬ (∀ t ∈ ts, rightT F.fr F.se t) → decide (∀ t ∈ ts, rightT F.fr F.se t) = false := fun h => decide_eq_false h
    refine ⟨fun b2 w4 => b2 = decide (¬ (t.1 = (0, 0) ∨ mayP F.fr F.se t.1)) ∧ Chg [] w w4 ∧ Chg [] w3 w4, ?_, fun hne => ?_, fun he => ?_⟩
    rotate_left
    · have hne' : t.1 ≠ (0, 0) := by
        intro e; rw [e] at hne; simp at hne
      refine ⟨t.1.1, t.1.2, ⟨by rw [add_at, cell_of h3]; rfl, by rw [add_at, cell_of h3]; rfl, trivial⟩, ?_⟩
      refine (flow_may (h.chg c03 (by simp)) _ _).mono ?_
      rintro _ w5 ⟨_, rfl, rfl, c5⟩
      refine ⟨_, rfl, ?_, c03.trans0 c5, c5⟩
      rw [← decide_not]
      exact decide_eq_decide.2 ⟨fun h h' => h'.elim hne' h, fun h h' => h (.inr h')⟩
    · have he' : t.1 = (0, 0) := by
        have : t.1.1 = 0 ∧ t.1.2 = 0 := by simpa using he
        exact Prod.ext this.1 this.2
      exact ⟨by simp [he'], c03, Chg.refl _ _⟩
    rintro b2 w4 ⟨rfl, c04, c34⟩
    refine ⟨fun hb => ?_, fun hb => ?_⟩
    · rw [decide_eq_true_eq] at hb
      exact ⟨(decide_eq_false (fun h => hb (h t hmem).1)).symm, c04⟩
    rw [decide_eq_false_iff_not] at hb
    have hto : t.1 = (0, 0) ∨ mayP F.fr F.se t.1 := Classical.byContradiction hb
    refine ⟨q, qn, qc, by rw [cell_of (c34.obj (by simp) h3)]; rfl, ?_⟩
    have hps4 := (hps.chg c3 (by simp)).chg c34 (by simp)
    have hqn : qn ≤ 9223372036854775807 := by rw [← hps.length]; exact hin t hmem
    refine ⟨fun s w' => ∃ i : Nat, s.2 = (i : Int) ∧ i ≤ qn ∧ (∀ x ∈ t.2.take i, mayP F.fr F.se x) ∧ Chg [] w w' ∧ Chg [] w4 w', fun s _ => (qn - s.2).toNat, ⟨0, rfl, by omega, by simp, c04, Chg.refl _ _⟩, ?_⟩
    rintro ⟨u1, u2⟩ w6 ⟨i, rfl, hi, hsome, c06, c46⟩
    refine ⟨fun hlt2 => ?_, fun hge2 => ?_⟩
    · have hlt2' : i < qn := by simpa using hlt2
      obtain ⟨y, hi'⟩ := get_of (l := t.2) (j := i) (by rw [hps.length]; exact hlt2')
      have hmem2 : y ∈ t.2 := List.mem_of_getElem? hi'
      obtain ⟨k3, k4, a2, rfl, _, hc2⟩ := (hps4.chg c46 (by simp)).each i _ hi'
      refine ⟨a2, rfl, by simp only []; omega, by simp only []; omega, _, _, by simpa using hc2, ?_⟩
      refine v_box (by rfl) (by rfl) fun b3 w8 e8 h8 c8 => ?_
      refine ⟨_, _, cellsAt_of h8, ?_⟩
      have c08 := c06.trans0 c8
      refine (flow_may (h.chg c08 (by simp)) _ _).mono ?_
      rintro _ w9 ⟨_, rfl, rfl, c9⟩
      refine ⟨_, rfl, fun hb => ?_, fun hb => ?_⟩
      · have hb' : ¬ mayP F.fr F.se y := by simpa using hb
        exact ⟨(decide_eq_false (fun h => hb' ((h t hmem).2 _ hmem2))).symm, c08.trans0 c9⟩
      · have hb' : mayP F.fr F.se y := by simpa using hb
        simp only []
        rw [wr (by omega) (by omega)]
        refine ⟨⟨i + 1, by omega, by omega, ?_, c08.trans0 c9, (c46.trans0 c8).trans0 c9⟩, by omega⟩
        rw [take_snoc hi']
        intro x hx
        rcases List.mem_append.1 hx with hx | hx
        · exact hsome x hx
        · simp at hx; rw [hx]; exact hb'
    · have hge2' : ¬ i < qn := by simpa using hge2
      simp only []
      rw [wr (by omega) (by omega)]
      refine ⟨⟨j + 1, by omega, by omega, ?_, c06⟩, by omega⟩
      rw [take_snoc hj']
      intro x hx
      rcases List.mem_append.1 hx with hx | hx
      · exact hall x hx
      · simp at hx; rw [hx]
        rw [List.take_of_length_le (by rw [hps.length]; omega)] at hsome
        exact ⟨hto, hsome⟩
  · have hge' : ¬ j < n := by simpa using hge
    rw [List.take_of_length_le (by rw [hp.length]; omega)] at hall
    exact ⟨(decide_eq_true hall).symm, c1⟩

def decidesP (g : Int × Int → Int) (ts : List Tch) : Int := ts.foldl (fun s t => if t.1 = (0, 0) then bits .or .u32 s (joinP g t.2) else s) 0
theorem decidesP_snoc (g : Int × Int → Int) (ts : List Tch) (t : Tch) : decidesP g (ts ++ [t]) = if t.1 = (0, 0) then bits .or .u32 (decidesP g ts) (joinP g t.2) else decidesP g ts := by simp [decidesP]
theorem flow_decides {w : World} {b : Nat} {F : Fl} {fp : List Nat} (h : FlowAt w b F fp) {S : Nat → Prop} {p : Option Addr} {n c : Nat} {ts : List Tch} (hp : TouchesAt w S p n ts) (hn : n ≤ 9223372036854775807) (hin : ∀ t ∈ ts, t.2.length ≤ 9223372036854775807) :
    Calls Try.prog 65 #[.pointer (some ⟨b, 0, none⟩), .slice p n c] w fun e w' => ∃ (r1 : Int) (r2 : Int), e = .returned (.tuple #[.int .u32 r1, .int .i64 r2]) ∧
      (Chg [] w w' ∧ if ∀ t ∈ ts, rightT F.fr F.se t then r1 = decidesP F.g ts ∧ r2 = 0 else r1 = 0 ∧ r2 = 2) := by
  refine ok_flow_Flow_Decides _ _ _ _ _ _ ?_
  unfold V_flow_Flow_Decides
  refine (flow_none h).mono ?_
  rintro _ w1 ⟨_, rfl, rfl, hw⟩
  subst w1
  refine ⟨_, rfl, fun h => by simp at h, fun _ => ?_⟩
  refine (flow_right (c := c) h hp hn hin).mono ?_
  rintro _ w2 ⟨_, rfl, rfl, c2⟩
  refine ⟨_, rfl, fun hb => ?_, fun hb => ?_⟩
  · have hb' : ¬ ∀ t ∈ ts, rightT F.fr F.se t := by simpa using hb
    exact ⟨c2, by rw [if_neg hb']; exact ⟨rfl, rfl⟩⟩
  have hb' : ∀ t ∈ ts, rightT F.fr F.se t := by simpa using hb
  refine ⟨fun s w' => ∃ j : Nat, s.2 = (j : Int) ∧ j ≤ n ∧ s.1 = decidesP F.g (ts.take j) ∧ Chg [] w w', fun s _ => (n - s.2).toNat, ⟨0, rfl, by omega, rfl, c2⟩, ?_⟩
  rintro ⟨s1, s2⟩ w3 ⟨j, rfl, hj, rfl, c3⟩
  refine ⟨fun hlt => ?_, fun hge => ?_⟩
  · have hlt' : j < n := by simpa using hlt
    obtain ⟨t, hj'⟩ := get_of (l := ts) (j := j) (by rw [hp.length]; exact hlt')
    have hmem : t ∈ ts := List.mem_of_getElem? hj'
    obtain ⟨k1, k2, a, q, qn, qc, rfl, ha, hc, hps⟩ := (hp.chg c3 (by simp)).each j _ hj'
    refine ⟨fun s w' => s = decidesP F.g (ts.take (j + 1)) ∧ Chg [] w w', ?_, ?_⟩
    · rintro s w4 ⟨rfl, c4⟩
      simp only []
      rw [wr (by omega) (by omega)]
      exact ⟨⟨j + 1, by omega, by omega, rfl, c4⟩, by omega⟩
    refine ⟨a, rfl, by simp only []; omega, by simp only []; omega, t.1.1, t.1.2, q, qn, qc, by simpa using hc, ?_⟩
    refine v_box (by rfl) (by rfl) fun b1 w6 e6 h6 c6 => ?_
    have c06 := c3.trans0 c6
    refine ⟨t.1.1, t.1.2, ⟨by rw [add_at, cell_of h6]; rfl, by rw [add_at, cell_of h6]; rfl, trivial⟩, fun he => ?_, fun hne => ?_⟩
    · have he' : t.1 = (0, 0) := by
        have : t.1.1 = 0 ∧ t.1.2 = 0 := by simpa using he
        exact Prod.ext this.1 this.2
      refine ⟨q, qn, qc, by rw [cell_of h6]; rfl, ?_⟩
      refine (flow_together (c := qc) (h.chg c06 (by simp)) (hps.chg c6 (by simp)) (by rw [← hps.length]; exact hin t hmem)).mono ?_
      rintro _ w7 ⟨_, rfl, rfl, c7⟩
      refine ⟨_, rfl, ?_, c06.trans0 c7⟩
      rw [take_snoc hj', decidesP_snoc, if_pos he']
    · have hne' : t.1 ≠ (0, 0) := by
        intro e; rw [e] at hne; simp at hne
      refine ⟨?_, c06⟩
      rw [take_snoc hj', decidesP_snoc, if_neg hne']
  · have hge' : ¬ j < n := by simpa using hge
    refine ⟨c3, ?_⟩
    rw [if_pos hb', List.take_of_length_le (by rw [hp.length]; omega)]
    exact ⟨rfl, rfl⟩
end Go.Proofs.Ytkfncibmfcdokaa
end

/- XRef1 -/
section
/- The document's flows: New, May, Keep, Put, Mark. -/
set_option linter.unusedVariables false
set_option linter.unusedSimpArgs false
namespace Go.Proofs.Ytkfncibmfcdokaa
open Go Go.RowKit Go.X

/-! ### Rows of equal elements -/
theorem flat_get {α : Type} (enc : α → List Value) {size : Nat} (hs : ∀ x, (enc x).length = size) : ∀ (l : List α) (j : Nat) (x : α), l[j]? = some x → ∀ k, k < size → (l.flatMap enc)[j * size + k]? = (enc x)[k]?
  | [], _, _, h, _, _ => by simp at h
  | a :: l, 0, x, h, k, hk => by
    simp at h; subst h
    simp only [List.flatMap_cons, Nat.zero_mul, Nat.zero_add]
    rw [List.getElem?_append_left (by rw [hs]; exact hk)]
  | a :: l, j + 1, x, h, k, hk => by
    simp only [List.flatMap_cons]
    rw [List.getElem?_append_right (by rw [hs, Nat.add_mul]; omega), hs]
    have : (j + 1) * size + k - size = j * size + k := by rw [Nat.add_mul]; omega
    rw [this]
    exact flat_get enc hs l j x (by simpa using h) k hk
theorem cellsAt_iff {w : World} {q : Addr} : ∀ {i : Nat} {vs : List Value}, CellsAt w q i vs ↔ ∀ k v, vs[k]? = some v → w.cell? (q.add (i + k)) = some v
  | i, [] => by simp [CellsAt]
  | i, v :: vs => by
    simp only [CellsAt]
    rw [cellsAt_iff (i := i + 1) (vs := vs)]
    constructor
    · rintro ⟨h1, h2⟩ k u hk
      cases k with
      | zero => simp at hk; subst hk; simpa using h1
      | succ k => simp at hk; have := h2 k u hk; rw [show i + (k + 1) = i + 1 + k by omega]; exact this
    · intro h
      exact ⟨by simpa using h 0 v rfl, fun k u hk => by have := h (k + 1) u (by simpa using hk); rw [show i + 1 + k = i + (k + 1) by omega]; exact this⟩
theorem RowAt.elem {w : World} {e : TypeId} {size n c : Nat} {p : Option Addr} {α : Type} {enc : α → List Value} {l : List α} (hs : ∀ x, (enc x).length = size) (h : RowAt w e size p n c (l.flatMap enc)) {j : Nat} {x : α} (hj : l[j]? = some x) (h0 : 0 < size) :
    ∃ a, p = some a ∧ CellsAt w (a.add (j * size)) 0 (enc x) := by
  have hget := flat_get enc hs l j x hj
  have hex : ∃ a, p = some a := by
    have h1 := hget 0 h0
    obtain ⟨v, hv⟩ : ∃ v, (enc x)[0]? = some v := ⟨_, List.getElem?_eq_getElem (by rw [hs]; exact h0)⟩
    rw [hv] at h1
    obtain ⟨a, ha, _⟩ := RowAt.at h h1
    exact ⟨a, ha⟩
  obtain ⟨a, rfl⟩ := hex
  refine ⟨a, rfl, cellsAt_iff.2 fun k v hk => ?_⟩
  have hk' : k < size := by rw [← hs x]; exact (List.getElem?_eq_some_iff.1 hk).1
  have h1 := hget k hk'
  rw [hk] at h1
  obtain ⟨a', ha', hc⟩ := RowAt.at h h1
  cases ha'
  have hadd : (a.add (j * size)).add (0 + k) = a.add (j * size + k) := by
    unfold Addr.add; split <;> split <;> simp_all [Nat.add_assoc]
    all_goals omega
  rw [hadd]; exact hc
theorem flat_length {α : Type} {enc : α → List Value} {size : Nat} (hs : ∀ x, (enc x).length = size) (l : List α) : (l.flatMap enc).length = l.length * size := by
  induction l with
  | nil => simp
  | cons a l ih => simp only [List.flatMap_cons, List.length_append, hs, ih, List.length_cons]; rw [Nat.add_mul]; omega

abbrev Pr := (Int × Int) × Int
def encPr (x : Pr) : List Value := [.int .i64 x.1.1, .int .i64 x.1.2, .int .u32 x.2]
def encU (n : Int) : List Value := [.int .u32 n]
theorem encU_map (l : List Int) : l.map (Value.int .u32) = l.flatMap encU := by induction l with | nil => rfl | cons a l ih => simp [List.flatMap_cons, encU, ih]

structure Rf where
  fr : Int
  se : Int
  most : Int
  sets : List Int
  pairs : List Pr

/-- The document's flow as a value, of two rows. -/
structure RefAt (w : World) (R : Rf) (p4 : Option Addr) (n4 c4 : Nat) (p5 : Option Addr) (n5 c5 : Nat) : Prop where
  sets : RowAt w 22 1 p4 n4 c4 (R.sets.map (.int .u32))
  pairs : RowAt w 149 3 p5 n5 c5 (R.pairs.flatMap encPr)
theorem RefAt.chg {w w' : World} {R : Rf} {p4 p5 : Option Addr} {n4 c4 n5 c5 : Nat} {f : List Nat} (h : RefAt w R p4 n4 c4 p5 n5 c5) (hc : Chg f w w') (h4 : ∀ i ∈ rowB p4, i ∉ f) (h5 : ∀ i ∈ rowB p5, i ∉ f) : RefAt w' R p4 n4 c4 p5 n5 c5 :=
  ⟨h.sets.chg hc h4, h.pairs.chg hc h5⟩
theorem RefAt.n4 {w : World} {R : Rf} {p4 p5 : Option Addr} {n4 c4 n5 c5 : Nat} (h : RefAt w R p4 n4 c4 p5 n5 c5) : n4 = R.sets.length := by have := h.sets.length; simp at this; omega
theorem RefAt.n5 {w : World} {R : Rf} {p4 p5 : Option Addr} {n4 c4 n5 c5 : Nat} (h : RefAt w R p4 n4 c4 p5 n5 c5) : n5 = R.pairs.length := by
  have := h.pairs.length; rw [flat_length (size := 3) (fun _ => rfl)] at this; omega

theorem ref_may {w : World} (fr se f3 : Int) (p4 p5 : Option Addr) (n4 c4 n5 c5 : Nat) (p1 p2 : Int) (hw : i64s (64 * fr) ∧ i64s (64 * se)) :
    Calls Try.prog 29 #[.agg #[.int .i64 fr, .int .i64 se, .int .i64 f3, .slice p4 n4 c4, .slice p5 n5 c5], .agg #[.int .i64 p1, .int .i64 p2]] w fun e w' => ∃ r : Bool, e = .returned (.bool r) ∧ (r = decide (mayP fr se (p1, p2)) ∧ Chg [] w w') := by
  obtain ⟨⟨hw1, hw2⟩, hw3, hw4⟩ := hw
  refine ok_pomanderref12_Flow_May _ _ _ _ _ _ _ _ _ _ _ _ _ ?_
  unfold V_pomanderref12_Flow_May
  refine v_alloc fun b1 w1 e1 h1 c1 => ?_
  refine v_alloc fun b2 w2 e2 h2 c2 => ?_
  have h12 := c2.obj (by simp) h1
  have c02 := c1.trans0 c2
  refine ⟨p1, by rw [cell_of h2]; rfl, fun s w3 => w3 = w2 ∧ 1 ≤ p1 ∧ p1 ≤ 17 ∧ s.2 = boundP fr se p1, ?_, fun hb => ?_, fun hb => ?_⟩
  · rintro ⟨s1, s2⟩ w3 ⟨hw, k1, k2, rfl⟩
    subst w3
    refine ⟨p2, by rw [cell_of h2]; rfl, _, fun b w h => h, fun hb => ⟨p2, by rw [cell_of h2]; rfl, ?_, c02⟩, fun hb => ⟨?_, c02⟩⟩
    · have : 0 ≤ p2 := by simpa using hb
      exact decide_eq_decide.2 (by unfold mayP; simp only []; omega)
    · have : ¬ 0 ≤ p2 := by simpa using hb
      symm; rw [decide_eq_false_iff_not]; unfold mayP; simp only []; omega
  · have : p1 < 1 ∨ 17 < p1 := by simpa using hb
    refine ⟨?_, c02⟩
    symm; rw [decide_eq_false_iff_not]; unfold mayP; simp only []; omega
  have hk : 1 ≤ p1 ∧ p1 ≤ 17 := by simpa using hb
  have hbd : ∀ v, v = boundP fr se p1 → (w2 = w2 ∧ 1 ≤ p1 ∧ p1 ≤ 17 ∧ v = boundP fr se p1) := fun v hv => ⟨rfl, hk.1, hk.2, hv⟩
  refine ⟨fun e => hbd _ ?_, fun n1 => ⟨fun e => ?_, fun n10 => ⟨fun e => hbd _ ?_, fun n11 => ⟨fun e => ?_, fun n12 => ⟨fun e => hbd _ ?_, fun n13 => ⟨fun e => hbd _ ?_, fun n17 => hbd _ ?_⟩⟩⟩⟩⟩⟩
  · have : p1 = 1 := by simpa using e
    unfold boundP; rw [if_pos this]
  · have : p1 = 10 := by simpa using e
    refine ⟨fr, by rw [cell_of h12]; rfl, hbd _ ?_⟩
    simp only []
    rw [wr hw1 hw2]; unfold boundP; rw [if_neg (by omega), if_pos this]
  · have : p1 = 11 := by simpa using e
    unfold boundP; rw [if_neg (by omega), if_neg (by omega), if_pos this]
  · have : p1 = 12 := by simpa using e
    refine ⟨se, by rw [cell_of h12]; rfl, hbd _ ?_⟩
    simp only []
    rw [wr hw3 hw4]; unfold boundP; rw [if_neg (by omega), if_neg (by omega), if_neg (by omega), if_pos this]
  · have : 13 ≤ p1 ∧ p1 ≤ 16 := by simpa using e
    unfold boundP; rw [if_neg (by omega), if_neg (by omega), if_neg (by omega), if_neg (by omega), if_neg (by omega), if_pos (by omega)]
  · have : p1 = 17 := by simpa using e
    unfold boundP; rw [if_neg (by omega), if_neg (by omega), if_neg (by omega), if_neg (by omega), if_pos this]
  · simp at n1 n10 n11 n12 n13 n17
    unfold boundP; rw [if_neg n1, if_neg n10, if_neg n11, if_neg n12, if_neg n17, if_neg (by omega)]

theorem ref_has {w : World} {t1 : Int} {p4 : Option Addr} {n4 c4 : Nat} {sets : List Int} (h : RowAt w 22 1 p4 n4 c4 (sets.map (.int .u32))) (hn : n4 ≤ 1000000000) (set : Int) :
    Calls Try.prog 124 #[.agg #[.int .i64 t1, .slice p4 n4 c4], .int .u32 set] w fun e w' => ∃ r : Int, e = .returned (.int .i64 r) ∧ ((if set ∈ sets then 0 ≤ r ∧ r < n4 else r = -1) ∧ Chg [] w w') := by
  have hl : n4 = sets.length := by have := h.length; simp at this; omega
  refine ok_pomanderref02_Table_Has _ _ _ _ _ _ _ ?_
  unfold V_pomanderref02_Table_Has
  refine v_alloc fun b1 w1 e1 h1 c1 => ?_
  refine ⟨fun s w' => ∃ j : Nat, s.2 = (j : Int) ∧ j ≤ n4 ∧ (∀ x ∈ sets.take j, x ≠ set) ∧ w' = w1, fun s _ => (n4 - s.2).toNat, ⟨0, rfl, by omega, by intro x hx; simp at hx, rfl⟩, ?_⟩
  rintro ⟨s1, s2⟩ w2 ⟨j, rfl, hj, hno, hw⟩
  subst w2
  refine ⟨p4, n4, c4, by rw [cell_of h1]; rfl, fun hlt => ?_, fun hge => ?_⟩
  · have hlt' : j < n4 := by simpa using hlt
    obtain ⟨x, hx⟩ := get_of (l := sets) (j := j) (by omega)
    obtain ⟨a, rfl, hc⟩ := RowAt.at (h.chg c1 (by simp)) (j := j) (u := .int .u32 x) (by rw [List.getElem?_map, hx]; rfl)
    refine ⟨_, n4, c4, by rw [cell_of h1]; rfl, a, rfl, by simp only []; omega, by simp only []; omega, x, by simpa using hc, fun he => ?_, fun hne => ?_⟩
    · have he' : x = set := by simpa using he
      refine ⟨?_, c1⟩
      rw [if_pos (he' ▸ List.mem_of_getElem? hx)]
      simp only []; omega
    · have hne' : x ≠ set := by simpa using hne
      simp only []
      rw [wr (by omega) (by omega)]
      refine ⟨⟨j + 1, by omega, by omega, ?_, trivial⟩, by omega⟩
      rw [take_snoc hx]
      intro y hy
      rcases List.mem_append.1 hy with hy | hy
      · exact hno y hy
      · simp at hy; rw [hy]; exact hne'
  · have hge' : ¬ j < n4 := by simpa using hge
    rw [List.take_of_length_le (by omega)] at hno
    refine ⟨?_, c1⟩
    rw [if_neg (fun hm => hno set hm rfl)]
end Go.Proofs.Ytkfncibmfcdokaa
end

/- XRef2 -/
section
/- The document's flows: Keep, ahead, Put. -/
set_option linter.unusedVariables false
set_option linter.unusedSimpArgs false
namespace Go.Proofs.Ytkfncibmfcdokaa
open Go Go.RowKit Go.X

theorem ref_keep {w : World} {most : Int} {p4 : Option Addr} {n4 cc : Nat} {sets : List Int} (h : RowAt w 22 1 p4 n4 cc (sets.map (.int .u32))) (hn : n4 ≤ 1000000) (hne : sets ≠ []) {set : Int} (hs0 : 0 ≤ set) :
    Calls Try.prog 104 #[.agg #[.int .i64 most, .slice p4 n4 cc], .int .u32 set] w fun e w' => ∃ (r1 : Int) (r2 : Option Addr) (r2n : Nat) (r2c : Nat) (r3 : Int) (r4 : Int), e = .returned (.tuple #[.agg #[.int .i64 r1, .slice r2 r2n r2c], .int .i64 r3, .int .i64 r4]) ∧
      (r1 = most ∧ r4 = keepE most sets set ∧ RowAt w' 22 1 r2 r2n r2c ((keepS most sets set).map (.int .u32)) ∧ Chg [] w w' ∧ ∀ i ∈ rowB r2, i ∈ rowB p4 ∨ w.heap.size ≤ i) := by
  have hl : n4 = sets.length := by have := h.length; simp at this; omega
  refine ok_pomanderref02_Table_Keep _ _ _ _ _ _ _ ?_
  unfold V_pomanderref02_Table_Keep
  refine v_alloc fun b1 w1 e1 h1 c1 => ?_
  refine v_alloc fun b2 w2 e2 h2 c2 => ?_
  have l1 : b1 < w1.heap.size := lt_of_heap h1
  have l2 : b2 < w2.heap.size := lt_of_heap h2
  have s1 := c1.size
  have s2 := c2.size
  have h12 := c2.obj (by simp) h1
  have c02 := c1.trans0 c2
  have hlt := h.lt
  refine ⟨fun hb => ?_, fun hb => ?_⟩
  · have hb' : 65536 ≤ set := by simpa using hb
    refine ⟨most, p4, n4, cc, cellsAt_of h12, v_fill h2 (by rfl) (by rfl) fun w3 h3 c3 _ => ?_⟩
    have c03 : Chg [] w w3 := c02.trans c3 (fun i hi hlt => by simp at hi; omega)
    refine ⟨most, p4, n4, cc, cellsAt_of h3, rfl, by simp [keepE, hb'], ?_, c03, fun i hi => .inl hi⟩
    rw [show keepS most sets set = sets by simp [keepS, hb']]
    exact h.chg c03 (by simp)
  have hb' : ¬ 65536 ≤ set := by simpa using hb
  refine ⟨most, p4, n4, cc, cellsAt_of h12, ?_⟩
  refine (ref_has (h.chg c02 (by simp)) (by omega) set).mono ?_
  rintro _ w4 ⟨r7, rfl, hr, c4⟩
  have h14 := c4.obj (by simp) h12
  have h24 := c4.obj (by simp) h2
  have c04 := c02.trans0 c4
  refine ⟨_, rfl, fun hin => ?_, fun hnin => ?_⟩
  · have hin' : 0 ≤ r7 := by simpa using hin
    have hm : set ∈ sets := Classical.byContradiction fun hm => by rw [if_neg hm] at hr; omega
    refine ⟨most, p4, n4, cc, cellsAt_of h14, v_fill h24 (by rfl) (by rfl) fun w3 h3 c3 _ => ?_⟩
    have c03 : Chg [] w w3 := c04.trans c3 (fun i hi hlt => by simp at hi; omega)
    refine ⟨most, p4, n4, cc, cellsAt_of h3, rfl, by simp [keepE, hb', hm], ?_, c03, fun i hi => .inl hi⟩
    rw [show keepS most sets set = sets by simp [keepS, hm]]
    exact h.chg c03 (by simp)
  have hnin' : ¬ 0 ≤ r7 := by simpa using hnin
  have hm : set ∉ sets := fun hm => by rw [if_pos hm] at hr; omega
  refine ⟨p4, n4, cc, by rw [cell_of h14]; rfl, most, by rw [cell_of h14]; rfl, fun hfull => ?_, fun hroom => ?_⟩
  · have hfull' : most ≤ (n4 : Int) := by simpa using hfull
    refine ⟨most, p4, n4, cc, cellsAt_of h14, v_fill h24 (by rfl) (by rfl) fun w3 h3 c3 _ => ?_⟩
    have c03 : Chg [] w w3 := c04.trans c3 (fun i hi hlt => by simp at hi; omega)
    refine ⟨most, p4, n4, cc, cellsAt_of h3, rfl, by simp [keepE, hb', hm]; omega, ?_, c03, fun i hi => .inl hi⟩
    rw [show keepS most sets set = sets by simp [keepS]; intro h; omega]
    exact h.chg c03 (by simp)
  have hroom' : ¬ most ≤ (n4 : Int) := by simpa using hroom
  -- the row as the source of an append
  obtain ⟨x0, hx0⟩ := get_of (l := sets) (j := 0) (by cases sets with | nil => exact absurd rfl hne | cons a l => simp)
  obtain ⟨a, rfl, _⟩ := RowAt.at h (j := 0) (u := .int .u32 x0) (by rw [List.getElem?_map, hx0]; rfl)
  have h4 := h.chg c04 (by simp)
  refine ⟨some a, n4, cc, by rw [cell_of h14]; rfl, ?_⟩
  obtain ⟨p', c', w7, happ, hrow7, c7, hf7⟩ := (RowAt.nil (w := w4) (e := 22) (size := 1)).append (P := Try.prog) (t := 31) (ty := 31) (i := Try.t22) (z := .int .u32 0) (bytes := 4) (by kernel_rfl) (by kernel_rfl) (by kernel_rfl) (by kernel_rfl) (by kernel_rfl) rfl (by omega)
    (a := a) (m := n4) (mc := cc) (news := sets.map (.int .u32)) (by simpa using hl.symm) (fun j u hu => by
      obtain ⟨a', ha', hc'⟩ := RowAt.at h4 hu
      cases ha'; exact hc') (by simp [Value.oneCell']) (by simp only [maxLen]; omega) (by omega)
  rw [Nat.zero_add] at happ hrow7
  simp only [rowB, Option.toList_none, List.map_nil] at c7
  refine ⟨p', n4, c', w7, happ, ?_⟩
  refine v_alloc fun b3 w8 e3 h3 c8 => ?_
  obtain ⟨p'', c'', w9, happ2, hrow9, c9, hf9⟩ := (hrow7.chg c8 (by simp)).append (P := Try.prog) (t := 31) (ty := 31) (i := Try.t22) (z := .int .u32 0) (bytes := 4) (by kernel_rfl) (by kernel_rfl) (by kernel_rfl) (by kernel_rfl) (by kernel_rfl) rfl (by omega)
    (a := ⟨b3, 0, none⟩) (m := 1) (mc := 1) (news := [.int .u32 set]) rfl (fun i u hi => by
      cases i with
      | zero => simp at hi; subst hi; rw [add_at, cell_of h3]; rfl
      | succ i => simp at hi) (by simp [Value.oneCell']) (by simp only [maxLen]; omega) (by omega)
  refine ⟨p'', n4 + 1, c'', w9, happ2, ?_⟩
  have s4 := c4.size
  have s7 := c7.size
  have s8 := c8.size
  have s9 := c9.size
  have hf7' : ∀ i ∈ rowB p', w4.heap.size ≤ i := fun i hi => (hf7 i hi).resolve_left (by simp [rowB])
  have hf9' : ∀ i ∈ rowB p'', w4.heap.size ≤ i := fun i hi => by
    rcases hf9 i hi with h | h
    · exact hf7' i h
    · omega
  have c49 : Chg [] w4 w9 := (c7.trans0 c8).trans c9 (fun i hi hlt => by have := hf7' i hi; omega)
  have h19 := c49.obj (by simp) h14
  have h29 := c49.obj (by simp) h24
  have c09 := c04.trans0 c49
  refine v_set0 (v := .slice p'' (n4 + 1) c'') h19 (by simp) fun w10 h10 c10 hs10 => ?_
  refine v_drew fun w11 c11 => ?_
  have h11 : w11.heap[b1]? = some (.cells #[.int .i64 most, .slice p'' (n4 + 1) c''] 33 (0, 0)) := c11.obj (by simp) (by simpa using h10)
  have h211 : w11.heap[b2]? = some (.cells #[.int .i64 0, .slice none 0 0] 33 (0, 0)) := c11.obj (by simp) (c10.obj (by simp; omega) h29)
  refine ⟨most, p'', n4 + 1, c'', cellsAt_of h11, p'', n4 + 1, c'', by rw [cell_of h11]; rfl, v_fill h211 (by rfl) (by rfl) fun w12 h212 c1112 _ => ?_⟩
  have c012 : Chg [] w w11 := (c09.trans c10 (fun i hi hlt => by simp at hi; omega)).trans0 c11
  have c12 : Chg [] w w12 := c012.trans c1112 (fun i hi hlt => by simp at hi; omega)
  have h112 := c1112.obj (by simp; omega) h11
  refine ⟨⟨cellsAt_of h112, by rw [cell_of h112]; rfl, trivial⟩, most, p'', n4 + 1, c'', cellsAt_of h212, rfl, by simp [keepE, hb', hm]; omega, ?_, c12, fun i hi => .inr (by have := hf9' i hi; omega)⟩
  have hS : keepS most sets set = sets ++ [set] := by unfold keepS; rw [if_neg (fun h => h.elim hb' fun h => h.elim hm fun h => hroom' (by omega))]
  rw [hS, List.map_append]
  have := ((hrow9.chg c10 (fun i hi hmm => by simp at hmm; have := hf9' i hi; omega)).chg c11 (by simp)).chg c1112 (fun i hi hmm => by simp at hmm; have := hf9' i hi; omega)
  simpa using this

/-- Which place is ahead. -/
def aheadP (a b : Int × Int) : Prop := a.1 < b.1 ∨ a.1 = b.1 ∧ a.2 < b.2
instance (a b : Int × Int) : Decidable (aheadP a b) := by unfold aheadP; exact inferInstance
theorem ref_ahead {w : World} (a1 a2 b1 b2 : Int) :
    Calls Try.prog 125 #[.agg #[.int .i64 a1, .int .i64 a2], .agg #[.int .i64 b1, .int .i64 b2]] w fun e w' => ∃ r : Bool, e = .returned (.bool r) ∧ (r = decide (aheadP (a1, a2) (b1, b2)) ∧ Chg [] w w') := by
  refine ok_pomanderref12_ahead _ _ _ _ _ _ ?_
  unfold V_pomanderref12_ahead
  refine v_alloc fun x1 w1 e1 h1 c1 => ?_
  refine v_alloc fun x2 w2 e2 h2 c2 => ?_
  have h12 := c2.obj (by simp) h1
  have c02 := c1.trans0 c2
  refine ⟨a1, by rw [cell_of h12]; rfl, b1, by rw [cell_of h2]; rfl, _, fun b w h => h, fun hb => ?_, fun hb => ?_⟩
  · have hb' : ¬ a1 < b1 := by simpa using hb
    refine ⟨a1, by rw [cell_of h12]; rfl, b1, by rw [cell_of h2]; rfl, _, fun b w h => h, fun he => ?_, fun he => ?_⟩
    · have he' : a1 = b1 := by simpa using he
      refine ⟨a2, by rw [cell_of h12]; rfl, b2, by rw [cell_of h2]; rfl, ?_, c02⟩
      exact decide_eq_decide.2 (by unfold aheadP; simp only []; omega)
    · have he' : a1 ≠ b1 := by simpa using he
      refine ⟨?_, c02⟩
      symm; rw [decide_eq_false_iff_not]; unfold aheadP; simp only []; omega
  · have hb' : a1 < b1 := by simpa using hb
    refine ⟨?_, c02⟩
    symm; rw [decide_eq_true_eq]; exact .inl hb'

def stepPut (p : Int × Int) (set : Int) (s : List Pr × Bool) (x : Pr) : List Pr × Bool :=
  let s1 := if !s.2 && decide (aheadP p x.1) then (s.1 ++ [(p, set)], true) else s
  let o2 := if x.1 = p then s1.1 else s1.1 ++ [x]
  if x.1 = p ∧ s1.2 = false then (o2 ++ [(p, set)], true) else (o2, s1.2)
def foldPut (p : Int × Int) (set : Int) (l : List Pr) : List Pr × Bool := l.foldl (stepPut p set) ([], set == 0)
def refPut (p : Int × Int) (set : Int) (l : List Pr) : List Pr := let s := foldPut p set l; if s.2 then s.1 else s.1 ++ [(p, set)]
theorem foldPut_snoc (p : Int × Int) (set : Int) (l : List Pr) (x : Pr) : foldPut p set (l ++ [x]) = stepPut p set (foldPut p set l) x := by simp [foldPut]
theorem stepPut_length (p : Int × Int) (set : Int) (s : List Pr × Bool) (x : Pr) : (stepPut p set s x).1.length ≤ s.1.length + 2 := by
  unfold stepPut
  simp only []
  split <;> split <;> split <;> simp_all
theorem foldPut_length (p : Int × Int) (set : Int) (l : List Pr) : (foldPut p set l).1.length ≤ 2 * l.length := by
  unfold foldPut
  have : ∀ (l : List Pr) (s : List Pr × Bool), (l.foldl (stepPut p set) s).1.length ≤ s.1.length + 2 * l.length := by
    intro l
    induction l with
    | nil => intro s; simp
    | cons x l ih => intro s; simp only [List.foldl_cons, List.length_cons]; have := ih (stepPut p set s x); have := stepPut_length p set s x; omega
  have := this l ([], set == 0)
  simpa using this
end Go.Proofs.Ytkfncibmfcdokaa
end

/- XRef3 -/
section
/- The document's flows: Put. -/
set_option linter.unusedVariables false
set_option linter.unusedSimpArgs false
namespace Go.Proofs.Ytkfncibmfcdokaa
open Go Go.RowKit Go.X

theorem pair_beq (a b : Int × Int) : ((a.1 == b.1) && (a.2 == b.2)) = decide (a = b) := by
  obtain ⟨a1, a2⟩ := a
  obtain ⟨b1, b2⟩ := b
  apply Bool.eq_iff_iff.2
  simp
theorem append_pr {w : World} {p : Option Addr} {n c : Nat} {out : List Pr} (h : RowAt w 149 3 p n c (out.flatMap encPr)) {b : Nat} {x : Pr} (hb : w.heap[b]? = some (.cells (encPr x).toArray 149 (0, 0))) (hn : n ≤ 1000000000) :
    ∃ p' c' w', (Builtin.append_ #[34, 34] 34 #[.slice p n c, .slice (some (⟨b, 0, none⟩ : Addr)) 1 1]).run Try.prog w = .ok (.slice p' (n + 1) c') w' ∧ RowAt w' 149 3 p' (n + 1) c' ((out ++ [x]).flatMap encPr) ∧ Chg (rowB p) w w' ∧
      (∀ i ∈ rowB p', i ∈ rowB p ∨ w.heap.size ≤ i) := by
  obtain ⟨p', c', w', h1, h2, h3, h4⟩ := h.append (P := Try.prog) (t := 34) (ty := 34) (i := Try.t149) (z := .agg #[.int .i64 0, .int .i64 0, .int .u32 0]) (bytes := 24) (by kernel_rfl) (by kernel_rfl) (by kernel_rfl) (by kernel_rfl) (by kernel_rfl) rfl (by omega)
    (a := ⟨b, 0, none⟩) (m := 1) (mc := 1) (news := encPr x) rfl (fun i u hi => by
      rw [add_at, cell_of hb, Nat.zero_add]; simpa using hi) (by simp [encPr, Value.oneCell']) (by simp only [maxLen]; omega) (by omega)
  exact ⟨p', c', w', h1, by simpa [List.flatMap_append] using h2, h3, h4⟩

theorem ref_put {w : World} {R : Rf} {p4 p5 : Option Addr} {n4 c4 n5 c5 : Nat} (h : RefAt w R p4 n4 c4 p5 n5 c5) (hn : n5 ≤ 100000000) (p1 p2 set : Int) :
    Calls Try.prog 105 #[.agg #[.int .i64 R.fr, .int .i64 R.se, .int .i64 R.most, .slice p4 n4 c4, .slice p5 n5 c5], .agg #[.int .i64 p1, .int .i64 p2], .int .u32 set] w fun e w' =>
      ∃ (r1 : Int) (r2 : Int) (r3 : Int) (r4 : Option Addr) (r4n : Nat) (r4c : Nat) (r5 : Option Addr) (r5n : Nat) (r5c : Nat), e = .returned (.agg #[.int .i64 r1, .int .i64 r2, .int .i64 r3, .slice r4 r4n r4c, .slice r5 r5n r5c]) ∧
      (r1 = R.fr ∧ r2 = R.se ∧ r3 = R.most ∧ r4 = p4 ∧ r4n = n4 ∧ r4c = c4 ∧ RefAt w' { R with pairs := refPut (p1, p2) set R.pairs } r4 r4n r4c r5 r5n r5c ∧ Chg [] w w' ∧ ∀ i ∈ rowB r5, w.heap.size ≤ i) := by
  have hl := h.n5
  have hlt4 := h.sets.lt
  have hlt5 := h.pairs.lt
  refine ok_pomanderref12_Flow_Put _ _ _ _ _ _ _ _ _ _ _ _ _ _ ?_
  unfold V_pomanderref12_Flow_Put
  refine v_alloc fun b1 w1 e1 h1 c1 => ?_
  refine v_alloc fun b2 w2 e2 h2 c2 => ?_
  refine v_alloc fun b3 w3 e3 h3 c3 => ?_
  have l1 : b1 < w1.heap.size := lt_of_heap h1
  have l2 : b2 < w2.heap.size := lt_of_heap h2
  have l3 : b3 < w3.heap.size := lt_of_heap h3
  have s1 := c1.size
  have s2 := c2.size
  have s3 := c3.size
  have c03 := (c1.trans0 c2).trans0 c3
  have h13 := (c2.trans0 c3).obj (by simp) h1
  have h23 := c3.obj (by simp) h2
  generalize hp : ((p1, p2) : Int × Int) = p
  have hp1 : p.1 = p1 := by rw [← hp]
  have hp2 : p.2 = p2 := by rw [← hp]
  -- what goes on being so
  let Base (w' : World) (o : Option Addr) : Prop := Chg [] w w' ∧ w'.heap[b1]? = some (.cells #[.int .i64 R.fr, .int .i64 R.se, .int .i64 R.most, .slice p4 n4 c4, .slice p5 n5 c5] 36 (0, 0)) ∧
    w'.heap[b2]? = some (.cells #[.int .i64 p1, .int .i64 p2] 56 (0, 0)) ∧ w'.heap[b3]? = some (.cells #[.int .i64 0, .int .i64 0, .int .i64 0, .slice none 0 0, .slice none 0 0] 36 (0, 0)) ∧ w3.heap.size ≤ w'.heap.size ∧ ∀ i ∈ rowB o, w3.heap.size ≤ i
  have base_step : ∀ {w' w'' : World} {o o' : Option Addr}, Base w' o → Chg (rowB o) w' w'' → (∀ i ∈ rowB o', i ∈ rowB o ∨ w'.heap.size ≤ i) → Base w'' o' := by
    rintro w' w'' o o' ⟨k1, k2, k3, k4, k5, k6⟩ c f
    refine ⟨k1.trans c (fun i hi hlt => by have := k6 i hi; omega), c.obj (fun hm => by have := k6 _ hm; omega) k2, c.obj (fun hm => by have := k6 _ hm; omega) k3, c.obj (fun hm => by have := k6 _ hm; omega) k4, Nat.le_trans k5 c.size, fun i hi => ?_⟩
    rcases f i hi with h | h
    · exact k6 i h
    · omega
  have base_nil : ∀ {w' w'' : World} {o : Option Addr}, Base w' o → Chg [] w' w'' → Base w'' o := fun hb c => base_step hb c.nil (fun i hi => .inl hi)
  have fold_len : ∀ j, (foldPut p set (R.pairs.take j)).1.length ≤ 2 * n5 := fun j => by
    have := foldPut_length p set (R.pairs.take j)
    have := List.length_take_le j R.pairs
    have := List.length_take_le' j R.pairs
    omega
  refine ⟨fun s w' => ∃ j : Nat, s.2.2.2.2 = (j : Int) ∧ j ≤ n5 ∧ s.2.2.2.1 = (foldPut p set (R.pairs.take j)).2 ∧ RowAt w' 149 3 s.1 s.2.1 s.2.2.1 ((foldPut p set (R.pairs.take j)).1.flatMap encPr) ∧ Base w' s.1,
    fun s _ => (n5 - s.2.2.2.2).toNat, ⟨0, rfl, by omega, rfl, RowAt.nil, c03, h13, h23, h3, Nat.le_refl _, by simp [rowB]⟩, ?_⟩
  rintro ⟨o, on, oc, put, i⟩ w4 ⟨j, hij, hj, hput, hrow, hbase⟩
  simp only [] at hij hput hrow hbase
  subst hij
  obtain ⟨c04, h14, h24, h34, s4, ho⟩ := id hbase
  have hon : on = (foldPut p set (R.pairs.take j)).1.length := by
    have := hrow.length; rw [flat_length (size := 3) (fun _ => rfl)] at this; omega
  have hlen := fold_len j
  refine ⟨p5, n5, c5, by rw [cell_of h14]; rfl, fun hlt => ?_, fun hge => ?_⟩
  · have hlt' : j < n5 := by simpa using hlt
    obtain ⟨x, hx⟩ := get_of (l := R.pairs) (j := j) (by omega)
    have hsnoc : foldPut p set (R.pairs.take (j + 1)) = stepPut p set (foldPut p set (R.pairs.take j)) x := by rw [take_snoc hx, foldPut_snoc]
    obtain ⟨a, rfl, hc⟩ := RowAt.elem (size := 3) (fun _ => rfl) (h.pairs.chg c04 (by simp)) hx (by omega)
    refine ⟨fun s w' => s.2.2.2 = (foldPut p set (R.pairs.take (j + 1))).2 ∧ RowAt w' 149 3 s.1 s.2.1 s.2.2.1 ((foldPut p set (R.pairs.take (j + 1))).1.flatMap encPr) ∧ Base w' s.1, ?_, ?_⟩
    · rintro ⟨o', on', oc', put'⟩ w5 ⟨k1, k2, k3⟩
      simp only [] at k1 k2 k3 ⊢
      rw [wr (by omega) (by omega)]
      exact ⟨⟨j + 1, by omega, by omega, k1, k2, k3⟩, by omega⟩
    refine ⟨some a, n5, c5, by rw [cell_of h14]; rfl, a, rfl, by simp only []; omega, by simp only []; omega, x.1.1, x.1.2, x.2, by simpa [encPr] using hc, ?_⟩
    refine v_box (by rfl) (by rfl) fun b4 w7 e7 h7 c7 => ?_
    have hx1 : ((x.1.1, x.1.2) : Int × Int) = x.1 := rfl
    have hrow7 := hrow.chg c7 (by simp)
    have hbase7 := base_nil hbase c7
    have hrlt := hrow.lt
    generalize hs0 : foldPut p set (R.pairs.take j) = s0 at hput hrow hsnoc hrow7 hon hlen
    rw [hsnoc]
    obtain ⟨out, pu⟩ := s0
    simp only [] at hput hrow hrow7 hon hlen
    subst hput
    have ho4 : ∀ i ∈ rowB o, i ≠ b4 := fun i hi e => by have := hrlt i hi; omega
    -- the state behind the first choice
    let s1 : List Pr × Bool := if !put && decide (aheadP p x.1) then (out ++ [(p, set)], true) else (out, put)
    have hs1 : s1 = if !put && decide (aheadP p x.1) then (out ++ [(p, set)], true) else (out, put) := rfl
    have hl1 : s1.1.length ≤ on + 1 := by rw [hs1]; split <;> simp <;> omega
    refine ⟨fun s w' => s.2.2.2 = s1.2 ∧ RowAt w' 149 3 s.1 s.2.1 s.2.2.1 (s1.1.flatMap encPr) ∧ Base w' s.1 ∧ w'.heap[b4]? = some (.cells (encPr x).toArray 149 (0, 0)) ∧ ∀ i ∈ rowB s.1, i ≠ b4, ?_, ?_⟩
    rotate_left
    · -- is p ahead?
      refine ⟨fun b7 w' => b7 = (!put && decide (aheadP p x.1)) ∧ RowAt w' 149 3 o on oc (out.flatMap encPr) ∧ Base w' o ∧ w'.heap[b4]? = some (.cells (encPr x).toArray 149 (0, 0)), ?_, fun hnp => ?_, fun hnp => ?_⟩
      · rintro b7 w14 ⟨hb7, hrow14, hbase14, h414⟩
        obtain ⟨c014, h114, h214, h314, s14, ho14⟩ := id hbase14
        refine ⟨fun ht => ?_, fun hf => ?_⟩
        · rw [ht] at hb7
          have hs1' : s1 = (out ++ [(p, set)], true) := by rw [hs1, if_pos hb7.symm]
          refine ⟨p1, p2, cellsAt_of h214, ?_⟩
          refine v_alloc fun b8 w16 e16 h16 c16 => ?_
          obtain ⟨p', c', w17, happ, hr17, c17, f17⟩ := append_pr (x := (p, set)) (hrow14.chg c16 (by simp)) (by rw [h16, ← hp]; rfl) (by omega)
          refine ⟨p', on + 1, c', w17, happ, by rw [hs1'], by rw [hs1']; exact hr17, base_step (base_nil hbase14 c16) c17 f17, c17.obj (fun hm => ho4 _ hm rfl) (c16.obj (by simp) h414), fun i hi e => ?_⟩
          rcases f17 i hi with h | h
          · exact ho4 i h e
          · have := lt_of_heap h414; have := c16.size; omega
        · rw [hf] at hb7
          have hs1' : s1 = (out, put) := by rw [hs1, if_neg (by rw [← hb7]; simp)]
          rw [hs1']
          exact ⟨rfl, hrow14, hbase14, h414, ho4⟩
      · have hnp' : put = false := by simpa using hnp
        refine ⟨p1, p2, cellsAt_of (c7.obj (by simp) h24), x.1.1, x.1.2, ⟨by rw [add_at, cell_of h7]; rfl, by rw [add_at, cell_of h7]; rfl, trivial⟩, ?_⟩
        refine (ref_ahead p1 p2 x.1.1 x.1.2).mono ?_
        rintro _ w15 ⟨_, rfl, rfl, c15⟩
        refine ⟨_, rfl, ?_, hrow7.chg c15 (by simp), base_nil hbase7 c15, c15.obj (by simp) h7⟩
        rw [hnp', hp, hx1]; rfl
      · have hnp' : put = true := by simpa using hnp
        exact ⟨by simp [hnp'], hrow7, hbase7, h7⟩
    rintro ⟨o8, on8, oc8, put8⟩ w8 ⟨hput8, hrow8, hbase8, h48, ho8⟩
    simp only [] at hput8 hrow8 hbase8 ho8
    have hon8 : on8 = s1.1.length := by have := hrow8.length; rw [flat_length (size := 3) (fun _ => rfl)] at this; omega
    obtain ⟨c08, h18, h28, h38, s8, hb8⟩ := id hbase8
    let o2 : List Pr := if x.1 = p then s1.1 else s1.1 ++ [x]
    have ho2 : o2 = if x.1 = p then s1.1 else s1.1 ++ [x] := rfl
    have hl2 : o2.length ≤ on + 2 := by
      rw [ho2]
      split
      · omega
      · rw [List.length_append, List.length_singleton]; omega
    have hfin : stepPut p set (out, put) x = if x.1 = p ∧ s1.2 = false then (o2 ++ [(p, set)], true) else (o2, s1.2) := rfl
    rw [hfin]
    have heq : ((x.1.1 == p1) && (x.1.2 == p2)) = decide (x.1 = p) := by
      rw [← hp1, ← hp2]
      exact pair_beq x.1 p
    refine ⟨fun s w' => RowAt w' 149 3 s.1 s.2.1 s.2.2 (o2.flatMap encPr) ∧ Base w' s.1 ∧ w'.heap[b4]? = some (.cells (encPr x).toArray 149 (0, 0)), ?_, ?_⟩
    · rintro ⟨o9, on9, oc9⟩ w9 ⟨hrow9, hbase9, h49⟩
      simp only [] at hrow9 hbase9
      have hon9 : on9 = o2.length := by have := hrow9.length; rw [flat_length (size := 3) (fun _ => rfl)] at this; omega
      obtain ⟨c09, h19, h29, h39, s9, hb9⟩ := id hbase9
      refine ⟨x.1.1, x.1.2, ⟨by rw [add_at, cell_of h49]; rfl, by rw [add_at, cell_of h49]; rfl, trivial⟩, p1, p2, cellsAt_of h29, fun ht => ?_, fun hf => ?_⟩
      · have ht' : x.1 = p ∧ s1.2 = false := by
          simp only [] at ht
          rw [heq, hput8] at ht
          simpa using ht
        rw [if_pos ht']
        refine ⟨p1, p2, cellsAt_of h29, ?_⟩
        refine v_alloc fun b5 w10 e10 h10 c10 => ?_
        obtain ⟨p', c', w11, happ, hr11, c11, f11⟩ := append_pr (x := (p, set)) (hrow9.chg c10 (by simp)) (by rw [h10, ← hp]; rfl) (by omega)
        exact ⟨p', on9 + 1, c', w11, happ, rfl, hr11, base_step (base_nil hbase9 c10) c11 f11⟩
      · have hf' : ¬ (x.1 = p ∧ s1.2 = false) := by
          simp only [] at hf
          rw [heq, hput8] at hf
          simpa using hf
        rw [if_neg hf']
        exact ⟨hput8, hrow9, hbase9⟩
    · refine ⟨x.1.1, x.1.2, ⟨by rw [add_at, cell_of h48]; rfl, by rw [add_at, cell_of h48]; rfl, trivial⟩, p1, p2, cellsAt_of h28, fun ht => ?_, fun hf => ?_⟩
      · have ht' : x.1 ≠ p := by
          rw [heq] at ht; simpa using ht
        have ho2' : o2 = s1.1 ++ [x] := by rw [ho2, if_neg ht']
        refine ⟨x.1.1, x.1.2, x.2, cellsAt_of h48, ?_⟩
        refine v_alloc fun b6 w12 e12 h12 c12 => ?_
        obtain ⟨p', c', w13, happ, hr13, c13, f13⟩ := append_pr (x := x) (hrow8.chg c12 (by simp)) h12 (by omega)
        refine ⟨p', on8 + 1, c', w13, happ, by rw [ho2']; exact hr13, base_step (base_nil hbase8 c12) c13 f13, c13.obj (fun hm => ho8 _ hm rfl) (c12.obj (by simp) h48)⟩
      · have hf' : x.1 = p := by
          rw [heq] at hf; simpa using hf
        have ho2' : o2 = s1.1 := by rw [ho2, if_pos hf']
        rw [ho2']
        exact ⟨hrow8, hbase8, h48⟩
  · have hge' : ¬ j < n5 := by simpa using hge
    rw [List.take_of_length_le (by omega)] at hput hrow hon hlen
    refine ⟨fun s w' => RowAt w' 149 3 s.1 s.2.1 s.2.2 ((refPut p set R.pairs).flatMap encPr) ∧ Base w' s.1, ?_, fun hnp => ?_, fun hnp => ?_⟩
    · rintro ⟨o', on', oc'⟩ w18 ⟨hrow18, hbase18⟩
      simp only [] at hrow18 hbase18
      obtain ⟨c018, h118, h218, h318, s18, hb18⟩ := id hbase18
      refine v_set0 h118 (by simp) fun w19 h19 c19 _ => ?_
      have h19' : w19.heap[b1]? = some (.cells #[.int .i64 R.fr, .int .i64 R.se, .int .i64 R.most, .slice p4 n4 c4, .slice o' on' oc'] 36 (0, 0)) := by simpa using h19
      refine ⟨_, _, _, _, _, _, _, _, _, cellsAt_of h19', ?_⟩
      refine v_fill (c19.obj (by simp; omega) h318) (by rfl) (by rfl) fun w20 h20 c20 _ => ?_
      have c1820 : Chg [b1, b3] w18 w20 := (c19.mono (by simp)).trans c20 (by simp)
      have c020 : Chg [] w w20 := c018.trans c1820 (fun i hi hlt => by simp at hi; omega)
      refine ⟨_, _, _, _, _, _, _, _, _, cellsAt_of h20, rfl, rfl, rfl, rfl, rfl, rfl, ⟨h.sets.chg c020 (by simp), hrow18.chg c1820 (fun i hi hm => by have := hb18 i hi; simp at hm; omega)⟩, c020, fun i hi => by have := hb18 i hi; omega⟩
    · have hnp' : put = false := by simpa using hnp
      have hr : refPut p set R.pairs = (foldPut p set R.pairs).1 ++ [(p, set)] := by unfold refPut; simp only []; rw [← hput, hnp']; rfl
      refine ⟨p1, p2, cellsAt_of h24, ?_⟩
      refine v_alloc fun b9 w21 e21 h21 c21 => ?_
      obtain ⟨p', c', w22, happ, hr22, c22, f22⟩ := append_pr (x := (p, set)) (hrow.chg c21 (by simp)) (by rw [h21, ← hp]; rfl) (by omega)
      exact ⟨p', on + 1, c', w22, happ, by rw [hr]; exact hr22, base_step (base_nil hbase c21) c22 f22⟩
    · have hnp' : put = true := by simpa using hnp
      have hr : refPut p set R.pairs = (foldPut p set R.pairs).1 := by unfold refPut; simp only []; rw [← hput, hnp']; rfl
      exact ⟨by rw [hr]; exact hrow, hbase⟩
end Go.Proofs.Ytkfncibmfcdokaa
end

/- XRef4 -/
section
/- The document's flows: New, Mark. -/
set_option linter.unusedVariables false
set_option linter.unusedSimpArgs false
namespace Go.Proofs.Ytkfncibmfcdokaa
open Go Go.RowKit Go.X

def muP (s : List Pr × Bool) : Nat := s.1.length + (if s.2 then 0 else 1)
theorem stepPut_mu (p : Int × Int) (set : Int) (s : List Pr × Bool) (x : Pr) : muP (stepPut p set s x) ≤ muP s + 1 := by
  obtain ⟨o, put⟩ := s
  unfold stepPut muP
  generalize decide (aheadP p x.1) = A
  by_cases h2 : x.1 = p <;> cases put <;> cases A <;> simp [h2]
theorem refPut_length (p : Int × Int) (set : Int) (l : List Pr) : (refPut p set l).length ≤ l.length + 1 := by
  have : ∀ (l : List Pr) (s : List Pr × Bool), muP (l.foldl (stepPut p set) s) ≤ muP s + l.length := by
    intro l
    induction l with
    | nil => intro s; exact Nat.le_refl _
    | cons x l ih => intro s; simp only [List.foldl_cons, List.length_cons]; have := ih (stepPut p set s x); have := stepPut_mu p set s x; omega
  have h := this l ([], set == 0)
  have h0 : muP (([], set == 0) : List Pr × Bool) ≤ 1 := by unfold muP; simp only []; split <;> simp
  have he : (refPut p set l).length = muP (l.foldl (stepPut p set) ([], set == 0)) := by
    unfold refPut foldPut muP
    simp only []
    split <;> simp
  omega
def refFill (p : Int × Int) (set : Int) (l : List Pr) : Nat → List Pr
  | 0 => l
  | n + 1 => refPut (p.1, p.2 + n) set (refFill p set l n)
theorem refFill_length (p : Int × Int) (set : Int) (l : List Pr) (n : Nat) : (refFill p set l n).length ≤ l.length + n := by
  induction n with
  | zero => exact Nat.le_refl _
  | succ n ih => have := refPut_length (p.1, p.2 + n) set (refFill p set l n); simp only [refFill]; omega
def refMarkE (R : Rf) (p : Int × Int) (n set : Int) : Int :=
  if ¬ mayP R.fr R.se p ∨ 65536 ≤ set then 2 else if n < 0 ∨ 65536 < n ∨ (0 < n ∧ ¬ mayP R.fr R.se (p.1, p.2 + n - 1)) then 4 else keepE R.most R.sets set
def refMark (R : Rf) (p : Int × Int) (n set : Int) : Rf := if refMarkE R p n set = 0 then { R with sets := keepS R.most R.sets set, pairs := refFill p set R.pairs n.toNat } else R

theorem ref_new {w : World} (fr se most : Int) :
    Calls Try.prog 26 #[.agg #[.int .i64 fr, .int .i64 se], .int .i64 most] w fun e w' => ∃ (r1 : Int) (r2 : Int) (r3 : Int) (r4 : Option Addr) (r4n : Nat) (r4c : Nat) (r5 : Option Addr) (r5n : Nat) (r5c : Nat), e = .returned (.agg #[.int .i64 r1, .int .i64 r2, .int .i64 r3, .slice r4 r4n r4c, .slice r5 r5n r5c]) ∧
      (r1 = fr ∧ r2 = se ∧ r3 = most ∧ RefAt w' ⟨fr, se, most, [0], []⟩ r4 r4n r4c r5 r5n r5c ∧ Chg [] w w' ∧ ∀ i ∈ rowB r4 ++ rowB r5, w.heap.size ≤ i) := by
  refine ok_pomanderref12_New _ _ _ _ _ ?_
  unfold V_pomanderref12_New
  refine v_alloc fun b1 w1 e1 h1 c1 => ?_
  refine v_alloc fun b2 w2 e2 h2 c2 => ?_
  refine v_drew fun w3 c3 => ?_
  have h13 := (c2.trans0 c3).obj (by simp) h1
  have h23 := c3.obj (by simp) h2
  have l1 : b1 < w1.heap.size := lt_of_heap h1
  have l2 : b2 < w2.heap.size := lt_of_heap h2
  have s1 := c1.size
  have s2 := c2.size
  have s3 := c3.size
  refine ⟨fr, se, cellsAt_of h13, ?_⟩
  have hnew : Calls Try.prog 69 #[.int .i64 most] w3 fun e w' => ∃ (r1 : Int) (r2 : Option Addr) (r2n : Nat) (r2c : Nat), e = .returned (.agg #[.int .i64 r1, .slice r2 r2n r2c]) ∧ (r1 = most ∧ RowAt w' 22 1 r2 r2n r2c ([0].map (.int .u32)) ∧ Chg [] w3 w' ∧ ∀ i ∈ rowB r2, w3.heap.size ≤ i) := by
    refine ok_pomanderref02_New _ _ _ ?_
    unfold V_pomanderref02_New
    refine v_alloc fun x1 v1 f1 g1 d1 => ?_
    refine v_alloc fun x2 v2 f2 g2 d2 => ?_
    have := d1.size
    have := lt_of_heap g1
    have := lt_of_heap g2
    refine v_fill (d2.obj (by simp) g1) (by rfl) (by rfl) fun v3 g3 d3 _ => ?_
    refine ⟨_, _, _, _, cellsAt_of g3, rfl, ?_, (d1.trans0 d2).trans d3 (fun i hi hlt => by simp at hi; omega), by simp [rowB]; omega⟩
    exact RowAt.of_heap (cs := [.int .u32 0]) (d3.obj (by simp; omega) g2) rfl (by simp [maxLen])
  refine hnew.mono ?_
  rintro _ w4 ⟨r6, r7, r7n, r7c, rfl, rfl, hrow, c4, hf⟩
  refine ⟨_, _, _, _, rfl, ⟨cellsAt_of (c4.obj (by simp) h13), trivial⟩, ?_⟩
  have s4 := c4.size
  refine v_fill (c4.obj (by simp) h23) (by rfl) (by rfl) fun w5 h5 c5 _ => ?_
  have c05 : Chg [] w w5 := (((c1.trans0 c2).trans0 c3).trans0 c4).trans c5 (fun i hi hlt => by simp at hi; omega)
  refine ⟨_, _, _, _, _, _, _, _, _, cellsAt_of h5, rfl, rfl, rfl, ⟨hrow.chg c5 (fun i hi hm => by have := hf i hi; simp at hm; omega), RowAt.nil⟩, c05, fun i hi => ?_⟩
  simp [rowB] at hi
  have := hf i (by simpa [rowB] using hi)
  omega

theorem ref_mark {w : World} {R : Rf} {p4 p5 : Option Addr} {n4 c4 n5 c5 : Nat} (h : RefAt w R p4 n4 c4 p5 n5 c5) (hn4 : n4 ≤ 1000000) (hn5 : n5 ≤ 90000000) (hne : R.sets ≠ []) (hw : 1 ≤ R.fr ∧ R.fr ≤ 32 ∧ 1 ≤ R.se ∧ R.se ≤ 32) {p1 p2 n set : Int} (hs0 : 0 ≤ set) :
    Calls Try.prog 63 #[.agg #[.int .i64 R.fr, .int .i64 R.se, .int .i64 R.most, .slice p4 n4 c4, .slice p5 n5 c5], .agg #[.int .i64 p1, .int .i64 p2], .int .i64 n, .int .u32 set] w fun e w' =>
      ∃ (r1 : Int) (r2 : Int) (r3 : Int) (r4 : Option Addr) (r4n : Nat) (r4c : Nat) (r5 : Option Addr) (r5n : Nat) (r5c : Nat) (r6 : Int), e = .returned (.tuple #[.agg #[.int .i64 r1, .int .i64 r2, .int .i64 r3, .slice r4 r4n r4c, .slice r5 r5n r5c], .int .i64 r6]) ∧
      (r1 = R.fr ∧ r2 = R.se ∧ r3 = R.most ∧ r6 = refMarkE R (p1, p2) n set ∧ RefAt w' (refMark R (p1, p2) n set) r4 r4n r4c r5 r5n r5c ∧ Chg [] w w' ∧ ∀ i ∈ rowB r4 ++ rowB r5, i ∈ rowB p4 ++ rowB p5 ∨ w.heap.size ≤ i) := by
  have hwf : i64s (64 * R.fr) ∧ i64s (64 * R.se) := by unfold i64s; omega
  have hlt4 := h.sets.lt
  have hlt5 := h.pairs.lt
  refine ok_pomanderref12_Flow_Mark _ _ _ _ _ _ _ _ _ _ _ _ _ _ _ ?_
  unfold V_pomanderref12_Flow_Mark
  refine v_alloc fun b1 w1 e1 h1 c1 => ?_
  refine v_alloc fun b2 w2 e2 h2 c2 => ?_
  refine v_alloc fun b3 w3 e3 h3 c3 => ?_
  have l1 : b1 < w1.heap.size := lt_of_heap h1
  have l2 : b2 < w2.heap.size := lt_of_heap h2
  have l3 : b3 < w3.heap.size := lt_of_heap h3
  have s1 := c1.size
  have s2 := c2.size
  have s3 := c3.size
  have h13 := (c2.trans0 c3).obj (by simp) h1
  have h23 := c3.obj (by simp) h2
  have c03 := (c1.trans0 c2).trans0 c3
  -- the way out with the flow as it was
  have back : ∀ {w4 : World} (E : Int), refMarkE R (p1, p2) n set = E → E ≠ 0 → Chg [] w3 w4 → ∃ (t8 : Int) (t9 : Int) (t10 : Int) (t11 : Option Addr) (t11n : Nat) (t11c : Nat) (t12 : Option Addr) (t12n : Nat) (t12c : Nat), CellsAt w4 (⟨b1, 0, none⟩ : Addr) 0 [.int .i64 t8, .int .i64 t9, .int .i64 t10, .slice t11 t11n t11c, .slice t12 t12n t12c] ∧ (Has w4 (⟨b3, 0, none⟩ : Addr) 5 ∧ Free w4 (⟨b3, 0, none⟩ : Addr) 5 ∧ ∀ w5 : World, w5 = setCells w4 (⟨b3, 0, none⟩ : Addr) 0 [.int .i64 t8, .int .i64 t9, .int .i64 t10, .slice t11 t11n t11c, .slice t12 t12n t12c] →
      (∃ (r8 : Int) (r9 : Int) (r10 : Int) (r11 : Option Addr) (r11n : Nat) (r11c : Nat) (r12 : Option Addr) (r12n : Nat) (r12c : Nat), CellsAt w5 (⟨b3, 0, none⟩ : Addr) 0 [.int .i64 r8, .int .i64 r9, .int .i64 r10, .slice r11 r11n r11c, .slice r12 r12n r12c] ∧
        (r8 = R.fr ∧ r9 = R.se ∧ r10 = R.most ∧ E = refMarkE R (p1, p2) n set ∧ RefAt w5 (refMark R (p1, p2) n set) r11 r11n r11c r12 r12n r12c ∧ Chg [] w w5 ∧ ∀ i ∈ rowB r11 ++ rowB r12, i ∈ rowB p4 ++ rowB p5 ∨ w.heap.size ≤ i))) := by
    intro w4 E hE hE0 c4
    refine ⟨_, _, _, _, _, _, _, _, _, cellsAt_of (c4.obj (by simp) h13), ?_⟩
    refine v_fill (c4.obj (by simp) h3) (by rfl) (by rfl) fun w5 h5 c5 _ => ?_
    have c05 : Chg [] w w5 := (c03.trans0 c4).trans c5 (fun i hi hlt => by simp at hi; omega)
    have hR : refMark R (p1, p2) n set = R := by unfold refMark; rw [if_neg (by rw [hE]; exact hE0)]
    exact ⟨_, _, _, _, _, _, _, _, _, cellsAt_of h5, rfl, rfl, rfl, hE.symm, by rw [hR]; exact h.chg c05 (by simp) (by simp), c05, fun i hi => .inl hi⟩
  refine ⟨_, _, _, _, _, _, _, _, _, cellsAt_of h13, p1, p2, cellsAt_of h23, ?_⟩
  refine (ref_may _ _ _ _ _ _ _ _ _ _ _ hwf).mono ?_
  rintro _ w4 ⟨_, rfl, rfl, c4⟩
  have h14 := c4.obj (by simp) h13
  have h24 := c4.obj (by simp) h23
  have h34 := c4.obj (by simp) h3
  have s4 := c4.size
  refine ⟨_, rfl, fun hbad => ?_, fun hgood => ?_⟩
  · have hb : ¬ mayP R.fr R.se (p1, p2) ∨ 65536 ≤ set := by simpa using hbad
    exact back 2 (by unfold refMarkE; rw [if_pos hb]) (by omega) c4
  have hg : mayP R.fr R.se (p1, p2) ∧ set < 65536 := by simpa using hgood
  have hp2 : 0 ≤ p2 ∧ p2 < 2147483648 := by
    have hm := hg.1
    unfold mayP boundP at hm
    simp only [] at hm
    refine ⟨hm.2.2.1, ?_⟩
    have := hm.2.2.2
    split at this
    · omega
    split at this
    · omega
    split at this
    · omega
    split at this
    · omega
    split at this
    · omega
    split at this <;> omega
  have hnot : ¬ (¬ mayP R.fr R.se (p1, p2) ∨ 65536 ≤ set) := by
    rintro (h | h)
    · exact h hg.1
    · omega
  refine ⟨fun b4 w6 => Chg [] w3 w6 ∧ b4 = decide (n < 0 ∨ 65536 < n ∨ (0 < n ∧ ¬ mayP R.fr R.se (p1, p2 + n - 1))), ?_, fun hn => ?_, fun hn => ?_⟩
  rotate_left
  · have hn' : 0 ≤ n ∧ n ≤ 65536 := by simpa using hn
    refine ⟨_, fun b3 w5 h => h, fun hpos => ?_, fun hpos => ?_⟩
    · have hpos' : 0 < n := by simpa using hpos
      refine ⟨_, _, _, _, _, _, _, _, _, cellsAt_of h14, p1, by rw [cell_of h24]; rfl, p2, by rw [cell_of h24]; rfl, ?_⟩
      rw [wr (n := p2 + n) (by omega) (by omega), wr (by omega) (by omega)]
      refine (ref_may _ _ _ _ _ _ _ _ _ _ _ hwf).mono ?_
      rintro _ w6 ⟨_, rfl, rfl, c6⟩
      refine ⟨_, rfl, c4.trans0 c6, ?_⟩
      rw [← decide_not]
      exact decide_eq_decide.2 ⟨fun h => .inr (.inr ⟨hpos', h⟩), fun h => by
        rcases h with h | h | h
        · omega
        · omega
        · exact h.2⟩
    · have hpos' : ¬ 0 < n := by simpa using hpos
      refine ⟨c4, ?_⟩
      symm; rw [decide_eq_false_iff_not]; omega
  · have hn' : n < 0 ∨ 65536 < n := by simpa using hn
    refine ⟨c4, ?_⟩
    symm; rw [decide_eq_true_eq]; omega
  rintro b4 w6 ⟨c6, rfl⟩
  refine ⟨fun hbad => ?_, fun hok => ?_⟩
  · rw [decide_eq_true_eq] at hbad
    exact back 4 (by unfold refMarkE; rw [if_neg hnot, if_pos hbad]) (by omega) c6
  rw [decide_eq_false_iff_not] at hok
  have hE : refMarkE R (p1, p2) n set = keepE R.most R.sets set := by unfold refMarkE; rw [if_neg hnot, if_neg hok]
  have h16 := c6.obj (by simp) h13
  have h26 := c6.obj (by simp) h23
  have h36 := c6.obj (by simp) h3
  have s6 := c6.size
  have c06 := c03.trans0 c6
  refine ⟨R.most, p4, n4, _, ⟨by rw [add_at, cell_of h16]; rfl, by rw [add_at, cell_of h16]; rfl, trivial⟩, ?_⟩
  refine (ref_keep (h.sets.chg c06 (by simp)) hn4 hne hs0).mono ?_
  rintro _ w10 ⟨r19, r20, r20n, r20c, r21, r22, rfl, rfl, rfl, hrow10, c10, hf10⟩
  have s10 := c10.size
  refine ⟨_, _, _, _, _, _, rfl, ?_⟩
  refine v_box (by rfl) (by rfl) fun b6 w12 e12 h12 c12 => ?_
  have s12 := c12.size
  have c312 := (c6.trans0 c10).trans0 c12
  have c012 := c03.trans0 c312
  have h112 := c312.obj (by simp) h13
  have h212 := c312.obj (by simp) h23
  have h312 := c312.obj (by simp) h3
  refine ⟨fun hbad => ?_, fun hz => ?_⟩
  · have hbad' : keepE R.most R.sets set ≠ 0 := by simpa using hbad
    exact back _ hE hbad' c312
  have hz' : keepE R.most R.sets set = 0 := by simpa using hz
  refine ⟨_, _, _, _, cellsAt_of h12, ?_⟩
  refine v_fillAt (pre := [.int .i64 R.fr, .int .i64 R.se]) (zs := [.int .i64 R.most, .slice p4 n4 _]) (post := [.slice p5 n5 c5]) (by simpa using h112) (by rfl) (by rfl) (by rfl) fun w14 h14' c14 _ => ?_
  have hrow14 : RowAt w14 22 1 r20 r20n r20c ((keepS R.most R.sets set).map (.int .u32)) := (hrow10.chg c12 (by simp)).chg c14 (fun i hi hm => by
    simp at hm
    rcases hf10 i hi with h' | h'
    · have := hlt4 i h'; omega
    · omega)
  have h214 := c14.obj (by simp; omega) h212
  have h314 := c14.obj (by simp; omega) h312
  have c014 : Chg [] w w14 := c012.trans c14 (fun i hi hlt => by simp at hi; omega)
  have s14 := c14.size
  have hn0 : 0 ≤ n ∧ n ≤ 65536 := by omega
  have h5len := h.n5
  refine ⟨fun s w' => ∃ (i : Nat) (q5 : Option Addr) (m5 k5 : Nat), s = (i : Int) ∧ (i : Int) ≤ n ∧ w'.heap[b1]? = some (.cells #[.int .i64 R.fr, .int .i64 R.se, .int .i64 R.most, .slice r20 r20n r20c, .slice q5 m5 k5] 36 (0, 0)) ∧ w'.heap[b2]? = some (.cells #[.int .i64 p1, .int .i64 p2] 56 (0, 0)) ∧
      w'.heap[b3]? = some (.cells #[.int .i64 0, .int .i64 0, .int .i64 0, .slice none 0 0, .slice none 0 0] 36 (0, 0)) ∧ RefAt w' { R with sets := keepS R.most R.sets set, pairs := refFill (p1, p2) set R.pairs i } r20 r20n r20c q5 m5 k5 ∧ Chg [] w w' ∧ w14.heap.size ≤ w'.heap.size ∧ (∀ j ∈ rowB q5, j ∈ rowB p5 ∨ w14.heap.size ≤ j),
    fun s _ => (n - s).toNat, ⟨0, p5, n5, c5, rfl, by omega, by simpa using h14', h214, h314, ⟨hrow14, (h.pairs.chg c012 (by simp)).chg c14 (fun i hi hm => by have := hlt5 i hi; simp at hm; omega)⟩, c014, Nat.le_refl _, fun i hi => .inl hi⟩, ?_⟩
  rintro _ w15 ⟨i, q5, m5, k5, rfl, hi, h115, h215, h315, hR15, c15, s15, hf15⟩
  refine ⟨fun hlt => ?_, fun hge => ?_⟩
  · have hlt' : (i : Int) < n := by simpa using hlt
    refine ⟨_, _, _, _, _, _, _, _, _, cellsAt_of h115, p1, by rw [cell_of h215]; rfl, p2, by rw [cell_of h215]; rfl, ?_⟩
    rw [wr (n := p2 + i) (by omega) (by omega)]
    have hm5 : m5 ≤ 100000000 := by
      have h1 := hR15.n5
      have h2 := refFill_length (p1, p2) set R.pairs i
      simp only [] at h1
      omega
    refine (ref_put hR15 hm5 p1 (p2 + i) set).mono ?_
    rintro _ w16 ⟨r1, r2, r3, r4, r4n, r4c, r5, r5n, r5c, rfl, rfl, rfl, rfl, rfl, rfl, rfl, hR16, c16, hf16⟩
    have s16 := c16.size
    refine ⟨_, _, _, _, _, _, _, _, _, rfl, ?_⟩
    refine v_fill (c16.obj (by simp) h115) (by rfl) (by rfl) fun w17 h17 c17 _ => ?_
    rw [wr (by omega) (by omega)]
    have hb4 : ∀ j ∈ rowB r4, j ∉ [b1] := fun j hj hm => by
      simp at hm
      rcases hf10 j hj with h' | h'
      · have := hlt4 j h'; omega
      · omega
    refine ⟨⟨i + 1, r5, r5n, r5c, by omega, by omega, h17, c17.obj (by simp; omega) (c16.obj (by simp) h215), c17.obj (by simp; omega) (c16.obj (by simp) h315), hR16.chg c17 hb4 (fun j hj hm => by have := hf16 j hj; simp at hm; omega), (c15.trans0 c16).trans c17 (fun j hj hlt => by simp at hj; omega), by have := c17.size; omega, fun j hj => .inr (by have := hf16 j hj; omega)⟩, by simp only []; omega⟩
  · have hge' : ¬ (i : Int) < n := by simpa using hge
    have hin : n.toNat = i := by omega
    refine ⟨_, _, _, _, _, _, _, _, _, cellsAt_of h115, ?_⟩
    refine v_fill h315 (by rfl) (by rfl) fun w18 h18 c18 _ => ?_
    have c018 : Chg [] w w18 := c15.trans c18 (fun j hj hlt => by simp at hj; omega)
    have hR : refMark R (p1, p2) n set = { R with sets := keepS R.most R.sets set, pairs := refFill (p1, p2) set R.pairs i } := by unfold refMark; rw [if_pos (by rw [hE]; exact hz'), hin]
    refine ⟨_, _, _, _, _, _, _, _, _, cellsAt_of h18, rfl, rfl, rfl, by rw [hE, hz'], ?_, c018, fun j hj => ?_⟩
    · rw [hR]
      refine hR15.chg c18 (fun j hj hm => ?_) (fun j hj hm => ?_)
      · simp at hm
        rcases hf10 j hj with h' | h'
        · have := hlt4 j h'; omega
        · omega
      · simp at hm
        rcases hf15 j hj with h' | h'
        · have := hlt5 j h'; omega
        · omega
    · simp only [List.mem_append] at hj ⊢
      rcases hj with hj | hj
      · rcases hf10 j hj with h' | h'
        · exact .inl (.inl h')
        · right; have := c06.size; omega
      · rcases hf15 j hj with h' | h'
        · exact .inl (.inr h')
        · right; omega
end Go.Proofs.Ytkfncibmfcdokaa
end

/- XRel -/
section
/- The program's flow and the document's one, as values: what they say alike behind marks and touches. -/
set_option linter.unusedVariables false
set_option linter.unusedSimpArgs false
namespace Go.Proofs.Ytkfncibmfcdokaa
open Go Go.RowKit Go.X

def lookPr (l : List Pr) (q : Int × Int) : Int := (lookK q l).getD 0

def PutInv (p : Int × Int) (set : Int) (l : List Pr) (s : List Pr × Bool) : Prop :=
  (∀ q, q ≠ p → lookK q s.1 = lookK q l) ∧ (s.2 = true → lookK p s.1 = if set = 0 then none else some set) ∧ (s.2 = false → lookK p s.1 = none ∧ set ≠ 0)

theorem putInv_step {p : Int × Int} {set : Int} {l : List Pr} {s : List Pr × Bool} (h : PutInv p set l s) (x : Pr) : PutInv p set (l ++ [x]) (stepPut p set s x) := by
  obtain ⟨out, put⟩ := s
  obtain ⟨h1, h2, h3⟩ := h
  simp only [] at h1 h2 h3
  have hone : ∀ (q : Int × Int) (y : Pr), lookK q [y] = if y.1 = q then some y.2 else none := fun q y => by rw [lookK_cons, lookK_nil]
  unfold stepPut
  cases put with
  | true =>
    simp only [Bool.not_true, Bool.false_and, Bool.false_eq_true, if_false, Bool.true_eq_false, and_false]
    have h2' := h2 rfl
    by_cases hx : x.1 = p
    · simp only [hx, if_true]
      refine ⟨fun q hq => ?_, fun _ => h2', fun h => by simp at h⟩
      rw [h1 q hq, lookK_append, hone, hx, if_neg (Ne.symm hq), Option.or_none]
    · simp only [hx, if_false]
      refine ⟨fun q hq => ?_, fun _ => ?_, fun h => by simp at h⟩
      · rw [lookK_append, lookK_append, h1 q hq]
      · rw [lookK_append, h2', hone, if_neg hx, Option.or_none]
  | false =>
    obtain ⟨h3', hs⟩ := h3 rfl
    by_cases ha : aheadP p x.1
    · have hx : x.1 ≠ p := fun e => by rw [e] at ha; unfold aheadP at ha; omega
      simp only [Bool.not_false, Bool.true_and, ha, decide_true, if_true, hx, if_false, Bool.true_eq_false, and_false, false_and]
      refine ⟨fun q hq => ?_, fun _ => ?_, fun h => by simp at h⟩
      · rw [lookK_append, lookK_append, lookK_append, hone, hone, h1 q hq]
        simp only [Ne.symm hq, if_false, Option.or_none]
      · rw [lookK_append, lookK_append, h3', hone, hone]
        simp [hs]
    · simp only [Bool.not_false, Bool.true_and, ha, decide_false, Bool.false_eq_true, if_false]
      by_cases hx : x.1 = p
      · simp only [hx, if_true, and_self]
        refine ⟨fun q hq => ?_, fun _ => ?_, fun h => by simp at h⟩
        · rw [lookK_append, lookK_append, hone, hone, h1 q hq, hx]; simp [Ne.symm hq]
        · rw [lookK_append, h3', hone]
          simp [hs]
      · simp only [hx, if_false, false_and]
        refine ⟨fun q hq => ?_, fun h => by simp at h, fun _ => ⟨?_, hs⟩⟩
        · rw [lookK_append, lookK_append, h1 q hq]
        · rw [lookK_append, h3', hone, if_neg hx]; rfl

theorem putInv_fold (p : Int × Int) (set : Int) (l : List Pr) : PutInv p set l (foldPut p set l) := by
  have : ∀ (l l0 : List Pr) (s : List Pr × Bool), PutInv p set l0 s → PutInv p set (l0 ++ l) (l.foldl (stepPut p set) s) := by
    intro l
    induction l with
    | nil => intro l0 s h; simpa using h
    | cons x l ih =>
      intro l0 s h
      have := ih (l0 ++ [x]) _ (putInv_step h x)
      simpa using this
  have := this l [] ([], set == 0) ⟨fun q _ => rfl, fun h => by simp at h; simp [h, lookK_nil], fun h => by simp at h; exact ⟨rfl, h⟩⟩
  simpa [foldPut] using this

theorem look_refPut (p : Int × Int) (set : Int) (l : List Pr) (q : Int × Int) : lookPr (refPut p set l) q = if q = p then set else lookPr l q := by
  obtain ⟨h1, h2, h3⟩ := putInv_fold p set l
  unfold refPut lookPr
  simp only []
  by_cases hs : (foldPut p set l).2 = true
  · rw [if_pos hs]
    by_cases hq : q = p
    · subst hq
      rw [h2 hs, if_pos rfl]
      by_cases h0 : set = 0
      · simp [h0]
      · simp [h0]
    · rw [h1 q hq, if_neg hq]
  · rw [if_neg hs]
    have hs' : (foldPut p set l).2 = false := by simpa using hs
    rw [lookK_append, lookK_cons, lookK_nil]
    by_cases hq : q = p
    · subst hq
      rw [(h3 hs').1]; simp
    · rw [h1 q hq, if_neg (Ne.symm hq), if_neg hq, Option.or_none]

structure RelF (F : Fl) (R : Rf) : Prop where
  fr : R.fr = F.fr
  se : R.se = F.se
  most : R.most = F.most
  sets : R.sets = F.sets
  look : ∀ q, lookPr R.pairs q = F.g q

theorem RelF.new (fr se most : Int) : RelF (flowNew fr se most) ⟨fr, se, most, [0], []⟩ := ⟨rfl, rfl, rfl, rfl, fun _ => rfl⟩
theorem look_refFill (p : Int × Int) (set : Int) (l : List Pr) (g : Int × Int → Int) (hg : ∀ q, lookPr l q = g q) (n : Nat) (q : Int × Int) : lookPr (refFill p set l n) q = fillP g p set n q := by
  induction n generalizing q with
  | zero => exact hg q
  | succ n ih =>
    simp only [refFill, fillP, putP]
    rw [look_refPut, ih]
theorem RelF.markE {F : Fl} {R : Rf} (h : RelF F R) (p : Int × Int) (n set : Int) : refMarkE R p n set = markE F p n set := by
  unfold refMarkE Proofs.Ytkfncibmfcdokaa.markE
  rw [h.fr, h.se, h.most, h.sets]
theorem RelF.mark {F : Fl} {R : Rf} (h : RelF F R) (p : Int × Int) (n set : Int) : RelF (markF F p n set) (refMark R p n set) := by
  unfold markF refMark
  rw [h.markE]
  by_cases he : Proofs.Ytkfncibmfcdokaa.markE F p n set = 0
  · rw [if_pos he, if_pos he]
    refine ⟨h.fr, h.se, h.most, ?_, fun q => ?_⟩
    · simp only [h.most, h.sets]
    · exact look_refFill p set R.pairs F.g h.look _ q
  · rw [if_neg he, if_neg he]; exact h

/-! ### Touches applied -/
def keepStep (most : Int) (g : Int × Int → Int) (s : List Int × List Pr × Int) (t : Tch) : List Int × List Pr × Int :=
  if s.2.2 ≠ 0 ∨ t.1 = (0, 0) then s else
    if keepE most s.1 (joinP g t.2) ≠ 0 then (s.1, s.2.1, keepE most s.1 (joinP g t.2)) else (keepS most s.1 (joinP g t.2), upd t.1 (joinP g t.2) s.2.1, 0)
def keepAll (most : Int) (g : Int × Int → Int) (ts : List Tch) (sets : List Int) : List Int × List Pr × Int := ts.foldl (keepStep most g) (sets, [], 0)
theorem keepAll_snoc (most : Int) (g : Int × Int → Int) (ts : List Tch) (sets : List Int) (t : Tch) : keepAll most g (ts ++ [t]) sets = keepStep most g (keepAll most g ts sets) t := by simp [keepAll]
theorem keepAll_bad {most : Int} {g : Int × Int → Int} {ts us : List Tch} {sets : List Int} (h : (keepAll most g ts sets).2.2 ≠ 0) : keepAll most g (ts ++ us) sets = keepAll most g ts sets := by
  have : ∀ (us : List Tch) (s : List Int × List Pr × Int), s.2.2 ≠ 0 → us.foldl (keepStep most g) s = s := by
    intro us
    induction us with
    | nil => intro s _; rfl
    | cons u us ih =>
      intro s hs
      have e : keepStep most g s u = s := by unfold keepStep; rw [if_pos (.inl hs)]
      rw [List.foldl_cons, e]; exact ih s hs
  unfold keepAll at h ⊢
  rw [List.foldl_append]; exact this us _ h
def rightAll (fr se : Int) (ts : List Tch) : Prop := ∀ t ∈ ts, rightT fr se t
instance (fr se : Int) (ts : List Tch) : Decidable (rightAll fr se ts) := by unfold rightAll; exact inferInstance
def applyE (F : Fl) (ts : List Tch) : Int := if rightAll F.fr F.se ts then (keepAll F.most F.g ts F.sets).2.2 else 2
def overP (g : Int × Int → Int) (now : List Pr) : Int × Int → Int := fun q => (lookK q now).getD (g q)
def applyF (F : Fl) (ts : List Tch) : Fl :=
  if rightAll F.fr F.se ts then { F with sets := (keepAll F.most F.g ts F.sets).1, g := if (keepAll F.most F.g ts F.sets).2.2 = 0 then overP F.g (keepAll F.most F.g ts F.sets).2.1 else F.g } else F
theorem overP_nil (g : Int × Int → Int) : overP g [] = g := by funext q; simp [overP, lookK_nil]
theorem overP_upd (g : Int × Int → Int) (now : List Pr) (p : Int × Int) (set : Int) : overP g (upd p set now) = putP (overP g now) p set := by
  funext q
  unfold overP putP
  rw [lookK_upd]
  by_cases h : q = p <;> simp [h]

def putStep (g : Int × Int → Int) (l : List Pr) (t : Tch) : List Pr := if t.1 = (0, 0) then l else refPut t.1 (joinP g t.2) l
def putAll (g : Int × Int → Int) (ts : List Tch) (l : List Pr) : List Pr := ts.foldl (putStep g) l
theorem putAll_snoc (g : Int × Int → Int) (ts : List Tch) (l : List Pr) (t : Tch) : putAll g (ts ++ [t]) l = putStep g (putAll g ts l) t := by simp [putAll]
def refApplyE (R : Rf) (ts : List Tch) : Int := if rightAll R.fr R.se ts then (keepAll R.most (lookPr R.pairs) ts R.sets).2.2 else 2
def refApply (R : Rf) (ts : List Tch) : Rf :=
  if rightAll R.fr R.se ts then { R with sets := (keepAll R.most (lookPr R.pairs) ts R.sets).1, pairs := if (keepAll R.most (lookPr R.pairs) ts R.sets).2.2 = 0 then putAll (lookPr R.pairs) ts R.pairs else R.pairs } else R

theorem look_putAll (most : Int) (g : Int × Int → Int) (ts : List Tch) (sets : List Int) (l : List Pr) (hl : ∀ q, lookPr l q = g q) (h0 : (keepAll most g ts sets).2.2 = 0) (q : Int × Int) :
    lookPr (putAll g ts l) q = overP g (keepAll most g ts sets).2.1 q := by
  have : ∀ (ts us : List Tch) (l : List Pr), (keepAll most g (us ++ ts) sets).2.2 = 0 → (∀ q, lookPr l q = overP g (keepAll most g us sets).2.1 q) →
      ∀ q, lookPr (ts.foldl (putStep g) l) q = overP g (keepAll most g (us ++ ts) sets).2.1 q := by
    intro ts
    induction ts with
    | nil => intro us l h0 hl q; simpa using hl q
    | cons t ts ih =>
      intro us l h0 hl q
      have e : us ++ t :: ts = (us ++ [t]) ++ ts := by simp
      rw [e] at h0 ⊢
      have h1 : (keepAll most g (us ++ [t]) sets).2.2 = 0 := by
        by_cases hb : (keepAll most g (us ++ [t]) sets).2.2 = 0
        · exact hb
        · exfalso; rw [keepAll_bad hb] at h0; exact hb h0
      have h2 : (keepAll most g us sets).2.2 = 0 := by
        by_cases hb : (keepAll most g us sets).2.2 = 0
        · exact hb
        · exfalso; rw [keepAll_bad hb] at h1; exact hb h1
      rw [List.foldl_cons]
      refine ih (us ++ [t]) _ h0 (fun q => ?_) q
      rw [keepAll_snoc]
      rw [keepAll_snoc] at h1
      unfold keepStep at h1 ⊢
      unfold putStep
      by_cases ht : t.1 = (0, 0)
      · rw [if_pos ht, if_pos (.inr ht)]; exact hl q
      · have hn : ¬ ((keepAll most g us sets).2.2 ≠ 0 ∨ t.1 = (0, 0)) := by rintro (h | h); exact h h2; exact ht h
        rw [if_neg hn] at h1 ⊢
        rw [if_neg ht]
        by_cases hk : keepE most (keepAll most g us sets).1 (joinP g t.2) ≠ 0
        · rw [if_pos hk] at h1; exact absurd h1 hk
        · rw [if_neg hk]
          simp only []
          rw [overP_upd, look_refPut]
          unfold putP
          rw [hl q]
  exact this ts [] l h0 (fun q => by rw [show (keepAll most g [] sets).2.1 = [] from rfl, overP_nil]; exact hl q) q

theorem RelF.g {F : Fl} {R : Rf} (h : RelF F R) : lookPr R.pairs = F.g := funext h.look
theorem RelF.applyE {F : Fl} {R : Rf} (h : RelF F R) (ts : List Tch) : refApplyE R ts = applyE F ts := by
  unfold refApplyE Proofs.Ytkfncibmfcdokaa.applyE
  rw [h.fr, h.se, h.most, h.sets, h.g]
theorem RelF.apply {F : Fl} {R : Rf} (h : RelF F R) (ts : List Tch) : RelF (applyF F ts) (refApply R ts) := by
  unfold applyF refApply
  rw [h.fr, h.se, h.most, h.sets, h.g]
  by_cases hr : rightAll F.fr F.se ts
  · rw [if_pos hr, if_pos hr]
    refine ⟨rfl, rfl, rfl, rfl, fun q => ?_⟩
    simp only []
    by_cases h0 : (keepAll F.most F.g ts F.sets).2.2 = 0
    · rw [if_pos h0, if_pos h0]
      exact look_putAll F.most F.g ts F.sets R.pairs h.look h0 q
    · rw [if_neg h0, if_neg h0]; exact h.look q
  · rw [if_neg hr, if_neg hr]; exact h

end Go.Proofs.Ytkfncibmfcdokaa
end

/- XLess -/
section
/- Two flows, one with a label left out of all marks: they go on alike. -/
set_option linter.unusedVariables false
set_option linter.unusedSimpArgs false
namespace Go.Proofs.Ytkfncibmfcdokaa
open Go Go.RowKit Go.X

/-- A set without the labels of out. -/
def less (out x : Int) : Int := bits .andNot .u32 x out
section
variable {out : Int}
theorem less_eq (h0 : 0 ≤ out) (h1 : out < 65536) {x : Int} (x0 : 0 ≤ x) (x1 : x < 4294967296) : less out x = ((x.toNat &&& (4294967295 - out.toNat) : Nat) : Int) := u32_andNot x out x0 x1 h0 (by omega)
theorem less_lt (h0 : 0 ≤ out) (h1 : out < 65536) {x : Int} (x0 : 0 ≤ x) (x1 : x < 4294967296) : 0 ≤ less out x ∧ less out x ≤ x := by
  rw [less_eq h0 h1 x0 x1]
  have : x.toNat &&& (4294967295 - out.toNat) ≤ x.toNat := Nat.and_le_left
  omega
theorem less_big (h0 : 0 ≤ out) (h1 : out < 65536) {x : Int} (x0 : 65536 ≤ x) (x1 : x < 4294967296) : 65536 ≤ less out x := by
  rw [less_eq h0 h1 (by omega) x1]
  have e : (x.toNat &&& (4294967295 - out.toNat)) / 65536 = x.toNat / 65536 := by
    have e1 : ∀ y : Nat, y / 65536 = y >>> 16 := fun y => by rw [Nat.shiftRight_eq_div_pow]
    rw [e1, e1, Nat.shiftRight_and_distrib, ← e1, ← e1]
    have e2 : (4294967295 - out.toNat) / 65536 = 2 ^ 16 - 1 := by omega
    rw [e2, Nat.and_two_pow_sub_one_of_lt_two_pow (by omega)]
  omega
theorem less_or (h0 : 0 ≤ out) (h1 : out < 65536) {x y : Int} (x0 : 0 ≤ x) (x1 : x < 65536) (y0 : 0 ≤ y) (y1 : y < 65536) : less out (bits .or .u32 x y) = bits .or .u32 (less out x) (less out y) := by
  have hx := less_lt h0 h1 x0 (by omega)
  have hy := less_lt h0 h1 y0 (by omega)
  have ho : x.toNat ||| y.toNat < 2 ^ 16 := Nat.or_lt_two_pow (by omega) (by omega)
  rw [u32_or x y x0 (by omega) y0 (by omega), u32_or _ _ hx.1 (by omega) hy.1 (by omega), less_eq h0 h1 (by omega) (by omega), less_eq h0 h1 x0 (by omega), less_eq h0 h1 y0 (by omega)]
  simp only [Int.toNat_natCast]
  rw [Nat.and_or_distrib_right]
theorem less_zero (h0 : 0 ≤ out) (h1 : out < 65536) : less out 0 = 0 := by
  have := less_lt h0 h1 (x := 0) (by omega) (by omega)
  omega
end

/-- Sets of a table that is never full. -/
def Free (sets : List Int) : Prop := sets.Nodup ∧ ∀ s ∈ sets, 0 ≤ s ∧ s < 65536
theorem Free.len {sets : List Int} (h : Free sets) {x : Int} (x0 : 0 ≤ x) (x1 : x < 65536) (hx : x ∉ sets) : ¬ (65536 : Int) ≤ sets.length := by
  have := nodup_sub_length (a := x :: sets) (b := (List.range 65536).map fun i : Nat => (i : Int)) (List.nodup_cons.2 ⟨hx, h.1⟩) fun y hy => by
    have hb : 0 ≤ y ∧ y < 65536 := by
      rcases List.mem_cons.1 hy with rfl | hy
      · exact ⟨x0, x1⟩
      · exact h.2 y hy
    exact List.mem_map.2 ⟨y.toNat, List.mem_range.2 (by omega), by omega⟩
  rw [List.length_cons, List.length_map, List.length_range] at this
  omega
theorem Free.keepE {sets : List Int} (h : Free sets) {x : Int} (x0 : 0 ≤ x) (x1 : x < 65536) : keepE 65536 sets x = 0 := by
  unfold Go.Proofs.Ytkfncibmfcdokaa.keepE
  rw [if_neg (by omega)]
  by_cases hx : x ∈ sets
  · rw [if_pos hx]
  · rw [if_neg hx, if_neg (h.len x0 x1 hx)]
theorem Free.keepS {sets : List Int} (h : Free sets) {x : Int} (x0 : 0 ≤ x) (x1 : x < 65536) : Free (keepS 65536 sets x) := by
  unfold Go.Proofs.Ytkfncibmfcdokaa.keepS
  split
  · exact h
  · rename_i hn
    have hx : x ∉ sets := fun hm => hn (.inr (.inl hm))
    refine ⟨?_, fun s hs => ?_⟩
    · rw [List.nodup_append]
      exact ⟨h.1, by simp, fun a ha b hb => by simp at hb; subst hb; exact fun e => hx (e ▸ ha)⟩
    · rcases List.mem_append.1 hs with hs | hs
      · exact h.2 s hs
      · simp at hs; subst hs; exact ⟨x0, x1⟩

/-- G is F with the labels of out left out. -/
structure Less (out : Int) (F G : Fl) : Prop where
  fr : G.fr = F.fr
  se : G.se = F.se
  mostF : F.most = 65536
  mostG : G.most = 65536
  freeF : Free F.sets
  freeG : Free G.sets
  each : ∀ p, 0 ≤ F.g p ∧ F.g p < 65536
  look : ∀ p, G.g p = less out (F.g p)

variable {out : Int} {F G : Fl}
theorem fillP_less {g g' : Int × Int → Int} (h : ∀ p, g' p = less out (g p)) (p : Int × Int) (set : Int) : ∀ (n : Nat) (q : Int × Int), fillP g' p (less out set) n q = less out (fillP g p set n q)
  | 0, q => h q
  | n + 1, q => by
    unfold fillP putP
    split
    · rfl
    · exact fillP_less h p set n q
theorem fillP_each {g : Int × Int → Int} (h : ∀ p, 0 ≤ g p ∧ g p < 65536) (p : Int × Int) {set : Int} (s0 : 0 ≤ set) (s1 : set < 65536) : ∀ (n : Nat) (q : Int × Int), 0 ≤ fillP g p set n q ∧ fillP g p set n q < 65536
  | 0, q => h q
  | n + 1, q => by
    unfold fillP putP
    split
    · exact ⟨s0, s1⟩
    · exact fillP_each h p s0 s1 n q
theorem Less.mark (h : Less out F G) (h0 : 0 ≤ out) (h1 : out < 65536) (p : Int × Int) (n : Int) {set : Int} (s0 : 0 ≤ set) (s1 : set < 4294967296) :
    markE G p n (less out set) = markE F p n set ∧ Less out (markF F p n set) (markF G p n (less out set)) := by
  have hl := less_lt h0 h1 s0 s1
  have hE : markE G p n (less out set) = markE F p n set := by
    unfold markE
    rw [h.fr, h.se]
    by_cases hb : 65536 ≤ set
    · have := less_big h0 h1 hb s1
      rw [if_pos (.inr this), if_pos (.inr hb)]
    · have e : (¬ mayP F.fr F.se p ∨ 65536 ≤ less out set) ↔ (¬ mayP F.fr F.se p ∨ 65536 ≤ set) := by constructor <;> (rintro (h | h) <;> first | exact .inl h | omega)
      simp only [e]
      split
      · rfl
      · split
        · rfl
        · rw [h.mostF, h.mostG, h.freeF.keepE s0 (by omega), h.freeG.keepE hl.1 (by omega)]
  refine ⟨hE, ?_⟩
  unfold markF
  rw [hE]
  by_cases hz : markE F p n set = 0
  · have hs : set < 65536 := by
      unfold markE at hz
      split at hz
      · simp at hz
      · rename_i hn
        rcases Int.lt_or_le set 65536 with h | h
        · exact h
        · exact absurd (.inr h) hn
    rw [if_pos hz, if_pos hz]
    refine ⟨h.fr, h.se, h.mostF, h.mostG, ?_, ?_, fillP_each h.each p s0 hs _, fillP_less h.look p set _⟩
    · show Free (keepS F.most F.sets set)
      rw [h.mostF]; exact h.freeF.keepS s0 hs
    · show Free (keepS G.most G.sets (less out set))
      rw [h.mostG]; exact h.freeG.keepS hl.1 (by omega)
  · rw [if_neg hz, if_neg hz]; exact h

theorem joinP_less (h : ∀ p, 0 ≤ F.g p ∧ F.g p < 65536) (hl : ∀ p, G.g p = less out (F.g p)) (h0 : 0 ≤ out) (h1 : out < 65536) (ps : List (Int × Int)) : (0 ≤ joinP F.g ps ∧ joinP F.g ps < 65536) ∧ joinP G.g ps = less out (joinP F.g ps) := by
  have : ∀ (ps : List (Int × Int)) (a : Int), 0 ≤ a → a < 65536 → (0 ≤ ps.foldl (fun s p => bits .or .u32 s (F.g p)) a ∧ ps.foldl (fun s p => bits .or .u32 s (F.g p)) a < 65536) ∧ ps.foldl (fun s p => bits .or .u32 s (G.g p)) (less out a) = less out (ps.foldl (fun s p => bits .or .u32 s (F.g p)) a) := by
    intro ps
    induction ps with
    | nil => intro a a0 a1; exact ⟨⟨a0, a1⟩, rfl⟩
    | cons p ps ih =>
      intro a a0 a1
      have hp := h p
      have ho : a.toNat ||| (F.g p).toNat < 2 ^ 16 := Nat.or_lt_two_pow (by omega) (by omega)
      have hb : 0 ≤ bits .or .u32 a (F.g p) ∧ bits .or .u32 a (F.g p) < 65536 := by
        rw [u32_or a (F.g p) a0 (by omega) hp.1 (by omega)]; omega
      simp only [List.foldl_cons]
      rw [hl p, ← less_or h0 h1 a0 a1 hp.1 hp.2]
      exact ih _ hb.1 hb.2
  have := this ps 0 (by omega) (by omega)
  rw [less_zero h0 h1] at this
  exact this

theorem keepAll_less (h : Less out F G) (h0 : 0 ≤ out) (h1 : out < 65536) (ts : List Tch) :
    (keepAll 65536 F.g ts F.sets).2.2 = 0 ∧ (keepAll 65536 G.g ts G.sets).2.2 = 0 ∧ Free (keepAll 65536 F.g ts F.sets).1 ∧ Free (keepAll 65536 G.g ts G.sets).1 ∧
      (∀ q, lookK q (keepAll 65536 G.g ts G.sets).2.1 = (lookK q (keepAll 65536 F.g ts F.sets).2.1).map (less out)) ∧ ∀ q v, lookK q (keepAll 65536 F.g ts F.sets).2.1 = some v → 0 ≤ v ∧ v < 65536 := by
  have key : ∀ (ts : List Tch) (s t : List Int × List Pr × Int), s.2.2 = 0 → t.2.2 = 0 → Free s.1 → Free t.1 → (∀ q, lookK q t.2.1 = (lookK q s.2.1).map (less out)) → (∀ q v, lookK q s.2.1 = some v → 0 ≤ v ∧ v < 65536) →
      let s' := ts.foldl (keepStep 65536 F.g) s
      let t' := ts.foldl (keepStep 65536 G.g) t
      s'.2.2 = 0 ∧ t'.2.2 = 0 ∧ Free s'.1 ∧ Free t'.1 ∧ (∀ q, lookK q t'.2.1 = (lookK q s'.2.1).map (less out)) ∧ ∀ q v, lookK q s'.2.1 = some v → 0 ≤ v ∧ v < 65536 := by
    intro ts
    induction ts with
    | nil => intro s t a b c d e f; exact ⟨a, b, c, d, e, f⟩
    | cons x ts ih =>
      intro s t a b c d e f
      obtain ⟨j1, j2⟩ := joinP_less h.each h.look h0 h1 x.2
      have hl := less_lt h0 h1 j1.1 (by omega)
      simp only [List.foldl_cons]
      by_cases hx : x.1 = (0, 0)
      · have e1 : keepStep 65536 F.g s x = s := by unfold keepStep; rw [if_pos (.inr hx)]
        have e2 : keepStep 65536 G.g t x = t := by unfold keepStep; rw [if_pos (.inr hx)]
        rw [e1, e2]; exact ih s t a b c d e f
      · have e1 : keepStep 65536 F.g s x = (keepS 65536 s.1 (joinP F.g x.2), upd x.1 (joinP F.g x.2) s.2.1, 0) := by
          unfold keepStep
          rw [if_neg (by rintro (h | h); exact h a; exact hx h), c.keepE j1.1 j1.2, if_neg (by simp)]
        have e2 : keepStep 65536 G.g t x = (keepS 65536 t.1 (joinP G.g x.2), upd x.1 (joinP G.g x.2) t.2.1, 0) := by
          unfold keepStep
          rw [if_neg (by rintro (h | h); exact h b; exact hx h), j2, d.keepE hl.1 (by omega), if_neg (by simp)]
        rw [e1, e2]
        refine ih _ _ rfl rfl (c.keepS j1.1 j1.2) (by rw [j2]; exact d.keepS hl.1 (by omega)) (fun q => ?_) (fun q v hv => ?_)
        · simp only [lookK_upd]
          by_cases hq : q = x.1
          · rw [if_pos hq, if_pos hq, j2]; rfl
          · rw [if_neg hq, if_neg hq]; exact e q
        · simp only [lookK_upd] at hv
          by_cases hq : q = x.1
          · rw [if_pos hq] at hv; cases hv; exact j1
          · rw [if_neg hq] at hv; exact f q v hv
  exact key ts (F.sets, [], 0) (G.sets, [], 0) rfl rfl h.freeF h.freeG (fun q => rfl) (fun q v hv => by simp [lookK_nil] at hv)

theorem Less.apply (h : Less out F G) (h0 : 0 ≤ out) (h1 : out < 65536) (ts : List Tch) : applyE G ts = applyE F ts ∧ Less out (applyF F ts) (applyF G ts) := by
  obtain ⟨a, b, c, d, e, f⟩ := keepAll_less h h0 h1 ts
  unfold applyE applyF
  rw [h.fr, h.se, h.mostF, h.mostG, a, b]
  by_cases hr : rightAll F.fr F.se ts
  · simp only [if_pos hr]
    refine ⟨trivial, rfl, rfl, rfl, rfl, c, d, fun p => ?_, fun p => ?_⟩
    · simp only [if_true]
      unfold overP
      cases hl : lookK p (keepAll 65536 F.g ts F.sets).2.1 with
      | none => exact h.each p
      | some v => exact f p v hl
    · simp only [if_true]
      unfold overP
      rw [e]
      cases hl : lookK p (keepAll 65536 F.g ts F.sets).2.1 with
      | none => exact h.look p
      | some v => rfl
  · simp only [if_neg hr]
    exact ⟨trivial, h⟩
end Go.Proofs.Ytkfncibmfcdokaa
end

/- XOpen -/
section
/- Arguments that came in, opened: slices of structs as lists. -/
set_option linter.unusedVariables false
set_option linter.unusedSimpArgs false
set_option linter.unusedSectionVars false
namespace Go.X
open Go Go.RowKit Go.ChangeShapes Go.WideShapes

theorem list_of {α : Type} {n : Nat} {Q : Nat → α → Prop} (h : ∀ i, i < n → ∃ x, Q i x) : ∃ l : List α, l.length = n ∧ ∀ (i : Nat) (x : α), l[i]? = some x → Q i x := by
  induction n with
  | zero => exact ⟨[], rfl, by simp⟩
  | succ n ih =>
    obtain ⟨l, hl, hq⟩ := ih (fun i hi => h i (by omega))
    obtain ⟨x, hx⟩ := h n (by omega)
    refine ⟨l ++ [x], by simp [hl], fun i y hy => ?_⟩
    by_cases hi : i < l.length
    · rw [List.getElem?_append_left hi] at hy; exact hq i y hy
    · rw [List.getElem?_append_right (by omega)] at hy
      have hi' : i - l.length = 0 := by
        have := (List.getElem?_eq_some_iff.1 hy).1
        simp at this; omega
      rw [hi'] at hy; simp at hy; subst hy
      have : i = n := by omega
      rw [this]; exact hx

section
variable {H : Type} {enc : TypeId × Value → H} {P : Program} {w : World} {base : Nat} {spare : Nat → Bool} {held : Bool}
theorem cellsAt_cells? {a : Addr} {n : Nat} {cs : List Value} (h : w.cells? base a n = some cs) : CellsAt w a 0 cs ∧ cs.length = n := by
  obtain ⟨_, h2, h3⟩ := World.cells?_some h
  refine ⟨?_, h2⟩
  have : ∀ (l : List Value) (i : Nat), (∀ k v, l[k]? = some v → w.cell? (a.add (i + k)) = some v) → CellsAt w a i l := by
    intro l
    induction l with
    | nil => intro i _; trivial
    | cons v l ih => intro i h; exact ⟨by simpa using h 0 v rfl, ih (i + 1) (fun k u hu => by rw [show i + 1 + k = i + (k + 1) by omega]; exact h (k + 1) u (by simpa using hu))⟩
  refine this cs 0 fun k v hk => ?_
  have hlt : k < n := by rw [← h2]; exact (List.getElem?_eq_some_iff.1 hk).1
  rw [Nat.zero_add, h3 k hlt, hk]
/-- A slice that came in. -/
theorem open_slice {t e : TypeId} {fuel : Nat} {cs : List Value} {x : DataW H × List MemPlace} (ht : P.underlying t = some (.slice e)) (h : DataW.trod enc P w base spare held fuel t cs = some x) :
    ∃ (p : Option Addr) (len cap : Nat), cs = [.slice p len cap] ∧ len ≤ maxLen ∧ ∀ i, i < len → ∃ (a : Addr) (cs' : List Value) (n : Nat) (y : DataW H × List MemPlace), p = some a ∧ CellsAt w (a.add (i * P.cellsOf e)) 0 cs' ∧ cs'.length = P.cellsOf e ∧ DataW.trod enc P w base spare held n e cs' = some y := by
  rcases DataW.trod_slice ht h with ⟨h0, _⟩ | ⟨a, len, cap, elems, rest, n, _, rfl, rfl, hb, hl, hm, hlen, hel, _, _⟩
  · exact ⟨none, 0, 0, h0, by simp [maxLen], fun i hi => absurd hi (by omega)⟩
  · refine ⟨some a, len, cap, rfl, by omega, fun i hi => ?_⟩
    have h1 := hel i hi
    rw [List.getElem?_eq_getElem (by omega)] at h1
    obtain ⟨cs', hcs, hy⟩ := Option.bind_eq_some_iff.1 h1
    obtain ⟨k1, k2⟩ := cellsAt_cells? hcs
    exact ⟨a, cs', n, _, rfl, k1, k2, hy⟩
theorem okWide_array {r : Reach} {t e : TypeId} {n b0 : Nat} {v : Value} (ht : P.underlying t = some (.array n e)) (h : Value.okWide P w r b0 t v) : ∃ cs, v = .agg cs ∧ cs.size = P.cellsOf t := by
  simp only [Value.okWide, ht] at h
  obtain ⟨cs, h1, h2, _⟩ := h
  exact ⟨cs, h1, h2⟩
theorem wf_i64 {n : Int} (h : (Lit.int .i64 n).wf = true) : -9223372036854775808 ≤ n ∧ n ≤ 9223372036854775807 := by
  simp [Lit.wf, IntKind.min, IntKind.max, IntKind.bits, IntKind.signed] at h
  omega
theorem wf_u32 {n : Int} (h : (Lit.int .u32 n).wf = true) : 0 ≤ n ∧ n < 4294967296 := by
  simp [Lit.wf, IntKind.min, IntKind.max, IntKind.bits, IntKind.signed] at h
  omega
/-- All arguments read as they did. -/
theorem all_below (hl : laidOutB P = true) {W W' : World} (hb : Below W.heap.size W W') : ∀ (ts : List TypeId) (vs : List Value) (ds : List (DataW H)) (ps : List MemPlace), (∀ t ∈ ts, P.readableRec t = true ∧ t < P.types.size) →
    DataW.TrodAll enc P W 0 (fun _ => true) true ts vs ds ps → (∀ x ∈ ps, x.block < W.heap.size) → DataW.TrodAll enc P W' 0 (fun b => decide (b < W.heap.size)) true ts vs ds ps
  | [], [], [], ps, _, h, _ => h
  | t :: ts, v :: vs, d :: ds, ps, ht, h, hlt => by
    obtain ⟨p, q, h1, h2, rfl⟩ := h
    exact ⟨p, q, Below.trod hl (ht t (.head _)).1 (ht t (.head _)).2 h1 hb (fun x hx => hlt x (List.mem_append.2 (.inl hx))), all_below hl hb ts vs ds q (fun t h => ht t (.tail _ h)) h2 (fun x hx => hlt x (List.mem_append.2 (.inr hx))), rfl⟩
  | [], [], _ :: _, _, _, h, _ => h.elim
  | [], _ :: _, _, _, _, h, _ => h.elim
  | _ :: _, [], _, _, _, h, _ => h.elim
  | _ :: _, _ :: _, [], _, _, h, _ => h.elim
end
end Go.X
end
