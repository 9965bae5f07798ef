/- Texts of the claim, merged: XQ2 XQ4 XKnown14 XMade14 XPlain14 XQ3 XRefQ1 XBytes14 XHnotes XNotesW XQ6 XG6 XCollect XSort XShCopy XAll XG7 XR03 XShadow3 XG9 XIs XG4 XG5 XClone XGall XFlowAll XDrawn XGfall XFAll XGz1 XGz3 XFSame XRef1 XRef2 XRef3 XRef4 XRel XOpen XOpen2 XPol1 XG1 XApply XPol2. -/
import Derived.Test.YtfcfkhbkkfpehaaGreatDoorXK2
import Derived.Test.YtfcfkhbkkfpehaaGreatDoorProg
import Derived.Shelf.SortM.Plain
import Derived.Shelf.SortM.SortNone
import Derived.Sort.OwnSortedInts
import Derived.Laws.OwnMore
import Derived.Laws.Externs
import Derived.Laws.Cover3
import Derived.MapKept
import Derived.OrdersIn
import Derived.WalkKit
import Derived.ProofKit
import Derived.OpenShut
import Derived.ChangeOld
import Derived.Carry
set_option linter.unusedSectionVars false
set_option linter.unusedSimpArgs false
set_option linter.unusedVariables false
section
namespace Go.Proofs.YtfcfkhbkkfpehaaGreatDoor
open Go Go.X
/- pomander/pomanderlaw14.known -/
def W_pomanderlaw14_known  (w : World) (R : Bool → World → Prop) : Prop :=
 Calls Tryz.prog 23 #[] w fun e w1 => ∃ (r2 : Option Addr), e = .returned (.pointer r2) ∧ (∀ (b3 b2 b1 : Nat) (w7 : World), (w1.heap.size ≤ b3 ∧ b3 < w7.heap.size) → (w1.heap.size ≤ b2 ∧ b2 < w7.heap.size) → (w1.heap.size ≤ b1 ∧ b1 < w7.heap.size) → Chg [] w1 w7 → (∀ b4 : Nat, b4 = World.size w7 → ∀ w8 : World, w8 = World.alloc w7 (.cells #[.int .i64 13, .int .i64 0] 25) → (∀ b5 : Nat, b5 = World.size w8 → ∀ w9 : World, w9 = World.alloc w8 (.cells #[.int .i64 1, .int .i64 1, .slice (some (⟨b4, 0, none⟩ : Addr)) 1 1] 36) → (Calls Tryz.prog 7 #[.pointer r2, .int .i64 1, .slice (some (⟨b5, 0, none⟩ : Addr)) 1 1] w9 fun e w10 => ∃ (r3 : Int), e = .returned (.int .i64 r3) ∧ (Same w9 w10 [b3, b2, b1] ∧ (∀ b6 : Nat, b6 = World.size w10 → ∀ w11 : World, w11 = World.alloc w10 (.cells #[.int .i64 1, .int .i64 1] 25) → (∀ b7 : Nat, b7 = World.size w11 → ∀ w12 : World, w12 = World.alloc w11 (.cells #[.int .i64 10, .int .i64 5, .slice (some (⟨b6, 0, none⟩ : Addr)) 1 1] 36) → (Calls Tryz.prog 7 #[.pointer r2, .int .i64 2, .slice (some (⟨b7, 0, none⟩ : Addr)) 1 1] w12 fun e w13 => ∃ (r4 : Int), e = .returned (.int .i64 r4) ∧ (Same w12 w13 [b3, b1] ∧ (Calls Tryz.prog 13 #[.pointer r2, .agg #[.int .i64 10, .int .i64 5], .int .i64 9] w13 fun e w14 => ∃ (r5 : Option Addr) (r5n : Nat) (r5c : Nat), e = .returned (.slice r5 r5n r5c) ∧ (Same w13 w14 [b3, b1] ∧ (∀ (w15 : World), Chg [] w14 w15 → (∃ J1 : Bool → World → Prop, (∀ (b8 : Bool) (w16 : World), J1 b8 w16 → ∃ J2 : Bool → World → Prop, (∀ (b9 : Bool) (w17 : World), J2 b9 w17 → R b9 w17) ∧ ((b8 = true → Calls Tryz.prog 20 #[.agg #[.int .i64 10, .int .i64 5]] w16 fun e w18 => ∃ (r6 : ByteArray), e = .returned (.string r6) ∧ (∃ (t3 : Bool), (∀ w : World, ((do eqGuard .eql 9 (.tmp 49) (.const (.string ⟨#[109, 101, 109, 32, 53]⟩)) (.string r6) (.string ⟨#[109, 101, 109, 32, 53]⟩); binOp .eql 9 (.string r6) (.string ⟨#[109, 101, 109, 32, 53]⟩) : Sem Value)).run Tryz.prog w = .ok (.bool t3) w) ∧ (J2 t3 w18))) ∧ (b8 = false → J2 false w16))) ∧ ((((r3 == 0 && r4 == 0) && (r5n : Int) == 1) = true → ∃ a1 : Addr, r5 = some a1 ∧ (0 : Int) ≤ 0 ∧ 0 < (r5n : Int) ∧ (∃ (t1 : Int) (t2 : Int), CellsAt w15 (a1.add (Int.toNat 0 * 2)) 0 [.int .i64 t1, .int .i64 t2] ∧ (J1 ((t1 == 13) && (t2 == 0)) w15))) ∧ (((r3 == 0 && r4 == 0) && (r5n : Int) == 1) = false → J1 false w15)))))))))))))))
set_option maxRecDepth 100000 in
theorem go_pomanderlaw14_known  (w : World) (R : Bool → World → Prop) (h : W_pomanderlaw14_known  w R) : Calls Tryz.prog 6 #[] w (fun e w' => ∃ (r1 : Bool), e = .returned (.bool r1) ∧ R r1 w') := by
 unfold W_pomanderlaw14_known at h
 refine enter (N := 52) Tryz.func6 rfl rfl ?_
 refine CW.seq ?_
 refine CW.region fun L hL => ?_
 refine LW.rd hL rfl (Wants.free rfl) rfl (Rd.assign (v := .bool false) rfl) ?_
 refine LW.nil hL rfl ?_
 refine NW.then ?_
 refine CW.seq ?_
 refine CW.region fun L hL => ?_
 refine LW.call hL rfl (Wants.free rfl) rfl (Cl.fn (f := 23) rfl Tryz.func23 (by kernel_rfl) rfl) h (fun e w1 h_ => ?_)
 clear h
 obtain ⟨r2, rfl, h⟩ := h_
 refine ⟨_, rfl, ?_⟩
 refine LW.rd hL rfl (Wants.free rfl) rfl (Rd.assign (v := .pointer r2) rfl) ?_
 refine LW.nil hL rfl ?_
 refine NW.then ?_
 refine CW.seq ?_
 refine CW.region fun L hL => ?_
 refine LW.rd hL rfl (Wants.free rfl) rfl (Rd.build (v := .agg #[.int .i64 13, .int .i64 0]) rfl (fun _ => by kernel_rfl)) ?_
 refine LW.rd hL rfl (Wants.free rfl) rfl (Rd.build (v := .agg #[.int .i64 1, .int .i64 1]) rfl (fun _ => by kernel_rfl)) ?_
 refine LW.rd hL rfl (Wants.free rfl) rfl (Rd.build (v := .agg #[.int .i64 10, .int .i64 5]) rfl (fun _ => by kernel_rfl)) ?_
 obtain ⟨b1, hb_b1⟩ : ∃ b1, b1 = World.size w1 := ⟨_, rfl⟩
 obtain ⟨w2, hw_w2⟩ : ∃ w2, w2 = World.alloc w1 (.cells #[.int .i64 0, .int .i64 0] 25) := ⟨_, rfl⟩
 refine LW.val hL rfl (Wants.free rfl) rfl (boxE hb_b1 hw_w2 (Vl.alloc (z := .agg #[.int .i64 0, .int .i64 0]) (by kernel_rfl))) ?_
 have hB := Boxes.alloc (cs := [.int .i64 0, .int .i64 0]) (T := 25) (Boxes.nil w1) hb_b1 hw_w2
 have hlo_b1 := sil_lo (Chg.refl [] w1) hb_b1
 have hc_w2 := sil_alloc (Chg.refl [] w1) hw_w2
 obtain ⟨b2, hb_b2⟩ : ∃ b2, b2 = World.size w2 := ⟨_, rfl⟩
 obtain ⟨w3, hw_w3⟩ : ∃ w3, w3 = World.alloc w2 (.cells #[.int .i64 0, .int .i64 0] 25) := ⟨_, rfl⟩
 refine LW.val hL rfl (Wants.free rfl) rfl (boxE hb_b2 hw_w3 (Vl.alloc (z := .agg #[.int .i64 0, .int .i64 0]) (by kernel_rfl))) ?_
 replace hB := Boxes.alloc (cs := [.int .i64 0, .int .i64 0]) (T := 25) hB hb_b2 hw_w3
 have hlo_b2 := sil_lo hc_w2 hb_b2
 have hc_w3 := sil_alloc hc_w2 hw_w3
 obtain ⟨b3, hb_b3⟩ : ∃ b3, b3 = World.size w3 := ⟨_, rfl⟩
 obtain ⟨w4, hw_w4⟩ : ∃ w4, w4 = World.alloc w3 (.cells #[.int .i64 0, .int .i64 0] 25) := ⟨_, rfl⟩
 refine LW.val hL rfl (Wants.free rfl) rfl (boxE hb_b3 hw_w4 (Vl.alloc (z := .agg #[.int .i64 0, .int .i64 0]) (by kernel_rfl))) ?_
 replace hB := Boxes.alloc (cs := [.int .i64 0, .int .i64 0]) (T := 25) hB hb_b3 hw_w4
 have hlo_b3 := sil_lo hc_w3 hb_b3
 have hc_w4 := sil_alloc hc_w3 hw_w4
 obtain ⟨w5, hw_w5⟩ : ∃ x, x = setCells w4 (⟨b1, 0, none⟩ : Addr) 0 [.int .i64 13, .int .i64 0] := ⟨_, rfl⟩
 refine LW.eff hL rfl (Wants.free rfl) rfl (stNE hw_w5 (Ef.stN (cs := [.int .i64 13, .int .i64 0]) rfl rfl (by kernel_rfl) (List.forall_mem_cons.2 ⟨rfl, (List.forall_mem_cons.2 ⟨rfl, (List.forall_mem_nil _)⟩)⟩) (has_of (hB.at (i := 2) rfl) (by simp)) (free_of' (hB.at (i := 2) rfl)))) ?_
 replace hB : Boxes w5 [(b3, [.int .i64 0, .int .i64 0], 25), (b2, [.int .i64 0, .int .i64 0], 25), (b1, [.int .i64 13, .int .i64 0], 25)] := Boxes.store (vs := [.int .i64 13, .int .i64 0]) (i := 2) (o := 0) hB rfl rfl rfl rfl hw_w5
 have hc_w5 := sil_new hc_w4 (sil_cN hw_w5) hlo_b1
 obtain ⟨w6, hw_w6⟩ : ∃ x, x = setCells w5 (⟨b2, 0, none⟩ : Addr) 0 [.int .i64 1, .int .i64 1] := ⟨_, rfl⟩
 refine LW.eff hL rfl (Wants.free rfl) rfl (stNE hw_w6 (Ef.stN (cs := [.int .i64 1, .int .i64 1]) rfl rfl (by kernel_rfl) (List.forall_mem_cons.2 ⟨rfl, (List.forall_mem_cons.2 ⟨rfl, (List.forall_mem_nil _)⟩)⟩) (has_of (hB.at (i := 1) rfl) (by simp)) (free_of' (hB.at (i := 1) rfl)))) ?_
 replace hB : Boxes w6 [(b3, [.int .i64 0, .int .i64 0], 25), (b2, [.int .i64 1, .int .i64 1], 25), (b1, [.int .i64 13, .int .i64 0], 25)] := Boxes.store (vs := [.int .i64 1, .int .i64 1]) (i := 1) (o := 0) hB rfl rfl rfl rfl hw_w6
 have hc_w6 := sil_new hc_w5 (sil_cN hw_w6) hlo_b2
 obtain ⟨w7, hw_w7⟩ : ∃ x, x = setCells w6 (⟨b3, 0, none⟩ : Addr) 0 [.int .i64 10, .int .i64 5] := ⟨_, rfl⟩
 refine LW.eff hL rfl (Wants.free rfl) rfl (stNE hw_w7 (Ef.stN (cs := [.int .i64 10, .int .i64 5]) rfl rfl (by kernel_rfl) (List.forall_mem_cons.2 ⟨rfl, (List.forall_mem_cons.2 ⟨rfl, (List.forall_mem_nil _)⟩)⟩) (has_of (hB.at (i := 0) rfl) (by simp)) (free_of' (hB.at (i := 0) rfl)))) ?_
 replace hB : Boxes w7 [(b3, [.int .i64 10, .int .i64 5], 25), (b2, [.int .i64 1, .int .i64 1], 25), (b1, [.int .i64 13, .int .i64 0], 25)] := Boxes.store (vs := [.int .i64 10, .int .i64 5]) (i := 0) (o := 0) hB rfl rfl rfl rfl hw_w7
 have hc_w7 := sil_new hc_w6 (sil_cN hw_w7) hlo_b3
 refine LW.nil hL rfl ?_
 refine NW.then ?_
 refine CW.seq ?_
 refine CW.region fun L hL => ?_
 refine LW.rd hL rfl (Wants.free rfl) rfl (Rd.move (v := .pointer r2) rfl) ?_
 refine LW.rd hL rfl (Wants.free rfl) rfl (Rd.ldN (cs := [.int .i64 1, .int .i64 1]) rfl (by kernel_rfl) (by kernel_rfl) (cellsS (box_cells (hB.at (i := 1) rfl) rfl))) ?_
 refine LW.rd hL rfl (Wants.free rfl) rfl (Rd.ldN (cs := [.int .i64 13, .int .i64 0]) rfl (by kernel_rfl) (by kernel_rfl) (cellsS (box_cells (hB.at (i := 2) rfl) rfl))) ?_
 replace h := h b3 b2 b1 w7 ⟨hlo_b3, lt_of_heap (hB.at (i := 0) rfl)⟩ ⟨hlo_b2, lt_of_heap (hB.at (i := 1) rfl)⟩ ⟨hlo_b1, lt_of_heap (hB.at (i := 2) rfl)⟩ hc_w7
 obtain ⟨b4, hb_b4⟩ : ∃ b4, b4 = World.size w7 := ⟨_, rfl⟩
 obtain ⟨w8, hw_w8⟩ : ∃ w8, w8 = World.alloc w7 (.cells #[.int .i64 13, .int .i64 0] 25) := ⟨_, rfl⟩
 replace h := h b4 hb_b4 w8 hw_w8
 refine LW.val hL rfl (Wants.free rfl) rfl (sliceE (n := 1) hb_b4 hw_w8 (fun w => Vl.buildSlice (vs := [(0, .agg #[.int .i64 13, .int .i64 0])]) rfl (by kernel_rfl))) ?_
 replace hB := hB.grow hw_w8
 refine LW.rd hL rfl (Wants.free rfl) rfl (Rd.build (v := .agg #[.int .i64 1, .int .i64 1, .slice (some (⟨b4, 0, none⟩ : Addr)) 1 1]) rfl (fun _ => by kernel_rfl)) ?_
 obtain ⟨b5, hb_b5⟩ : ∃ b5, b5 = World.size w8 := ⟨_, rfl⟩
 obtain ⟨w9, hw_w9⟩ : ∃ w9, w9 = World.alloc w8 (.cells #[.int .i64 1, .int .i64 1, .slice (some (⟨b4, 0, none⟩ : Addr)) 1 1] 36) := ⟨_, rfl⟩
 replace h := h b5 hb_b5 w9 hw_w9
 refine LW.val hL rfl (Wants.free rfl) rfl (sliceE (n := 1) hb_b5 hw_w9 (fun w => Vl.buildSlice (vs := [(0, .agg #[.int .i64 1, .int .i64 1, .slice (some (⟨b4, 0, none⟩ : Addr)) 1 1])]) rfl (by kernel_rfl))) ?_
 replace hB := hB.grow hw_w9
 refine LW.call hL rfl (Wants.free rfl) rfl (Cl.fn (f := 7) rfl Tryz.func7 (by kernel_rfl) rfl) h (fun e w10 h_ => ?_)
 clear h
 obtain ⟨r3, rfl, h⟩ := h_
 obtain ⟨hsm1, h⟩ := h
 replace hB := Boxes.sameS hB hsm1 (by simp)
 refine ⟨_, rfl, ?_⟩
 refine LW.rd hL rfl (Wants.free rfl) rfl (Rd.assign (v := .int .i64 r3) rfl) ?_
 refine LW.nil hL rfl ?_
 refine NW.then ?_
 refine CW.seq ?_
 refine CW.region fun L hL => ?_
 refine LW.rd hL rfl (Wants.free rfl) rfl (Rd.move (v := .pointer r2) rfl) ?_
 refine LW.rd hL rfl (Wants.free rfl) rfl (Rd.ldN (cs := [.int .i64 10, .int .i64 5]) rfl (by kernel_rfl) (by kernel_rfl) (cellsS (box_cells (hB.at (i := 0) rfl) rfl))) ?_
 refine LW.rd hL rfl (Wants.free rfl) rfl (Rd.ldN (cs := [.int .i64 1, .int .i64 1]) rfl (by kernel_rfl) (by kernel_rfl) (cellsS (box_cells (hB.at (i := 1) rfl) rfl))) ?_
 obtain ⟨b6, hb_b6⟩ : ∃ b6, b6 = World.size w10 := ⟨_, rfl⟩
 obtain ⟨w11, hw_w11⟩ : ∃ w11, w11 = World.alloc w10 (.cells #[.int .i64 1, .int .i64 1] 25) := ⟨_, rfl⟩
 replace h := h b6 hb_b6 w11 hw_w11
 refine LW.val hL rfl (Wants.free rfl) rfl (sliceE (n := 1) hb_b6 hw_w11 (fun w => Vl.buildSlice (vs := [(0, .agg #[.int .i64 1, .int .i64 1])]) rfl (by kernel_rfl))) ?_
 replace hB := hB.grow hw_w11
 refine LW.rd hL rfl (Wants.free rfl) rfl (Rd.build (v := .agg #[.int .i64 10, .int .i64 5, .slice (some (⟨b6, 0, none⟩ : Addr)) 1 1]) rfl (fun _ => by kernel_rfl)) ?_
 obtain ⟨b7, hb_b7⟩ : ∃ b7, b7 = World.size w11 := ⟨_, rfl⟩
 obtain ⟨w12, hw_w12⟩ : ∃ w12, w12 = World.alloc w11 (.cells #[.int .i64 10, .int .i64 5, .slice (some (⟨b6, 0, none⟩ : Addr)) 1 1] 36) := ⟨_, rfl⟩
 replace h := h b7 hb_b7 w12 hw_w12
 refine LW.val hL rfl (Wants.free rfl) rfl (sliceE (n := 1) hb_b7 hw_w12 (fun w => Vl.buildSlice (vs := [(0, .agg #[.int .i64 10, .int .i64 5, .slice (some (⟨b6, 0, none⟩ : Addr)) 1 1])]) rfl (by kernel_rfl))) ?_
 replace hB := hB.grow hw_w12
 refine LW.call hL rfl (Wants.free rfl) rfl (Cl.fn (f := 7) rfl Tryz.func7 (by kernel_rfl) rfl) h (fun e w13 h_ => ?_)
 clear h
 obtain ⟨r4, rfl, h⟩ := h_
 obtain ⟨hsm2, h⟩ := h
 replace hB := Boxes.sameS (hB.sel [0, 2] (by decide) rfl) hsm2 (by simp)
 refine ⟨_, rfl, ?_⟩
 refine LW.rd hL rfl (Wants.free rfl) rfl (Rd.assign (v := .int .i64 r4) rfl) ?_
 refine LW.nil hL rfl ?_
 refine NW.then ?_
 refine CW.seq ?_
 refine CW.region fun L hL => ?_
 refine LW.rd hL rfl (Wants.free rfl) rfl (Rd.move (v := .pointer r2) rfl) ?_
 refine LW.rd hL rfl (Wants.free rfl) rfl (Rd.ldN (cs := [.int .i64 10, .int .i64 5]) rfl (by kernel_rfl) (by kernel_rfl) (cellsS (box_cells (hB.at (i := 0) rfl) rfl))) ?_
 refine LW.call hL rfl (Wants.free rfl) rfl (Cl.fn (f := 13) rfl Tryz.func13 (by kernel_rfl) rfl) h (fun e w14 h_ => ?_)
 clear h
 obtain ⟨r5, r5n, r5c, rfl, h⟩ := h_
 obtain ⟨hsm3, h⟩ := h
 replace hB := Boxes.sameS hB hsm3 (by simp)
 refine ⟨_, rfl, ?_⟩
 refine LW.rd hL rfl (Wants.free rfl) rfl (Rd.assign (v := .slice r5 r5n r5c) rfl) ?_
 refine LW.nil hL rfl ?_
 refine NW.then ?_
 refine CW.seq ?_
 obtain ⟨w15, hw_w15⟩ : ∃ x, x = World.drew w14 := ⟨_, rfl⟩
 have hc_w15 := sil_drew (Chg.refl [] w14) hw_w15
 replace hB := hB.drew hw_w15
 refine CW.drawn (fun w => w = w15) 20 (by kernel_rfl) fun H hH => ?_
 rw [← hw_w15]
 refine HW.pure (i := 0) hH rfl (by kernel_rfl) (Wants.free rfl) rfl (fun _ => rfl) (Rd.move (v := .int .i64 r3) rfl) ?_
 refine HW.pure (i := 1) hH rfl (by kernel_rfl) (Wants.free rfl) rfl (fun _ => rfl) (Rd.bin (v := .bool (r3 == 0)) rfl rfl (fun w => by kernel_rfl)) ?_
 refine HW.pure (i := 2) hH rfl (by kernel_rfl) (Wants.free rfl) rfl (fun _ => rfl) (Rd.move (v := .bool (r3 == 0)) rfl) ?_
 suffices K1 : H 18 #[true, true, true, true, true, true, false, false, false, false, false, false, false, false, false, false, false, false, false, false, false, false, false, false] [(0, .bool false), (2, .pointer (some (⟨b1, 0, none⟩ : Addr))), (4, .pointer (some (⟨b3, 0, none⟩ : Addr))), (7, .slice r5 r5n r5c), (34, .bool (r3 == 0 && r4 == 0))] w15 by
  rcases Bool.eq_false_or_eq_true (r3 == 0) with hb2 | hb2
  ·skip
   refine HW.pure (i := 3) hH rfl (by kernel_rfl) (Wants.on rfl rfl rfl rfl rfl hb2) rfl (fun _ => rfl) (Rd.move (v := .int .i64 r4) rfl) ?_
   refine HW.pure (i := 4) hH rfl (by kernel_rfl) (Wants.on rfl rfl rfl rfl rfl hb2) rfl (fun _ => rfl) (Rd.bin (v := .bool (r4 == 0)) rfl rfl (fun w => by kernel_rfl)) ?_
   refine HW.pure (i := 5) hH rfl (by kernel_rfl) (Wants.free rfl) rfl (fun _ => rfl) (Rd.pickT rfl hb2 rfl) ?_
   exact HW.sub hH (by exact ⟨rfl, rfl, rfl, rfl, (by rw [hb2]; rfl), trivial⟩) K1
  ·skip
   refine HW.skip (i := 3) hH rfl (by kernel_rfl) (Skips.on rfl rfl rfl rfl rfl hb2) rfl (fun _ => rfl) ?_
   refine HW.skip (i := 4) hH rfl (by kernel_rfl) (Skips.on rfl rfl rfl rfl rfl hb2) rfl (fun _ => rfl) ?_
   refine HW.pure (i := 5) hH rfl (by kernel_rfl) (Wants.free rfl) rfl (fun _ => rfl) (Rd.pickF rfl hb2 rfl) ?_
   exact HW.sub hH (by exact ⟨rfl, rfl, rfl, rfl, (by rw [hb2]; rfl), trivial⟩) K1
 refine HW.pure (i := 6) hH rfl (by kernel_rfl) (Wants.free rfl) rfl (fun _ => rfl) (Rd.move (v := .bool (r3 == 0 && r4 == 0)) rfl) ?_
 suffices K2 : H 13 #[true, true, true, true, true, true, true, true, true, true, true, false, false, false, false, false, false, false, false, false, false, false, false, false] [(0, .bool false), (2, .pointer (some (⟨b1, 0, none⟩ : Addr))), (4, .pointer (some (⟨b3, 0, none⟩ : Addr))), (7, .slice r5 r5n r5c), (39, .bool ((r3 == 0 && r4 == 0) && (r5n : Int) == 1))] w15 by
  rcases Bool.eq_false_or_eq_true (r3 == 0 && r4 == 0) with hb4 | hb4
  ·skip
   refine HW.pure (i := 7) hH rfl (by kernel_rfl) (Wants.on rfl rfl rfl rfl rfl hb4) rfl (fun _ => rfl) (Rd.move (v := .slice r5 r5n r5c) rfl) ?_
   refine HW.pure (i := 8) hH rfl (by kernel_rfl) (Wants.on rfl rfl rfl rfl rfl hb4) rfl (fun _ => rfl) (Rd.builtin (v := .int .i64 (r5n : Int)) rfl (fun _ _ => by kernel_rfl)) ?_
   refine HW.pure (i := 9) hH rfl (by kernel_rfl) (Wants.on rfl rfl rfl rfl rfl hb4) rfl (fun _ => rfl) (Rd.bin (v := .bool ((r5n : Int) == 1)) rfl rfl (fun w => by kernel_rfl)) ?_
   refine HW.pure (i := 10) hH rfl (by kernel_rfl) (Wants.free rfl) rfl (fun _ => rfl) (Rd.pickT rfl hb4 rfl) ?_
   exact HW.sub hH (by exact ⟨rfl, rfl, rfl, rfl, (by rw [hb4]; rfl), trivial⟩) K2
  ·skip
   refine HW.skip (i := 7) hH rfl (by kernel_rfl) (Skips.on rfl rfl rfl rfl rfl hb4) rfl (fun _ => rfl) ?_
   refine HW.skip (i := 8) hH rfl (by kernel_rfl) (Skips.on rfl rfl rfl rfl rfl hb4) rfl (fun _ => rfl) ?_
   refine HW.skip (i := 9) hH rfl (by kernel_rfl) (Skips.on rfl rfl rfl rfl rfl hb4) rfl (fun _ => rfl) ?_
   refine HW.pure (i := 10) hH rfl (by kernel_rfl) (Wants.free rfl) rfl (fun _ => rfl) (Rd.pickF rfl hb4 rfl) ?_
   exact HW.sub hH (by exact ⟨rfl, rfl, rfl, rfl, (by rw [hb4]; rfl), trivial⟩) K2
 refine HW.pure (i := 11) hH rfl (by kernel_rfl) (Wants.free rfl) rfl (fun _ => rfl) (Rd.move (v := .bool ((r3 == 0 && r4 == 0) && (r5n : Int) == 1)) rfl) ?_
 replace h := h  w15  hc_w15
 obtain ⟨J1, hJ1, h1_J1, h0_J1⟩ := h
 suffices K3 : ∀ (b8 : Bool) (w16 : World), (w16 = w15) → Boxes w16 [(b3, [.int .i64 10, .int .i64 5], 25)] → J1 b8 w16 → H 6 #[true, true, true, true, true, true, true, true, true, true, true, true, true, true, true, true, true, true, false, false, false, false, false, false] [(0, .bool false), (4, .pointer (some (⟨b3, 0, none⟩ : Addr))), (46, .bool b8)] w16 by
  rcases Bool.eq_false_or_eq_true ((r3 == 0 && r4 == 0) && (r5n : Int) == 1) with hb5 | hb5
  ·have h := h1_J1 hb5
   refine HW.pure (i := 12) hH rfl (by kernel_rfl) (Wants.on rfl rfl rfl rfl rfl hb5) rfl (fun _ => rfl) (Rd.move (v := .slice r5 r5n r5c) rfl) ?_
   obtain ⟨a1, he1, hi1, hi2, h⟩ := h
   refine HW.pure (i := 13) hH rfl (by kernel_rfl) (Wants.on rfl rfl rfl rfl rfl hb5) rfl (fun _ => rfl) (Rd.iaS (q := a1) (sz := 2) (by rw [← he1]; rfl) rfl Tryz.underlying34 (by kernel_rfl) hi1 hi2) ?_
   obtain ⟨t1, t2, hc1, h⟩ := h
   refine HW.take (i := 14) hH rfl (by kernel_rfl) (by kernel_rfl) (Wants.on rfl rfl rfl rfl rfl hb5) rfl (fun _ => rfl) (Rd.ldN (cs := [.int .i64 t1, .int .i64 t2]) rfl (by kernel_rfl) (by kernel_rfl) (cellsS hc1)) ?_
   refine HW.take (i := 15) hH rfl (by kernel_rfl) (by kernel_rfl) (Wants.on rfl rfl rfl rfl rfl hb5) rfl (fun _ => rfl) (Rd.ldN (cs := [.int .i64 13, .int .i64 0]) rfl (by kernel_rfl) (by kernel_rfl) (cellsS (box_cells (hB.at (i := 1) rfl) rfl))) ?_
   refine HW.pure (i := 16) hH rfl (by kernel_rfl) (Wants.on rfl rfl rfl rfl rfl hb5) rfl (fun _ => rfl) (Rd.bin (v := .bool ((t1 == 13) && (t2 == 0))) rfl rfl (fun w => eqS_25 _ _ _ _ w)) ?_
   refine HW.pure (i := 17) hH rfl (by kernel_rfl) (Wants.free rfl) rfl (fun _ => rfl) (Rd.pickT rfl hb5 rfl) ?_
   exact HW.sub hH (by exact ⟨rfl, rfl, rfl, trivial⟩) (K3 ((t1 == 13) && (t2 == 0)) w15 rfl (by exact (hB.sel [0] (by decide) rfl)) h)
  ·have h := h0_J1 hb5
   refine HW.skip (i := 12) hH rfl (by kernel_rfl) (Skips.on rfl rfl rfl rfl rfl hb5) rfl (fun _ => rfl) ?_
   refine HW.skip (i := 13) hH rfl (by kernel_rfl) (Skips.on rfl rfl rfl rfl rfl hb5) rfl (fun _ => rfl) ?_
   refine HW.skip (i := 14) hH rfl (by kernel_rfl) (Skips.on rfl rfl rfl rfl rfl hb5) rfl (fun _ => rfl) ?_
   refine HW.skip (i := 15) hH rfl (by kernel_rfl) (Skips.on rfl rfl rfl rfl rfl hb5) rfl (fun _ => rfl) ?_
   refine HW.skip (i := 16) hH rfl (by kernel_rfl) (Skips.on rfl rfl rfl rfl rfl hb5) rfl (fun _ => rfl) ?_
   refine HW.pure (i := 17) hH rfl (by kernel_rfl) (Wants.free rfl) rfl (fun _ => rfl) (Rd.pickF rfl hb5 rfl) ?_
   exact HW.sub hH (by exact ⟨rfl, rfl, rfl, trivial⟩) (K3 false w15 rfl (by exact (hB.sel [0] (by decide) rfl)) h)
 clear hB
 intro b8 w16 hS1 hB h_
 subst hS1
 have h := hJ1 b8 _ h_; clear h_
 refine HW.pure (i := 18) hH rfl (by kernel_rfl) (Wants.free rfl) rfl (fun _ => rfl) (Rd.move (v := .bool b8) rfl) ?_
 obtain ⟨J2, hJ2, h1_J2, h0_J2⟩ := h
 suffices K4 : ∀ (b9 : Bool) (w17 : World), J2 b9 w17 → H 1 #[true, true, true, true, true, true, true, true, true, true, true, true, true, true, true, true, true, true, true, true, true, true, true, false] [(0, .bool false), (51, .bool b9)] w17 by
  rcases Bool.eq_false_or_eq_true b8 with hb6 | hb6
  ·have h := h1_J2 hb6
   refine HW.take (i := 19) hH rfl (by kernel_rfl) (by kernel_rfl) (Wants.on rfl rfl rfl rfl rfl hb6) rfl (fun _ => rfl) (Rd.ldN (cs := [.int .i64 10, .int .i64 5]) rfl (by kernel_rfl) (by kernel_rfl) (cellsS (box_cells (hB.at (i := 0) rfl) rfl))) ?_
   refine HW.call (i := 20) hH (by kernel_rfl) rfl (Wants.on rfl rfl rfl rfl rfl hb6) rfl (Cl.fn (f := 20) rfl Tryz.func20 (by kernel_rfl) rfl) h (fun e w18 h_ => ?_)
   clear h
   obtain ⟨r6, rfl, h⟩ := h_
   refine ⟨_, rfl, (fun hc => by cases hc), ?_⟩
   obtain ⟨t3, hx1, h⟩ := h
   refine HW.pure (i := 21) hH rfl (by kernel_rfl) (Wants.on rfl rfl rfl rfl rfl hb6) rfl (fun hc => by cases hc) (Rd.bin (v := .bool t3) rfl rfl hx1) ?_
   refine HW.pure (i := 22) hH rfl (by kernel_rfl) (Wants.free rfl) rfl (fun hc => by cases hc) (Rd.pickT rfl hb6 rfl) ?_
   exact HW.sub hH (by exact ⟨rfl, rfl, trivial⟩) (K4 t3 w18 h)
  ·have h := h0_J2 hb6
   refine HW.skip (i := 19) hH rfl (by kernel_rfl) (Skips.on rfl rfl rfl rfl rfl hb6) rfl (fun _ => rfl) ?_
   refine HW.skip1 (i := 20) hH (by kernel_rfl) rfl (Skips.on rfl rfl rfl rfl rfl hb6) rfl (fun hc => by cases hc) ?_
   refine HW.skip (i := 21) hH rfl (by kernel_rfl) (Skips.on rfl rfl rfl rfl rfl hb6) rfl (fun hc => by cases hc) ?_
   refine HW.pure (i := 22) hH rfl (by kernel_rfl) (Wants.free rfl) rfl (fun hc => by cases hc) (Rd.pickF rfl hb6 rfl) ?_
   exact HW.sub hH (by exact ⟨rfl, rfl, trivial⟩) (K4 false w16 h)
 intro b9 w17 h_
 have h := hJ2 b9 w17 h_; clear h_
 refine HW.pure (i := 23) hH rfl (by kernel_rfl) (Wants.free rfl) rfl (fun hc => by cases hc) (Rd.assign (v := .bool b9) rfl) ?_
 refine HW.done hH (by kernel_rfl) ?_
 refine NW.then ?_
 refine CW.ret ?_
 exact res1 rfl rfl ⟨b9, rfl, h⟩
/- pomander/pomanderlaw14.vast -/
def W_pomanderlaw14_vast (l1 : Option Addr) (l1n : Nat) (l1c : Nat) (w : World) (R : Bool → World → Prop) : Prop :=
 ((decide ((l1n : Int) > 30)) = true → R true w) ∧ ((decide ((l1n : Int) > 30)) = false → ∃ (I1 : Bool → Int → World → Prop) (m1 : Bool → Int → World → Nat), I1 false 0 w ∧ ∀ (x1 : Bool) (i1 : Int) (w1 : World), I1 x1 i1 w1 → ((decide (i1 < (l1n : Int))) = true → ∃ a1 : Addr, l1 = some a1 ∧ (0 : Int) ≤ i1 ∧ i1 < (l1n : Int) ∧ (∃ (t1 : Option Addr) (t1n : Nat) (t1c : Nat), w1.cell? ((a1.add (Int.toNat i1 * 2)).add 1) = some (.slice t1 t1n t1c) ∧ (((decide ((t1n : Int) > 10)) = true → R true w1) ∧ ((decide ((t1n : Int) > 10)) = false → ∃ (I2 : Bool → Int → World → Prop) (m2 : Bool → Int → World → Nat), I2 x1 0 w1 ∧ ∀ (x2 : Bool) (k1 : Int) (w2 : World), I2 x2 k1 w2 → ∃ (t2 : Option Addr) (t2n : Nat) (t2c : Nat), w2.cell? ((a1.add (Int.toNat i1 * 2)).add 1) = some (.slice t2 t2n t2c) ∧ (((decide (k1 < (t2n : Int))) = true → ∃ a2 : Addr, t2 = some a2 ∧ (0 : Int) ≤ k1 ∧ k1 < (t2n : Int) ∧ (∃ (t3 : Option Addr) (t3n : Nat) (t3c : Nat), w2.cell? ((a2.add (Int.toNat k1 * 3)).add 2) = some (.slice t3 t3n t3c) ∧ (((decide ((t3n : Int) > 6)) = true → R true w2) ∧ ((decide ((t3n : Int) > 6)) = false → (I2 x2 (IntKind.wrap .i64 (k1 + 1)) w2 ∧ m2 x2 (IntKind.wrap .i64 (k1 + 1)) w2 < m2 x2 k1 w2))))) ∧ ((decide (k1 < (t2n : Int))) = false → (I1 x2 (IntKind.wrap .i64 (i1 + 1)) w2 ∧ m1 x2 (IntKind.wrap .i64 (i1 + 1)) w2 < m1 x1 i1 w1))))))) ∧ ((decide (i1 < (l1n : Int))) = false → R false w1))
set_option maxRecDepth 100000 in
theorem go_pomanderlaw14_vast (l1 : Option Addr) (l1n : Nat) (l1c : Nat) (w : World) (R : Bool → World → Prop) (h : W_pomanderlaw14_vast l1 l1n l1c w R) : Calls Tryz.prog 5 #[.slice l1 l1n l1c] w (fun e w' => ∃ (r1 : Bool), e = .returned (.bool r1) ∧ R r1 w') := by
 unfold W_pomanderlaw14_vast at h
 refine enter (N := 42) Tryz.func5 rfl rfl ?_
 refine CW.seq ?_
 refine CW.region fun L hL => ?_
 refine LW.rd hL rfl (Wants.free rfl) rfl (Rd.assign (v := .bool false) rfl) ?_
 refine LW.nil hL rfl ?_
 refine NW.then ?_
 refine CW.seq ?_
 refine CW.seq ?_
 refine CW.region fun L hL => ?_
 refine LW.rd hL rfl (Wants.free rfl) rfl (Rd.move (v := .slice l1 l1n l1c) rfl) ?_
 refine LW.rd hL rfl (Wants.free rfl) rfl (Rd.builtin (v := .int .i64 (l1n : Int)) rfl (fun _ _ => by kernel_rfl)) ?_
 refine LW.rd hL rfl (Wants.free rfl) rfl (Rd.bin (v := .bool (decide ((l1n : Int) > 30))) rfl rfl (fun w => by kernel_rfl)) ?_
 refine LW.nil hL rfl ?_
 refine NW.then ?_
 refine CW.cond rfl (fun hb1 => ?_) (fun hb1 => ?_)
 ·replace h := h.1 hb1
  refine CW.seq ?_
  refine CW.region fun L hL => ?_
  refine LW.rd hL rfl (Wants.free rfl) rfl (Rd.assign (v := .bool true) rfl) ?_
  refine LW.nil hL rfl ?_
  refine NW.then ?_
  refine CW.ret ?_
  refine RW.then ?_
  exact res1 rfl rfl ⟨true, rfl, h⟩
 ·replace h := h.2 hb1
  refine CW.skip ?_
  refine NW.then ?_
  refine CW.seq ?_
  refine CW.seq ?_
  refine CW.region fun L hL => ?_
  refine LW.rd hL rfl (Wants.free rfl) rfl (Rd.assign (v := .int .i64 0) rfl) ?_
  refine LW.nil hL rfl ?_
  refine NW.then ?_
  refine CW.block ?_
  obtain ⟨I1, m1, hI1, h⟩ := h
  refine CW.loop (S := Bool × Int) (fun s1 => [(0, .slice l1 l1n l1c), (2, .bool s1.1), (3, .int .i64 s1.2)]) (fun s1 w1 => I1 s1.1 s1.2 w1) (fun s1 w1 => m1 s1.1 s1.2 w1) (false, 0) (by exact ⟨rfl, rfl, rfl, trivial⟩) hI1 (fun s1 w1 hI1 => ?_)
  obtain ⟨x1, i1⟩ := s1; replace h := h x1 i1 w1 hI1
  refine CW.seq ?_
  refine CW.seq ?_
  refine CW.region fun L hL => ?_
  refine LW.rd hL rfl (Wants.free rfl) rfl (Rd.move (v := .int .i64 i1) rfl) ?_
  refine LW.rd hL rfl (Wants.free rfl) rfl (Rd.move (v := .slice l1 l1n l1c) rfl) ?_
  refine LW.rd hL rfl (Wants.free rfl) rfl (Rd.builtin (v := .int .i64 (l1n : Int)) rfl (fun _ _ => by kernel_rfl)) ?_
  refine LW.rd hL rfl (Wants.free rfl) rfl (Rd.bin (v := .bool (decide (i1 < (l1n : Int)))) rfl rfl (fun w => by kernel_rfl)) ?_
  refine LW.nil hL rfl ?_
  refine NW.then ?_
  refine CW.cond rfl (fun hb2 => ?_) (fun hb2 => ?_)
  ·replace h := h.1 hb2
   refine CW.skip ?_
   refine NW.then ?_
   refine CW.seq ?_
   refine CW.block ?_
   refine CW.seq ?_
   refine CW.seq ?_
   refine CW.region fun L hL => ?_
   refine LW.rd hL rfl (Wants.free rfl) rfl (Rd.move (v := .slice l1 l1n l1c) rfl) ?_
   refine LW.rd hL rfl (Wants.free rfl) rfl (Rd.move (v := .int .i64 i1) rfl) ?_
   obtain ⟨a1, he1, hi1, hi2, h⟩ := h
   refine LW.rd hL rfl (Wants.free rfl) rfl (Rd.iaS (q := a1) (sz := 2) (by rw [← he1]; rfl) rfl Tryz.underlying22 (by kernel_rfl) hi1 hi2) ?_
   refine LW.rd hL rfl (Wants.free rfl) rfl (Rd.fa (v := .pointer (some ((a1.add (Int.toNat i1 * 2)).add 1))) rfl (fun _ => by kernel_rfl)) ?_
   obtain ⟨t1, t1n, t1c, hc1, h⟩ := h
   refine LW.rd hL rfl (Wants.free rfl) rfl (Rd.ld (v := .slice t1 t1n t1c) rfl (by kernel_rfl) (eqs hc1)) ?_
   refine LW.rd hL rfl (Wants.free rfl) rfl (Rd.builtin (v := .int .i64 (t1n : Int)) rfl (fun _ _ => by kernel_rfl)) ?_
   refine LW.rd hL rfl (Wants.free rfl) rfl (Rd.bin (v := .bool (decide ((t1n : Int) > 10))) rfl rfl (fun w => by kernel_rfl)) ?_
   refine LW.nil hL rfl ?_
   refine NW.then ?_
   refine CW.cond rfl (fun hb3 => ?_) (fun hb3 => ?_)
   ·replace h := h.1 hb3
    refine CW.seq ?_
    refine CW.region fun L hL => ?_
    refine LW.rd hL rfl (Wants.free rfl) rfl (Rd.assign (v := .bool true) rfl) ?_
    refine LW.nil hL rfl ?_
    refine NW.then ?_
    refine CW.ret ?_
    refine RW.then ?_
    refine RW.block ?_
    refine RW.then ?_
    refine RW.then ?_
    refine RW.block ?_
    refine RW.then ?_
    exact res1 rfl rfl ⟨true, rfl, h⟩
   ·replace h := h.2 hb3
    refine CW.skip ?_
    refine NW.then ?_
    refine CW.seq ?_
    refine CW.region fun L hL => ?_
    refine LW.rd hL rfl (Wants.free rfl) rfl (Rd.assign (v := .int .i64 0) rfl) ?_
    refine LW.nil hL rfl ?_
    refine NW.then ?_
    refine CW.block ?_
    obtain ⟨I2, m2, hI2, h⟩ := h
    refine CW.loop (S := Bool × Int) (fun s2 => [(0, .slice l1 l1n l1c), (3, .int .i64 i1), (2, .bool s2.1), (4, .int .i64 s2.2)]) (fun s2 w2 => I2 s2.1 s2.2 w2) (fun s2 w2 => m2 s2.1 s2.2 w2) (x1, 0) (by exact ⟨rfl, rfl, rfl, rfl, trivial⟩) hI2 (fun s2 w2 hI2 => ?_)
    obtain ⟨x2, k1⟩ := s2; replace h := h x2 k1 w2 hI2
    refine CW.seq ?_
    refine CW.seq ?_
    refine CW.region fun L hL => ?_
    refine LW.rd hL rfl (Wants.free rfl) rfl (Rd.move (v := .int .i64 k1) rfl) ?_
    refine LW.rd hL rfl (Wants.free rfl) rfl (Rd.move (v := .slice l1 l1n l1c) rfl) ?_
    refine LW.rd hL rfl (Wants.free rfl) rfl (Rd.move (v := .int .i64 i1) rfl) ?_
    refine LW.rd hL rfl (Wants.free rfl) rfl (Rd.iaS (q := a1) (sz := 2) (by rw [← he1]; rfl) rfl Tryz.underlying22 (by kernel_rfl) hi1 hi2) ?_
    refine LW.rd hL rfl (Wants.free rfl) rfl (Rd.fa (v := .pointer (some ((a1.add (Int.toNat i1 * 2)).add 1))) rfl (fun _ => by kernel_rfl)) ?_
    obtain ⟨t2, t2n, t2c, hc2, h⟩ := h
    refine LW.rd hL rfl (Wants.free rfl) rfl (Rd.ld (v := .slice t2 t2n t2c) rfl (by kernel_rfl) (eqs hc2)) ?_
    refine LW.rd hL rfl (Wants.free rfl) rfl (Rd.builtin (v := .int .i64 (t2n : Int)) rfl (fun _ _ => by kernel_rfl)) ?_
    refine LW.rd hL rfl (Wants.free rfl) rfl (Rd.bin (v := .bool (decide (k1 < (t2n : Int)))) rfl rfl (fun w => by kernel_rfl)) ?_
    refine LW.nil hL rfl ?_
    refine NW.then ?_
    refine CW.cond rfl (fun hb4 => ?_) (fun hb4 => ?_)
    ·replace h := h.1 hb4
     refine CW.skip ?_
     refine NW.then ?_
     refine CW.seq ?_
     refine CW.block ?_
     refine CW.seq ?_
     refine CW.region fun L hL => ?_
     refine LW.rd hL rfl (Wants.free rfl) rfl (Rd.move (v := .slice l1 l1n l1c) rfl) ?_
     refine LW.rd hL rfl (Wants.free rfl) rfl (Rd.move (v := .int .i64 i1) rfl) ?_
     refine LW.rd hL rfl (Wants.free rfl) rfl (Rd.iaS (q := a1) (sz := 2) (by rw [← he1]; rfl) rfl Tryz.underlying22 (by kernel_rfl) hi1 hi2) ?_
     refine LW.rd hL rfl (Wants.free rfl) rfl (Rd.fa (v := .pointer (some ((a1.add (Int.toNat i1 * 2)).add 1))) rfl (fun _ => by kernel_rfl)) ?_
     refine LW.rd hL rfl (Wants.free rfl) rfl (Rd.ld (v := .slice t2 t2n t2c) rfl (by kernel_rfl) (eqs hc2)) ?_
     refine LW.rd hL rfl (Wants.free rfl) rfl (Rd.move (v := .int .i64 k1) rfl) ?_
     obtain ⟨a2, he2, hi7, hi8, h⟩ := h
     refine LW.rd hL rfl (Wants.free rfl) rfl (Rd.iaS (q := a2) (sz := 3) (by rw [← he2]; rfl) rfl Tryz.underlying75 (by kernel_rfl) hi7 hi8) ?_
     refine LW.rd hL rfl (Wants.free rfl) rfl (Rd.fa (v := .pointer (some ((a2.add (Int.toNat k1 * 3)).add 2))) rfl (fun _ => by kernel_rfl)) ?_
     obtain ⟨t3, t3n, t3c, hc3, h⟩ := h
     refine LW.rd hL rfl (Wants.free rfl) rfl (Rd.ld (v := .slice t3 t3n t3c) rfl (by kernel_rfl) (eqs hc3)) ?_
     refine LW.rd hL rfl (Wants.free rfl) rfl (Rd.builtin (v := .int .i64 (t3n : Int)) rfl (fun _ _ => by kernel_rfl)) ?_
     refine LW.rd hL rfl (Wants.free rfl) rfl (Rd.bin (v := .bool (decide ((t3n : Int) > 6))) rfl rfl (fun w => by kernel_rfl)) ?_
     refine LW.nil hL rfl ?_
     refine NW.then ?_
     refine CW.cond rfl (fun hb5 => ?_) (fun hb5 => ?_)
     ·replace h := h.1 hb5
      refine CW.seq ?_
      refine CW.region fun L hL => ?_
      refine LW.rd hL rfl (Wants.free rfl) rfl (Rd.assign (v := .bool true) rfl) ?_
      refine LW.nil hL rfl ?_
      refine NW.then ?_
      refine CW.ret ?_
      refine RW.block ?_
      refine RW.then ?_
      refine RW.then ?_
      refine RW.block ?_
      refine RW.block ?_
      refine RW.then ?_
      refine RW.then ?_
      refine RW.block ?_
      refine RW.then ?_
      exact res1 rfl rfl ⟨true, rfl, h⟩
     ·replace h := h.2 hb5
      refine CW.skip ?_
      refine NW.block ?_
      refine NW.then ?_
      refine CW.region fun L hL => ?_
      refine LW.rd hL rfl (Wants.free rfl) rfl (Rd.move (v := .int .i64 k1) rfl) ?_
      refine LW.rd hL rfl (Wants.free rfl) rfl (Rd.bin (v := .int .i64 (IntKind.wrap .i64 (k1 + 1))) rfl rfl (fun w => by kernel_rfl)) ?_
      refine LW.rd hL rfl (Wants.free rfl) rfl (Rd.assign (v := .int .i64 (IntKind.wrap .i64 (k1 + 1))) rfl) ?_
      refine LW.nil hL rfl ?_
      exact NW.loop (S := Bool × Int) (Ek := fun s2 => [(0, .slice l1 l1n l1c), (3, .int .i64 i1), (2, .bool s2.1), (4, .int .i64 s2.2)]) (x2, IntKind.wrap .i64 (k1 + 1)) (by exact ⟨rfl, rfl, rfl, rfl, trivial⟩) h
    ·replace h := h.2 hb4
     refine CW.exit ?_
     refine XW.then ?_
     refine XW.then ?_
     refine XW.hit ?_
     refine NW.block ?_
     refine NW.then ?_
     refine CW.region fun L hL => ?_
     refine LW.rd hL rfl (Wants.free rfl) rfl (Rd.move (v := .int .i64 i1) rfl) ?_
     refine LW.rd hL rfl (Wants.free rfl) rfl (Rd.bin (v := .int .i64 (IntKind.wrap .i64 (i1 + 1))) rfl rfl (fun w => by kernel_rfl)) ?_
     refine LW.rd hL rfl (Wants.free rfl) rfl (Rd.assign (v := .int .i64 (IntKind.wrap .i64 (i1 + 1))) rfl) ?_
     refine LW.nil hL rfl ?_
     exact NW.loop (S := Bool × Int) (Ek := fun s1 => [(0, .slice l1 l1n l1c), (2, .bool s1.1), (3, .int .i64 s1.2)]) (x2, IntKind.wrap .i64 (i1 + 1)) (by exact ⟨rfl, rfl, rfl, trivial⟩) h
  ·replace h := h.2 hb2
   refine CW.exit ?_
   refine XW.then ?_
   refine XW.then ?_
   refine XW.hit ?_
   refine NW.then ?_
   refine CW.seq ?_
   refine CW.region fun L hL => ?_
   refine LW.rd hL rfl (Wants.free rfl) rfl (Rd.assign (v := .bool false) rfl) ?_
   refine LW.nil hL rfl ?_
   refine NW.then ?_
   refine CW.ret ?_
   exact res1 rfl rfl ⟨false, rfl, h⟩
/- pomander/pomanderlaw14.made -/
def W_pomanderlaw14_made (l1 : Option Addr) (l1n : Nat) (l1c : Nat) (w : World) (R : (Option Addr) → (Option Addr) → Nat → Nat → Bool → World → Prop) : Prop :=
 Calls Tryz.prog 23 #[] w fun e w1 => ∃ (r4 : Option Addr), e = .returned (.pointer r4) ∧ (∃ (I1 : (Option Addr) → (Option Addr) → Nat → Nat → Bool → (Option Addr) → Nat → Nat → Int → Int → World → Prop) (m1 : (Option Addr) → (Option Addr) → Nat → Nat → Bool → (Option Addr) → Nat → Nat → Int → Int → World → Nat), I1 none none 0 0 false none 0 0 0 0 w1 ∧ ∀ (x1 : Option Addr) (x2 : Option Addr) (x2n : Nat) (x2c : Nat) (x3 : Bool) (notes1 : Option Addr) (notes1n : Nat) (notes1c : Nat) (last1 : Int) (i1 : Int) (w2 : World), I1 x1 x2 x2n x2c x3 notes1 notes1n notes1c last1 i1 w2 → ((decide (i1 < (l1n : Int))) = true → ∃ J1 : (Option Addr) → (Option Addr) → Nat → Nat → Bool → (Option Addr) → Nat → Nat → Int → World → Prop, (∀ (x4 : Option Addr) (x5 : Option Addr) (x5n : Nat) (x5c : Nat) (x6 : Bool) (notes2 : Option Addr) (notes2n : Nat) (notes2c : Nat) (last2 : Int) (w3 : World), J1 x4 x5 x5n x5c x6 notes2 notes2n notes2c last2 w3 → (I1 x4 x5 x5n x5c x6 notes2 notes2n notes2c last2 (IntKind.wrap .i64 (i1 + 1)) w3 ∧ m1 x4 x5 x5n x5c x6 notes2 notes2n notes2c last2 (IntKind.wrap .i64 (i1 + 1)) w3 < m1 x1 x2 x2n x2c x3 notes1 notes1n notes1c last1 i1 w2)) ∧ (∃ J2 : Int → World → Prop, (∀ (want1 : Int) (w4 : World), J2 want1 w4 → ∃ a1 : Addr, l1 = some a1 ∧ (0 : Int) ≤ i1 ∧ i1 < (l1n : Int) ∧ (∀ (w5 : World), Chg [] w4 w5 → (∃ (t1 : Int), w5.cell? (a1.add (Int.toNat i1 * 2)) = some (.int .i64 t1) ∧ (∃ (t2 : Option Addr) (t2n : Nat) (t2c : Nat), w5.cell? ((a1.add (Int.toNat i1 * 2)).add 1) = some (.slice t2 t2n t2c) ∧ (Calls Tryz.prog 7 #[.pointer r4, .int .i64 t1, .slice t2 t2n t2c] w5 fun e w6 => ∃ (r5 : Int), e = .returned (.int .i64 r5) ∧ (((!(r5 == want1)) = true → R r4 notes1 notes1n notes1c false w6) ∧ ((!(r5 == want1)) = false → ((!(want1 == 0)) = true → J1 x1 x2 x2n x2c x3 notes1 notes1n notes1c last1 w6) ∧ ((!(want1 == 0)) = false → ∃ (I2 : (Option Addr) → Nat → Nat → Int → Int → World → Prop) (m2 : (Option Addr) → Nat → Nat → Int → Int → World → Nat), I2 notes1 notes1n notes1c last1 0 w6 ∧ ∀ (notes3 : Option Addr) (notes3n : Nat) (notes3c : Nat) (last3 : Int) (k1 : Int) (w7 : World), I2 notes3 notes3n notes3c last3 k1 w7 → ∃ (t3 : Option Addr) (t3n : Nat) (t3c : Nat), w7.cell? ((a1.add (Int.toNat i1 * 2)).add 1) = some (.slice t3 t3n t3c) ∧ (((decide (k1 < (t3n : Int))) = true → ∃ J3 : (Option Addr) → Nat → Nat → Int → World → Prop, (∀ (notes4 : Option Addr) (notes4n : Nat) (notes4c : Nat) (last4 : Int) (w8 : World), J3 notes4 notes4n notes4c last4 w8 → (I2 notes4 notes4n notes4c last4 (IntKind.wrap .i64 (k1 + 1)) w8 ∧ m2 notes4 notes4n notes4c last4 (IntKind.wrap .i64 (k1 + 1)) w8 < m2 notes3 notes3n notes3c last3 k1 w7)) ∧ (∃ a2 : Addr, t3 = some a2 ∧ (0 : Int) ≤ k1 ∧ k1 < (t3n : Int) ∧ (∃ (t4 : Int) (t5 : Int) (t6 : Option Addr) (t6n : Nat) (t6c : Nat), CellsAt w7 (a2.add (Int.toNat k1 * 3)) 0 [.int .i64 t4, .int .i64 t5, .slice t6 t6n t6c] ∧ (∀ (b1 : Nat) (w10 : World), (w7.heap.size ≤ b1 ∧ b1 < w10.heap.size) → Chg [] w7 w10 → (((!((t4 == 0) && (t5 == 0))) = true → ∀ (w11 : World), Chg [] w10 w11 → (∃ (t7 : Int), w11.cell? (a1.add (Int.toNat i1 * 2)) = some (.int .i64 t7) ∧ (∀ b2 : Nat, b2 = World.size w11 → ∀ w12 : World, w12 = World.alloc w11 (.cells #[.int .i64 t7, .int .i64 t4, .int .i64 t5, .slice t6 t6n t6c] 38) → (∃ (l2 : Option Addr) (l2n : Nat) (l2c : Nat) (w13 : World), (Builtin.append_ #[44, 44] 44 #[.slice notes3 notes3n notes3c, .slice (some (⟨b2, 0, none⟩ : Addr)) 1 1]).run Tryz.prog w12 = .ok (.slice l2 l2n l2c) w13 ∧ (∃ (t8 : Int), w13.cell? (a1.add (Int.toNat i1 * 2)) = some (.int .i64 t8) ∧ (J3 l2 l2n l2c t8 w13)))))) ∧ ((!((t4 == 0) && (t5 == 0))) = false → J3 notes3 notes3n notes3c last3 w10)))))) ∧ ((decide (k1 < (t3n : Int))) = false → J1 x1 x2 x2n x2c x3 notes3 notes3n notes3c last3 w7)))))))))) ∧ (∃ a3 : Addr, l1 = some a3 ∧ (0 : Int) ≤ i1 ∧ i1 < (l1n : Int) ∧ (∃ (t9 : Int), w2.cell? (a3.add (Int.toNat i1 * 2)) = some (.int .i64 t9) ∧ (∃ J4 : Bool → World → Prop, (∀ (b3 : Bool) (w14 : World), J4 b3 w14 → (b3 = true → J2 2 w14) ∧ (b3 = false → J2 0 w14)) ∧ (((decide (t9 < 0)) = false → J4 (decide (t9 < last1)) w2) ∧ ((decide (t9 < 0)) = true → J4 true w2))))))) ∧ ((decide (i1 < (l1n : Int))) = false → Calls Tryz.prog 15 #[.pointer r4] w2 fun e w15 => ∃ (r6 : Int), e = .returned (.int .i64 r6) ∧ (R r4 notes1 notes1n notes1c (r6 == (notes1n : Int)) w15)))
set_option maxRecDepth 100000 in
theorem go_pomanderlaw14_made (l1 : Option Addr) (l1n : Nat) (l1c : Nat) (w : World) (R : (Option Addr) → (Option Addr) → Nat → Nat → Bool → World → Prop) (h : W_pomanderlaw14_made l1 l1n l1c w R) : Calls Tryz.prog 10 #[.slice l1 l1n l1c] w (fun e w' => ∃ (r1 : Option Addr) (r2 : Option Addr) (r2n : Nat) (r2c : Nat) (r3 : Bool), e = .returned (.tuple #[.pointer r1, .slice r2 r2n r2c, .bool r3]) ∧ R r1 r2 r2n r2c r3 w') := by
 unfold W_pomanderlaw14_made at h
 refine enter (N := 99) Tryz.func10 rfl rfl ?_
 refine CW.seq ?_
 refine CW.region fun L hL => ?_
 refine LW.rd hL rfl (Wants.free rfl) rfl (Rd.assign (v := .pointer none) rfl) ?_
 refine LW.rd hL rfl (Wants.free rfl) rfl (Rd.assign (v := .slice none 0 0) rfl) ?_
 refine LW.rd hL rfl (Wants.free rfl) rfl (Rd.assign (v := .bool false) rfl) ?_
 refine LW.nil hL rfl ?_
 refine NW.then ?_
 refine CW.seq ?_
 refine CW.region fun L hL => ?_
 refine LW.call hL rfl (Wants.free rfl) rfl (Cl.fn (f := 23) rfl Tryz.func23 (by kernel_rfl) rfl) h (fun e w1 h_ => ?_)
 clear h
 obtain ⟨r4, rfl, h⟩ := h_
 refine ⟨_, rfl, ?_⟩
 refine LW.rd hL rfl (Wants.free rfl) rfl (Rd.assign (v := .pointer r4) rfl) ?_
 refine LW.nil hL rfl ?_
 refine NW.then ?_
 refine CW.seq ?_
 refine CW.region fun L hL => ?_
 refine LW.rd hL rfl (Wants.free rfl) rfl (Rd.assign (v := .slice none 0 0) rfl) ?_
 refine LW.nil hL rfl ?_
 refine NW.then ?_
 refine CW.seq ?_
 refine CW.region fun L hL => ?_
 refine LW.rd hL rfl (Wants.free rfl) rfl (Rd.assign (v := .int .i64 0) rfl) ?_
 refine LW.nil hL rfl ?_
 refine NW.then ?_
 refine CW.seq ?_
 refine CW.seq ?_
 refine CW.region fun L hL => ?_
 refine LW.rd hL rfl (Wants.free rfl) rfl (Rd.assign (v := .int .i64 0) rfl) ?_
 refine LW.nil hL rfl ?_
 refine NW.then ?_
 refine CW.block ?_
 obtain ⟨I1, m1, hI1, h⟩ := h
 refine CW.loop (S := (Option Addr) × (Option Addr) × Nat × Nat × Bool × (Option Addr) × Nat × Nat × Int × Int) (fun s1 => [(0, .slice l1 l1n l1c), (5, .pointer r4), (2, .pointer s1.1), (3, .slice s1.2.1 s1.2.2.1 s1.2.2.2.1), (4, .bool s1.2.2.2.2.1), (6, .slice s1.2.2.2.2.2.1 s1.2.2.2.2.2.2.1 s1.2.2.2.2.2.2.2.1), (7, .int .i64 s1.2.2.2.2.2.2.2.2.1), (8, .int .i64 s1.2.2.2.2.2.2.2.2.2)]) (fun s1 w2 => I1 s1.1 s1.2.1 s1.2.2.1 s1.2.2.2.1 s1.2.2.2.2.1 s1.2.2.2.2.2.1 s1.2.2.2.2.2.2.1 s1.2.2.2.2.2.2.2.1 s1.2.2.2.2.2.2.2.2.1 s1.2.2.2.2.2.2.2.2.2 w2) (fun s1 w2 => m1 s1.1 s1.2.1 s1.2.2.1 s1.2.2.2.1 s1.2.2.2.2.1 s1.2.2.2.2.2.1 s1.2.2.2.2.2.2.1 s1.2.2.2.2.2.2.2.1 s1.2.2.2.2.2.2.2.2.1 s1.2.2.2.2.2.2.2.2.2 w2) (none, none, 0, 0, false, none, 0, 0, 0, 0) (by exact ⟨rfl, rfl, rfl, rfl, rfl, rfl, rfl, rfl, trivial⟩) hI1 (fun s1 w2 hI1 => ?_)
 obtain ⟨x1, x2, x2n, x2c, x3, notes1, notes1n, notes1c, last1, i1⟩ := s1; replace h := h x1 x2 x2n x2c x3 notes1 notes1n notes1c last1 i1 w2 hI1
 refine CW.seq ?_
 refine CW.seq ?_
 refine CW.region fun L hL => ?_
 refine LW.rd hL rfl (Wants.free rfl) rfl (Rd.move (v := .int .i64 i1) rfl) ?_
 refine LW.rd hL rfl (Wants.free rfl) rfl (Rd.move (v := .slice l1 l1n l1c) rfl) ?_
 refine LW.rd hL rfl (Wants.free rfl) rfl (Rd.builtin (v := .int .i64 (l1n : Int)) rfl (fun _ _ => by kernel_rfl)) ?_
 refine LW.rd hL rfl (Wants.free rfl) rfl (Rd.bin (v := .bool (decide (i1 < (l1n : Int)))) rfl rfl (fun w => by kernel_rfl)) ?_
 refine LW.nil hL rfl ?_
 refine NW.then ?_
 refine CW.cond rfl (fun hb1 => ?_) (fun hb1 => ?_)
 ·replace h := h.1 hb1
  refine CW.skip ?_
  refine NW.then ?_
  obtain ⟨J1, hJ1, h⟩ := h
  refine CW.cut (S := (Option Addr) × (Option Addr) × Nat × Nat × Bool × (Option Addr) × Nat × Nat × Int) (fun s2 => [(0, .slice l1 l1n l1c), (5, .pointer r4), (8, .int .i64 i1), (2, .pointer s2.1), (3, .slice s2.2.1 s2.2.2.1 s2.2.2.2.1), (4, .bool s2.2.2.2.2.1), (6, .slice s2.2.2.2.2.2.1 s2.2.2.2.2.2.2.1 s2.2.2.2.2.2.2.2.1), (7, .int .i64 s2.2.2.2.2.2.2.2.2)]) (fun s2 w3 => J1 s2.1 s2.2.1 s2.2.2.1 s2.2.2.2.1 s2.2.2.2.2.1 s2.2.2.2.2.2.1 s2.2.2.2.2.2.2.1 s2.2.2.2.2.2.2.2.1 s2.2.2.2.2.2.2.2.2 w3) (fun s2 w3 h_ => ?_) ?_
  ·obtain ⟨x4, x5, x5n, x5c, x6, notes2, notes2n, notes2c, last2⟩ := s2; replace h := hJ1 x4 x5 x5n x5c x6 notes2 notes2n notes2c last2 w3 h_; clear h_
   refine CW.region fun L hL => ?_
   refine LW.rd hL rfl (Wants.free rfl) rfl (Rd.move (v := .int .i64 i1) rfl) ?_
   refine LW.rd hL rfl (Wants.free rfl) rfl (Rd.bin (v := .int .i64 (IntKind.wrap .i64 (i1 + 1))) rfl rfl (fun w => by kernel_rfl)) ?_
   refine LW.rd hL rfl (Wants.free rfl) rfl (Rd.assign (v := .int .i64 (IntKind.wrap .i64 (i1 + 1))) rfl) ?_
   refine LW.nil hL rfl ?_
   exact NW.loop (S := (Option Addr) × (Option Addr) × Nat × Nat × Bool × (Option Addr) × Nat × Nat × Int × Int) (Ek := fun s1 => [(0, .slice l1 l1n l1c), (5, .pointer r4), (2, .pointer s1.1), (3, .slice s1.2.1 s1.2.2.1 s1.2.2.2.1), (4, .bool s1.2.2.2.2.1), (6, .slice s1.2.2.2.2.2.1 s1.2.2.2.2.2.2.1 s1.2.2.2.2.2.2.2.1), (7, .int .i64 s1.2.2.2.2.2.2.2.2.1), (8, .int .i64 s1.2.2.2.2.2.2.2.2.2)]) (x4, x5, x5n, x5c, x6, notes2, notes2n, notes2c, last2, IntKind.wrap .i64 (i1 + 1)) (by exact ⟨rfl, rfl, rfl, rfl, rfl, rfl, rfl, rfl, trivial⟩) h
  ·skip
   refine CW.block ?_
   refine CW.seq ?_
   refine CW.region fun L hL => ?_
   refine LW.rd hL rfl (Wants.free rfl) rfl (Rd.assign (v := .int .i64 0) rfl) ?_
   refine LW.nil hL rfl ?_
   refine NW.then ?_
   obtain ⟨J2, hJ2, h⟩ := h
   refine CW.cut (S := Int) (fun want1 => [(0, .slice l1 l1n l1c), (2, .pointer x1), (3, .slice x2 x2n x2c), (4, .bool x3), (5, .pointer r4), (6, .slice notes1 notes1n notes1c), (7, .int .i64 last1), (8, .int .i64 i1), (9, .int .i64 want1)]) (fun want1 w4 => J2 want1 w4) (fun want1 w4 h_ => ?_) ?_
   ·replace h := hJ2 want1 w4 h_; clear h_
    refine CW.seq ?_
    refine CW.seq ?_
    obtain ⟨w5, hw_w5⟩ : ∃ x, x = World.drew w4 := ⟨_, rfl⟩
    have hc_w5 := sil_drew (Chg.refl [] w4) hw_w5
    refine CW.drawn (fun w => w = w5) 11 (by kernel_rfl) fun H hH => ?_
    rw [← hw_w5]
    refine HW.pure (i := 0) hH rfl (by kernel_rfl) (Wants.free rfl) rfl (fun _ => rfl) (Rd.move (v := .pointer r4) rfl) ?_
    refine HW.pure (i := 1) hH rfl (by kernel_rfl) (Wants.free rfl) rfl (fun _ => rfl) (Rd.move (v := .slice l1 l1n l1c) rfl) ?_
    refine HW.pure (i := 2) hH rfl (by kernel_rfl) (Wants.free rfl) rfl (fun _ => rfl) (Rd.move (v := .int .i64 i1) rfl) ?_
    obtain ⟨a1, he1, hi1, hi2, h⟩ := h
    refine HW.pure (i := 3) hH rfl (by kernel_rfl) (Wants.free rfl) rfl (fun _ => rfl) (Rd.iaS (q := a1) (sz := 2) (by rw [← he1]; rfl) rfl Tryz.underlying22 (by kernel_rfl) hi1 hi2) ?_
    refine HW.pure (i := 4) hH rfl (by kernel_rfl) (Wants.free rfl) rfl (fun _ => rfl) (Rd.fa (v := .pointer (some (a1.add (Int.toNat i1 * 2)))) rfl (fun _ => by kernel_rfl)) ?_
    replace h := h  w5  hc_w5
    obtain ⟨t1, hc1, h⟩ := h
    refine HW.take (i := 5) hH rfl (by kernel_rfl) (by kernel_rfl) (Wants.free rfl) rfl (fun _ => rfl) (Rd.ld (v := .int .i64 t1) rfl (by kernel_rfl) (eqs hc1)) ?_
    refine HW.pure (i := 6) hH rfl (by kernel_rfl) (Wants.free rfl) rfl (fun _ => rfl) (Rd.move (v := .slice l1 l1n l1c) rfl) ?_
    refine HW.pure (i := 7) hH rfl (by kernel_rfl) (Wants.free rfl) rfl (fun _ => rfl) (Rd.move (v := .int .i64 i1) rfl) ?_
    refine HW.pure (i := 8) hH rfl (by kernel_rfl) (Wants.free rfl) rfl (fun _ => rfl) (Rd.iaS (q := a1) (sz := 2) (by rw [← he1]; rfl) rfl Tryz.underlying22 (by kernel_rfl) hi1 hi2) ?_
    refine HW.pure (i := 9) hH rfl (by kernel_rfl) (Wants.free rfl) rfl (fun _ => rfl) (Rd.fa (v := .pointer (some ((a1.add (Int.toNat i1 * 2)).add 1))) rfl (fun _ => by kernel_rfl)) ?_
    obtain ⟨t2, t2n, t2c, hc2, h⟩ := h
    refine HW.take (i := 10) hH rfl (by kernel_rfl) (by kernel_rfl) (Wants.free rfl) rfl (fun _ => rfl) (Rd.ld (v := .slice t2 t2n t2c) rfl (by kernel_rfl) (eqs hc2)) ?_
    refine HW.pure (i := 12) hH rfl (by kernel_rfl) (Wants.free rfl) rfl (fun _ => rfl) (Rd.move (v := .int .i64 want1) rfl) ?_
    refine HW.call (i := 11) hH (by kernel_rfl) rfl (Wants.free rfl) rfl (Cl.fn (f := 7) rfl Tryz.func7 (by kernel_rfl) rfl) h (fun e w6 h_ => ?_)
    clear h
    obtain ⟨r5, rfl, h⟩ := h_
    refine ⟨_, rfl, (fun hc => by cases hc), ?_⟩
    refine HW.pure (i := 13) hH rfl (by kernel_rfl) (Wants.free rfl) rfl (fun hc => by cases hc) (Rd.bin (v := .bool (!(r5 == want1))) rfl rfl (fun w => by kernel_rfl)) ?_
    refine HW.done hH (by kernel_rfl) ?_
    refine NW.then ?_
    refine CW.cond rfl (fun hb2 => ?_) (fun hb2 => ?_)
    ·replace h := h.1 hb2
     refine CW.seq ?_
     refine CW.region fun L hL => ?_
     refine LW.rd hL rfl (Wants.free rfl) rfl (Rd.move (v := .pointer r4) rfl) ?_
     refine LW.rd hL rfl (Wants.free rfl) rfl (Rd.move (v := .slice notes1 notes1n notes1c) rfl) ?_
     refine LW.rd hL rfl (Wants.free rfl) rfl (Rd.assign (v := .pointer r4) rfl) ?_
     refine LW.rd hL rfl (Wants.free rfl) rfl (Rd.assign (v := .slice notes1 notes1n notes1c) rfl) ?_
     refine LW.rd hL rfl (Wants.free rfl) rfl (Rd.assign (v := .bool false) rfl) ?_
     refine LW.nil hL rfl ?_
     refine NW.then ?_
     refine CW.ret ?_
     refine RW.then ?_
     refine RW.block ?_
     refine RW.then ?_
     refine RW.then ?_
     refine RW.block ?_
     refine RW.then ?_
     exact res3 rfl rfl rfl rfl ⟨r4, notes1, notes1n, notes1c, false, rfl, h⟩
    ·replace h := h.2 hb2
     refine CW.skip ?_
     refine NW.then ?_
     refine CW.seq ?_
     refine CW.seq ?_
     refine CW.region fun L hL => ?_
     refine LW.rd hL rfl (Wants.free rfl) rfl (Rd.move (v := .int .i64 want1) rfl) ?_
     refine LW.rd hL rfl (Wants.free rfl) rfl (Rd.bin (v := .bool (!(want1 == 0))) rfl rfl (fun w => by kernel_rfl)) ?_
     refine LW.nil hL rfl ?_
     refine NW.then ?_
     refine CW.cond rfl (fun hb3 => ?_) (fun hb3 => ?_)
     ·replace h := h.1 hb3
      refine CW.exit ?_
      refine XW.then ?_
      refine XW.hit ?_
      exact NW.cut (S := (Option Addr) × (Option Addr) × Nat × Nat × Bool × (Option Addr) × Nat × Nat × Int) (Ek := fun s2 => [(0, .slice l1 l1n l1c), (5, .pointer r4), (8, .int .i64 i1), (2, .pointer s2.1), (3, .slice s2.2.1 s2.2.2.1 s2.2.2.2.1), (4, .bool s2.2.2.2.2.1), (6, .slice s2.2.2.2.2.2.1 s2.2.2.2.2.2.2.1 s2.2.2.2.2.2.2.2.1), (7, .int .i64 s2.2.2.2.2.2.2.2.2)]) (x1, x2, x2n, x2c, x3, notes1, notes1n, notes1c, last1) (by exact ⟨rfl, rfl, rfl, rfl, rfl, rfl, rfl, rfl, trivial⟩) h
     ·replace h := h.2 hb3
      refine CW.skip ?_
      refine NW.then ?_
      refine CW.seq ?_
      refine CW.region fun L hL => ?_
      refine LW.rd hL rfl (Wants.free rfl) rfl (Rd.assign (v := .int .i64 0) rfl) ?_
      refine LW.nil hL rfl ?_
      refine NW.then ?_
      refine CW.block ?_
      obtain ⟨I2, m2, hI2, h⟩ := h
      refine CW.loop (S := (Option Addr) × Nat × Nat × Int × Int) (fun s3 => [(0, .slice l1 l1n l1c), (2, .pointer x1), (3, .slice x2 x2n x2c), (4, .bool x3), (5, .pointer r4), (8, .int .i64 i1), (6, .slice s3.1 s3.2.1 s3.2.2.1), (7, .int .i64 s3.2.2.2.1), (10, .int .i64 s3.2.2.2.2)]) (fun s3 w7 => I2 s3.1 s3.2.1 s3.2.2.1 s3.2.2.2.1 s3.2.2.2.2 w7) (fun s3 w7 => m2 s3.1 s3.2.1 s3.2.2.1 s3.2.2.2.1 s3.2.2.2.2 w7) (notes1, notes1n, notes1c, last1, 0) (by exact ⟨rfl, rfl, rfl, rfl, rfl, rfl, rfl, rfl, rfl, trivial⟩) hI2 (fun s3 w7 hI2 => ?_)
      obtain ⟨notes3, notes3n, notes3c, last3, k1⟩ := s3; replace h := h notes3 notes3n notes3c last3 k1 w7 hI2
      refine CW.seq ?_
      refine CW.seq ?_
      refine CW.region fun L hL => ?_
      refine LW.rd hL rfl (Wants.free rfl) rfl (Rd.move (v := .int .i64 k1) rfl) ?_
      refine LW.rd hL rfl (Wants.free rfl) rfl (Rd.move (v := .slice l1 l1n l1c) rfl) ?_
      refine LW.rd hL rfl (Wants.free rfl) rfl (Rd.move (v := .int .i64 i1) rfl) ?_
      refine LW.rd hL rfl (Wants.free rfl) rfl (Rd.iaS (q := a1) (sz := 2) (by rw [← he1]; rfl) rfl Tryz.underlying22 (by kernel_rfl) hi1 hi2) ?_
      refine LW.rd hL rfl (Wants.free rfl) rfl (Rd.fa (v := .pointer (some ((a1.add (Int.toNat i1 * 2)).add 1))) rfl (fun _ => by kernel_rfl)) ?_
      obtain ⟨t3, t3n, t3c, hc3, h⟩ := h
      refine LW.rd hL rfl (Wants.free rfl) rfl (Rd.ld (v := .slice t3 t3n t3c) rfl (by kernel_rfl) (eqs hc3)) ?_
      refine LW.rd hL rfl (Wants.free rfl) rfl (Rd.builtin (v := .int .i64 (t3n : Int)) rfl (fun _ _ => by kernel_rfl)) ?_
      refine LW.rd hL rfl (Wants.free rfl) rfl (Rd.bin (v := .bool (decide (k1 < (t3n : Int)))) rfl rfl (fun w => by kernel_rfl)) ?_
      refine LW.nil hL rfl ?_
      refine NW.then ?_
      refine CW.cond rfl (fun hb4 => ?_) (fun hb4 => ?_)
      ·replace h := h.1 hb4
       refine CW.skip ?_
       refine NW.then ?_
       obtain ⟨J3, hJ3, h⟩ := h
       refine CW.cut (S := (Option Addr) × Nat × Nat × Int) (fun s4 => [(0, .slice l1 l1n l1c), (2, .pointer x1), (3, .slice x2 x2n x2c), (4, .bool x3), (5, .pointer r4), (8, .int .i64 i1), (10, .int .i64 k1), (6, .slice s4.1 s4.2.1 s4.2.2.1), (7, .int .i64 s4.2.2.2)]) (fun s4 w8 => J3 s4.1 s4.2.1 s4.2.2.1 s4.2.2.2 w8) (fun s4 w8 h_ => ?_) ?_
       ·obtain ⟨notes4, notes4n, notes4c, last4⟩ := s4; replace h := hJ3 notes4 notes4n notes4c last4 w8 h_; clear h_
        refine CW.region fun L hL => ?_
        refine LW.rd hL rfl (Wants.free rfl) rfl (Rd.move (v := .int .i64 k1) rfl) ?_
        refine LW.rd hL rfl (Wants.free rfl) rfl (Rd.bin (v := .int .i64 (IntKind.wrap .i64 (k1 + 1))) rfl rfl (fun w => by kernel_rfl)) ?_
        refine LW.rd hL rfl (Wants.free rfl) rfl (Rd.assign (v := .int .i64 (IntKind.wrap .i64 (k1 + 1))) rfl) ?_
        refine LW.nil hL rfl ?_
        exact NW.loop (S := (Option Addr) × Nat × Nat × Int × Int) (Ek := fun s3 => [(0, .slice l1 l1n l1c), (2, .pointer x1), (3, .slice x2 x2n x2c), (4, .bool x3), (5, .pointer r4), (8, .int .i64 i1), (6, .slice s3.1 s3.2.1 s3.2.2.1), (7, .int .i64 s3.2.2.2.1), (10, .int .i64 s3.2.2.2.2)]) (notes4, notes4n, notes4c, last4, IntKind.wrap .i64 (k1 + 1)) (by exact ⟨rfl, rfl, rfl, rfl, rfl, rfl, rfl, rfl, rfl, trivial⟩) h
       ·skip
        refine CW.block ?_
        refine CW.seq ?_
        refine CW.region fun L hL => ?_
        refine LW.rd hL rfl (Wants.free rfl) rfl (Rd.move (v := .slice l1 l1n l1c) rfl) ?_
        refine LW.rd hL rfl (Wants.free rfl) rfl (Rd.move (v := .int .i64 i1) rfl) ?_
        refine LW.rd hL rfl (Wants.free rfl) rfl (Rd.iaS (q := a1) (sz := 2) (by rw [← he1]; rfl) rfl Tryz.underlying22 (by kernel_rfl) hi1 hi2) ?_
        refine LW.rd hL rfl (Wants.free rfl) rfl (Rd.fa (v := .pointer (some ((a1.add (Int.toNat i1 * 2)).add 1))) rfl (fun _ => by kernel_rfl)) ?_
        refine LW.rd hL rfl (Wants.free rfl) rfl (Rd.ld (v := .slice t3 t3n t3c) rfl (by kernel_rfl) (eqs hc3)) ?_
        refine LW.rd hL rfl (Wants.free rfl) rfl (Rd.move (v := .int .i64 k1) rfl) ?_
        obtain ⟨a2, he2, hi9, hi10, h⟩ := h
        refine LW.rd hL rfl (Wants.free rfl) rfl (Rd.iaS (q := a2) (sz := 3) (by rw [← he2]; rfl) rfl Tryz.underlying75 (by kernel_rfl) hi9 hi10) ?_
        obtain ⟨t4, t5, t6, t6n, t6c, hc4, h⟩ := h
        refine LW.rd hL rfl (Wants.free rfl) rfl (Rd.ldN (cs := [.int .i64 t4, .int .i64 t5, .slice t6 t6n t6c]) rfl (by kernel_rfl) (by kernel_rfl) (cellsS hc4)) ?_
        obtain ⟨b1, hb_b1⟩ : ∃ b1, b1 = World.size w7 := ⟨_, rfl⟩
        obtain ⟨w9, hw_w9⟩ : ∃ w9, w9 = World.alloc w7 (.cells #[.int .i64 0, .int .i64 0, .slice none 0 0] 36) := ⟨_, rfl⟩
        refine LW.val hL rfl (Wants.free rfl) rfl (boxE hb_b1 hw_w9 (Vl.alloc (z := .agg #[.int .i64 0, .int .i64 0, .slice none 0 0]) (by kernel_rfl))) ?_
        have hB := Boxes.alloc (cs := [.int .i64 0, .int .i64 0, .slice none 0 0]) (T := 36) (Boxes.nil w7) hb_b1 hw_w9
        have hlo_b1 := sil_lo (Chg.refl [] w7) hb_b1
        have hc_w9 := sil_alloc (Chg.refl [] w7) hw_w9
        obtain ⟨w10, hw_w10⟩ : ∃ x, x = setCells w9 (⟨b1, 0, none⟩ : Addr) 0 [.int .i64 t4, .int .i64 t5, .slice t6 t6n t6c] := ⟨_, rfl⟩
        refine LW.eff hL rfl (Wants.free rfl) rfl (stNE hw_w10 (Ef.stN (cs := [.int .i64 t4, .int .i64 t5, .slice t6 t6n t6c]) rfl rfl (by kernel_rfl) (List.forall_mem_cons.2 ⟨rfl, (List.forall_mem_cons.2 ⟨rfl, (List.forall_mem_cons.2 ⟨rfl, (List.forall_mem_nil _)⟩)⟩)⟩) (has_of (hB.at (i := 0) rfl) (by simp)) (free_of' (hB.at (i := 0) rfl)))) ?_
        replace hB : Boxes w10 [(b1, [.int .i64 t4, .int .i64 t5, .slice t6 t6n t6c], 36)] := Boxes.store (vs := [.int .i64 t4, .int .i64 t5, .slice t6 t6n t6c]) (i := 0) (o := 0) hB rfl rfl rfl rfl hw_w10
        have hc_w10 := sil_new hc_w9 (sil_cN hw_w10) hlo_b1
        refine LW.nil hL rfl ?_
        refine NW.then ?_
        refine CW.seq ?_
        refine CW.region fun L hL => ?_
        refine LW.rd hL rfl (Wants.free rfl) rfl (Rd.fa (v := .pointer (some (⟨b1, 0, none⟩ : Addr))) rfl (fun _ => by kernel_rfl)) ?_
        refine LW.rd hL rfl (Wants.free rfl) rfl (Rd.ldN (cs := [.int .i64 t4, .int .i64 t5]) rfl (by kernel_rfl) (by kernel_rfl) (cellsS (box_cells (hB.at (i := 0) rfl) rfl))) ?_
        refine LW.rd hL rfl (Wants.free rfl) rfl (Rd.build (v := .agg #[.int .i64 0, .int .i64 0]) rfl (fun _ => by kernel_rfl)) ?_
        refine LW.rd hL rfl (Wants.free rfl) rfl (Rd.bin (v := .bool (!((t4 == 0) && (t5 == 0)))) rfl rfl (fun w => neS_25 _ _ _ _ w)) ?_
        refine LW.nil hL rfl ?_
        refine NW.then ?_
        replace h := h b1 w10 ⟨hlo_b1, lt_of_heap (hB.at (i := 0) rfl)⟩ hc_w10
        refine CW.cond rfl (fun hb5 => ?_) (fun hb5 => ?_)
        ·replace h := h.1 hb5
         refine CW.seq ?_
         obtain ⟨w11, hw_w11⟩ : ∃ x, x = World.drew w10 := ⟨_, rfl⟩
         have hc_w11 := sil_drew (Chg.refl [] w10) hw_w11
         replace hB := hB.drew hw_w11
         replace h := h  w11  hc_w11
         obtain ⟨t7, hc5, h⟩ := h
         refine CW.drawn (fun w => w.cell? (a1.add (Int.toNat i1 * 2)) = some (.int .i64 t7) ∧ Boxes w [(b1, [.int .i64 t4, .int .i64 t5, .slice t6 t6n t6c], 36)]) 12 (by kernel_rfl) fun H hH => ?_
         rw [← hw_w11]
         have hS1 : w11.cell? (a1.add (Int.toNat i1 * 2)) = some (.int .i64 t7) ∧ Boxes w11 [(b1, [.int .i64 t4, .int .i64 t5, .slice t6 t6n t6c], 36)] := ⟨hc5, hB⟩
         refine HW.pure (i := 0) hH rfl (by kernel_rfl) (Wants.free rfl) rfl (fun _ => hS1) (Rd.move (v := .slice notes3 notes3n notes3c) rfl) ?_
         refine HW.pure (i := 1) hH rfl (by kernel_rfl) (Wants.free rfl) rfl (fun _ => hS1) (Rd.move (v := .slice l1 l1n l1c) rfl) ?_
         refine HW.pure (i := 2) hH rfl (by kernel_rfl) (Wants.free rfl) rfl (fun _ => hS1) (Rd.move (v := .int .i64 i1) rfl) ?_
         refine HW.pure (i := 3) hH rfl (by kernel_rfl) (Wants.free rfl) rfl (fun _ => hS1) (Rd.iaS (q := a1) (sz := 2) (by rw [← he1]; rfl) rfl Tryz.underlying22 (by kernel_rfl) hi1 hi2) ?_
         refine HW.pure (i := 4) hH rfl (by kernel_rfl) (Wants.free rfl) rfl (fun _ => hS1) (Rd.fa (v := .pointer (some (a1.add (Int.toNat i1 * 2)))) rfl (fun _ => by kernel_rfl)) ?_
         refine HW.take (i := 5) hH rfl (by kernel_rfl) (by kernel_rfl) (Wants.free rfl) rfl (fun _ => hS1) (Rd.ld (v := .int .i64 t7) rfl (by kernel_rfl) (fun w h => h.1)) ?_
         refine HW.pure (i := 6) hH rfl (by kernel_rfl) (Wants.free rfl) rfl (fun _ => hS1) (Rd.fa (v := .pointer (some (⟨b1, 0, none⟩ : Addr))) rfl (fun _ => by kernel_rfl)) ?_
         refine HW.take (i := 7) hH rfl (by kernel_rfl) (by kernel_rfl) (Wants.free rfl) rfl (fun _ => hS1) (Rd.ldN (cs := [.int .i64 t4, .int .i64 t5]) rfl (by kernel_rfl) (by kernel_rfl) (fun w h => cellsAt_get (box_cells (Boxes.at (i := 0) h.2 rfl) rfl))) ?_
         refine HW.pure (i := 8) hH rfl (by kernel_rfl) (Wants.free rfl) rfl (fun _ => hS1) (Rd.fa (v := .pointer (some (⟨b1, 2, none⟩ : Addr))) rfl (fun _ => by kernel_rfl)) ?_
         refine HW.take (i := 9) hH rfl (by kernel_rfl) (by kernel_rfl) (Wants.free rfl) rfl (fun _ => hS1) (Rd.ld (v := .slice t6 t6n t6c) rfl (by kernel_rfl) (fun w h => box_cell (Boxes.at (i := 0) h.2 rfl) rfl)) ?_
         refine HW.pure (i := 10) hH rfl (by kernel_rfl) (Wants.free rfl) rfl (fun _ => hS1) (Rd.build (v := .agg #[.int .i64 t7, .int .i64 t4, .int .i64 t5, .slice t6 t6n t6c]) rfl (fun _ => by kernel_rfl)) ?_
         obtain ⟨b2, hb_b2⟩ : ∃ b2, b2 = World.size w11 := ⟨_, rfl⟩
         obtain ⟨w12, hw_w12⟩ : ∃ w12, w12 = World.alloc w11 (.cells #[.int .i64 t7, .int .i64 t4, .int .i64 t5, .slice t6 t6n t6c] 38) := ⟨_, rfl⟩
         replace h := h b2 hb_b2 w12 hw_w12
         have hS2 := (⟨cellAlloc hw_w12 hS1.1, ((hS1.2).grow hw_w12)⟩ : w12.cell? (a1.add (Int.toNat i1 * 2)) = some (.int .i64 t7) ∧ Boxes w12 [(b1, [.int .i64 t4, .int .i64 t5, .slice t6 t6n t6c], 36)])
         refine HW.val (i := 11) hH (by kernel_rfl) rfl (Wants.free rfl) rfl (sliceE (n := 1) hb_b2 hw_w12 (fun w => Vl.buildSlice (vs := [(0, .agg #[.int .i64 t7, .int .i64 t4, .int .i64 t5, .slice t6 t6n t6c])]) rfl (by kernel_rfl))) (fun _ => hS2) ?_
         replace hB := hB.grow hw_w12
         obtain ⟨l2, l2n, l2c, w13, ha1, h⟩ := h
         refine HW.val (i := 12) hH (by kernel_rfl) rfl (Wants.free rfl) rfl (Vl.builtin (v := .slice l2 l2n l2c) rfl (valB ha1)) (fun hc => by cases hc) ?_
         refine HW.pure (i := 13) hH rfl (by kernel_rfl) (Wants.free rfl) rfl (fun hc => by cases hc) (Rd.assign (v := .slice l2 l2n l2c) rfl) ?_
         refine HW.done hH (by kernel_rfl) ?_
         refine NW.then ?_
         refine CW.region fun L hL => ?_
         refine LW.rd hL rfl (Wants.free rfl) rfl (Rd.move (v := .slice l1 l1n l1c) rfl) ?_
         refine LW.rd hL rfl (Wants.free rfl) rfl (Rd.move (v := .int .i64 i1) rfl) ?_
         refine LW.rd hL rfl (Wants.free rfl) rfl (Rd.iaS (q := a1) (sz := 2) (by rw [← he1]; rfl) rfl Tryz.underlying22 (by kernel_rfl) hi1 hi2) ?_
         refine LW.rd hL rfl (Wants.free rfl) rfl (Rd.fa (v := .pointer (some (a1.add (Int.toNat i1 * 2)))) rfl (fun _ => by kernel_rfl)) ?_
         obtain ⟨t8, hc6, h⟩ := h
         refine LW.rd hL rfl (Wants.free rfl) rfl (Rd.ld (v := .int .i64 t8) rfl (by kernel_rfl) (eqs hc6)) ?_
         refine LW.rd hL rfl (Wants.free rfl) rfl (Rd.assign (v := .int .i64 t8) rfl) ?_
         refine LW.nil hL rfl ?_
         refine NW.block ?_
         exact NW.cut (S := (Option Addr) × Nat × Nat × Int) (Ek := fun s4 => [(0, .slice l1 l1n l1c), (2, .pointer x1), (3, .slice x2 x2n x2c), (4, .bool x3), (5, .pointer r4), (8, .int .i64 i1), (10, .int .i64 k1), (6, .slice s4.1 s4.2.1 s4.2.2.1), (7, .int .i64 s4.2.2.2)]) (l2, l2n, l2c, t8) (by exact ⟨rfl, rfl, rfl, rfl, rfl, rfl, rfl, rfl, rfl, trivial⟩) h
        ·replace h := h.2 hb5
         refine CW.skip ?_
         refine NW.block ?_
         exact NW.cut (S := (Option Addr) × Nat × Nat × Int) (Ek := fun s4 => [(0, .slice l1 l1n l1c), (2, .pointer x1), (3, .slice x2 x2n x2c), (4, .bool x3), (5, .pointer r4), (8, .int .i64 i1), (10, .int .i64 k1), (6, .slice s4.1 s4.2.1 s4.2.2.1), (7, .int .i64 s4.2.2.2)]) (notes3, notes3n, notes3c, last3) (by exact ⟨rfl, rfl, rfl, rfl, rfl, rfl, rfl, rfl, rfl, trivial⟩) h
      ·replace h := h.2 hb4
       refine CW.exit ?_
       refine XW.then ?_
       refine XW.then ?_
       refine XW.hit ?_
       refine NW.block ?_
       exact NW.cut (S := (Option Addr) × (Option Addr) × Nat × Nat × Bool × (Option Addr) × Nat × Nat × Int) (Ek := fun s2 => [(0, .slice l1 l1n l1c), (5, .pointer r4), (8, .int .i64 i1), (2, .pointer s2.1), (3, .slice s2.2.1 s2.2.2.1 s2.2.2.2.1), (4, .bool s2.2.2.2.2.1), (6, .slice s2.2.2.2.2.2.1 s2.2.2.2.2.2.2.1 s2.2.2.2.2.2.2.2.1), (7, .int .i64 s2.2.2.2.2.2.2.2.2)]) (x1, x2, x2n, x2c, x3, notes3, notes3n, notes3c, last3) (by exact ⟨rfl, rfl, rfl, rfl, rfl, rfl, rfl, rfl, trivial⟩) h
   ·skip
    refine CW.seq ?_
    refine CW.region fun L hL => ?_
    refine LW.rd hL rfl (Wants.free rfl) rfl (Rd.move (v := .slice l1 l1n l1c) rfl) ?_
    refine LW.rd hL rfl (Wants.free rfl) rfl (Rd.move (v := .int .i64 i1) rfl) ?_
    obtain ⟨a3, he3, hi15, hi16, h⟩ := h
    refine LW.rd hL rfl (Wants.free rfl) rfl (Rd.iaS (q := a3) (sz := 2) (by rw [← he3]; rfl) rfl Tryz.underlying22 (by kernel_rfl) hi15 hi16) ?_
    refine LW.rd hL rfl (Wants.free rfl) rfl (Rd.fa (v := .pointer (some (a3.add (Int.toNat i1 * 2)))) rfl (fun _ => by kernel_rfl)) ?_
    obtain ⟨t9, hc7, h⟩ := h
    refine LW.rd hL rfl (Wants.free rfl) rfl (Rd.ld (v := .int .i64 t9) rfl (by kernel_rfl) (eqs hc7)) ?_
    refine LW.rd hL rfl (Wants.free rfl) rfl (Rd.bin (v := .bool (decide (t9 < 0))) rfl rfl (fun w => by kernel_rfl)) ?_
    refine LW.rd hL rfl (Wants.free rfl) rfl (Rd.move (v := .bool (decide (t9 < 0))) rfl) ?_
    obtain ⟨J4, hJ4, h1_J4, h0_J4⟩ := h
    suffices K1 : ∀ (b3 : Bool) (w14 : World), J4 b3 w14 → L 15 [(0, .slice l1 l1n l1c), (2, .pointer x1), (3, .slice x2 x2n x2c), (4, .bool x3), (5, .pointer r4), (6, .slice notes1 notes1n notes1c), (7, .int .i64 last1), (8, .int .i64 i1), (9, .int .i64 0), (33, .bool b3)] w14 by
     rcases Bool.eq_false_or_eq_true (decide (t9 < 0)) with hb6 | hb6
     ·have h := h0_J4 hb6
      refine LW.skip hL rfl (Skips.on rfl rfl rfl rfl rfl hb6) rfl ?_
      refine LW.skip hL rfl (Skips.on rfl rfl rfl rfl rfl hb6) rfl ?_
      refine LW.skip hL rfl (Skips.on rfl rfl rfl rfl rfl hb6) rfl ?_
      refine LW.skip hL rfl (Skips.on rfl rfl rfl rfl rfl hb6) rfl ?_
      refine LW.skip hL rfl (Skips.on rfl rfl rfl rfl rfl hb6) rfl ?_
      refine LW.skip hL rfl (Skips.on rfl rfl rfl rfl rfl hb6) rfl ?_
      refine LW.skip hL rfl (Skips.on rfl rfl rfl rfl rfl hb6) rfl ?_
      refine LW.rd hL rfl (Wants.free rfl) rfl (Rd.pickT rfl hb6 rfl) ?_
      exact LW.sub hL (by exact ⟨rfl, rfl, rfl, rfl, rfl, rfl, rfl, rfl, rfl, rfl, trivial⟩) (K1 true w2 h)
     ·have h := h1_J4 hb6
      refine LW.rd hL rfl (Wants.on rfl rfl rfl rfl rfl hb6) rfl (Rd.move (v := .slice l1 l1n l1c) rfl) ?_
      refine LW.rd hL rfl (Wants.on rfl rfl rfl rfl rfl hb6) rfl (Rd.move (v := .int .i64 i1) rfl) ?_
      refine LW.rd hL rfl (Wants.on rfl rfl rfl rfl rfl hb6) rfl (Rd.iaS (q := a3) (sz := 2) (by rw [← he3]; rfl) rfl Tryz.underlying22 (by kernel_rfl) hi15 hi16) ?_
      refine LW.rd hL rfl (Wants.on rfl rfl rfl rfl rfl hb6) rfl (Rd.fa (v := .pointer (some (a3.add (Int.toNat i1 * 2)))) rfl (fun _ => by kernel_rfl)) ?_
      refine LW.rd hL rfl (Wants.on rfl rfl rfl rfl rfl hb6) rfl (Rd.ld (v := .int .i64 t9) rfl (by kernel_rfl) (eqs hc7)) ?_
      refine LW.rd hL rfl (Wants.on rfl rfl rfl rfl rfl hb6) rfl (Rd.move (v := .int .i64 last1) rfl) ?_
      refine LW.rd hL rfl (Wants.on rfl rfl rfl rfl rfl hb6) rfl (Rd.bin (v := .bool (decide (t9 < last1))) rfl rfl (fun w => by kernel_rfl)) ?_
      refine LW.rd hL rfl (Wants.free rfl) rfl (Rd.pickF rfl hb6 rfl) ?_
      exact LW.sub hL (by exact ⟨rfl, rfl, rfl, rfl, rfl, rfl, rfl, rfl, rfl, rfl, trivial⟩) (K1 (decide (t9 < last1)) w2 h)
    intro b3 w14 h_
    have h := hJ4 b3 w14 h_; clear h_
    refine LW.nil hL rfl ?_
    refine NW.then ?_
    refine CW.cond rfl (fun hb7 => ?_) (fun hb7 => ?_)
    ·replace h := h.1 hb7
     refine CW.region fun L hL => ?_
     refine LW.rd hL rfl (Wants.free rfl) rfl (Rd.assign (v := .int .i64 2) rfl) ?_
     refine LW.nil hL rfl ?_
     exact NW.cut (S := Int) (Ek := fun want1 => [(0, .slice l1 l1n l1c), (2, .pointer x1), (3, .slice x2 x2n x2c), (4, .bool x3), (5, .pointer r4), (6, .slice notes1 notes1n notes1c), (7, .int .i64 last1), (8, .int .i64 i1), (9, .int .i64 want1)]) 2 (by exact ⟨rfl, rfl, rfl, rfl, rfl, rfl, rfl, rfl, rfl, trivial⟩) h
    ·replace h := h.2 hb7
     refine CW.skip ?_
     exact NW.cut (S := Int) (Ek := fun want1 => [(0, .slice l1 l1n l1c), (2, .pointer x1), (3, .slice x2 x2n x2c), (4, .bool x3), (5, .pointer r4), (6, .slice notes1 notes1n notes1c), (7, .int .i64 last1), (8, .int .i64 i1), (9, .int .i64 want1)]) 0 (by exact ⟨rfl, rfl, rfl, rfl, rfl, rfl, rfl, rfl, rfl, trivial⟩) h
 ·replace h := h.2 hb1
  refine CW.exit ?_
  refine XW.then ?_
  refine XW.then ?_
  refine XW.hit ?_
  refine NW.then ?_
  refine CW.seq ?_
  refine CW.region fun L hL => ?_
  refine LW.rd hL rfl (Wants.free rfl) rfl (Rd.move (v := .pointer r4) rfl) ?_
  refine LW.rd hL rfl (Wants.free rfl) rfl (Rd.move (v := .slice notes1 notes1n notes1c) rfl) ?_
  refine LW.rd hL rfl (Wants.free rfl) rfl (Rd.move (v := .pointer r4) rfl) ?_
  refine LW.call hL rfl (Wants.free rfl) rfl (Cl.fn (f := 15) rfl Tryz.func15 (by kernel_rfl) rfl) h (fun e w15 h_ => ?_)
  clear h
  obtain ⟨r6, rfl, h⟩ := h_
  refine ⟨_, rfl, ?_⟩
  refine LW.rd hL rfl (Wants.free rfl) rfl (Rd.move (v := .slice notes1 notes1n notes1c) rfl) ?_
  refine LW.rd hL rfl (Wants.free rfl) rfl (Rd.builtin (v := .int .i64 (notes1n : Int)) rfl (fun _ _ => by kernel_rfl)) ?_
  refine LW.rd hL rfl (Wants.free rfl) rfl (Rd.bin (v := .bool (r6 == (notes1n : Int))) rfl rfl (fun w => by kernel_rfl)) ?_
  refine LW.rd hL rfl (Wants.free rfl) rfl (Rd.assign (v := .pointer r4) rfl) ?_
  refine LW.rd hL rfl (Wants.free rfl) rfl (Rd.assign (v := .slice notes1 notes1n notes1c) rfl) ?_
  refine LW.rd hL rfl (Wants.free rfl) rfl (Rd.assign (v := .bool (r6 == (notes1n : Int))) rfl) ?_
  refine LW.nil hL rfl ?_
  refine NW.then ?_
  refine CW.ret ?_
  exact res3 rfl rfl rfl rfl ⟨r4, notes1, notes1n, notes1c, r6 == (notes1n : Int), rfl, h⟩
/- pomander/pomanderref10.SamePlaces -/
def W_pomanderref10_SamePlaces (a1 : Option Addr) (a1n : Nat) (a1c : Nat) (b1 : Option Addr) (b1n : Nat) (b1c : Nat) (w : World) (R : Bool → World → Prop) : Prop :=
 ((!((a1n : Int) == (b1n : Int))) = true → R false w) ∧ ((!((a1n : Int) == (b1n : Int))) = false → ∃ (I1 : Bool → Int → World → Prop) (m1 : Bool → Int → World → Nat), I1 false 0 w ∧ ∀ (x1 : Bool) (i1 : Int) (w1 : World), I1 x1 i1 w1 → ((decide (i1 < (a1n : Int))) = true → ∃ a2 : Addr, a1 = some a2 ∧ (0 : Int) ≤ i1 ∧ i1 < (a1n : Int) ∧ (∀ (w2 : World), Chg [] w1 w2 → (∃ (t1 : Int) (t2 : Int), CellsAt w2 (a2.add (Int.toNat i1 * 2)) 0 [.int .i64 t1, .int .i64 t2] ∧ (∃ a3 : Addr, b1 = some a3 ∧ (0 : Int) ≤ i1 ∧ i1 < (b1n : Int) ∧ (∃ (t3 : Int) (t4 : Int), CellsAt w2 (a3.add (Int.toNat i1 * 2)) 0 [.int .i64 t3, .int .i64 t4] ∧ (((!((t1 == t3) && (t2 == t4))) = true → R false w2) ∧ ((!((t1 == t3) && (t2 == t4))) = false → (I1 x1 (IntKind.wrap .i64 (i1 + 1)) w2 ∧ m1 x1 (IntKind.wrap .i64 (i1 + 1)) w2 < m1 x1 i1 w1)))))))) ∧ ((decide (i1 < (a1n : Int))) = false → R true w1))
set_option maxRecDepth 100000 in
theorem go_pomanderref10_SamePlaces (a1 : Option Addr) (a1n : Nat) (a1c : Nat) (b1 : Option Addr) (b1n : Nat) (b1c : Nat) (w : World) (R : Bool → World → Prop) (h : W_pomanderref10_SamePlaces a1 a1n a1c b1 b1n b1c w R) : Calls Tryz.prog 22 #[.slice a1 a1n a1c, .slice b1 b1n b1c] w (fun e w' => ∃ (r1 : Bool), e = .returned (.bool r1) ∧ R r1 w') := by
 unfold W_pomanderref10_SamePlaces at h
 refine enter (N := 26) Tryz.func22 rfl rfl ?_
 refine CW.seq ?_
 refine CW.region fun L hL => ?_
 refine LW.rd hL rfl (Wants.free rfl) rfl (Rd.assign (v := .bool false) rfl) ?_
 refine LW.nil hL rfl ?_
 refine NW.then ?_
 refine CW.seq ?_
 refine CW.seq ?_
 refine CW.region fun L hL => ?_
 refine LW.rd hL rfl (Wants.free rfl) rfl (Rd.move (v := .slice a1 a1n a1c) rfl) ?_
 refine LW.rd hL rfl (Wants.free rfl) rfl (Rd.builtin (v := .int .i64 (a1n : Int)) rfl (fun _ _ => by kernel_rfl)) ?_
 refine LW.rd hL rfl (Wants.free rfl) rfl (Rd.move (v := .slice b1 b1n b1c) rfl) ?_
 refine LW.rd hL rfl (Wants.free rfl) rfl (Rd.builtin (v := .int .i64 (b1n : Int)) rfl (fun _ _ => by kernel_rfl)) ?_
 refine LW.rd hL rfl (Wants.free rfl) rfl (Rd.bin (v := .bool (!((a1n : Int) == (b1n : Int)))) rfl rfl (fun w => by kernel_rfl)) ?_
 refine LW.nil hL rfl ?_
 refine NW.then ?_
 refine CW.cond rfl (fun hb1 => ?_) (fun hb1 => ?_)
 ·replace h := h.1 hb1
  refine CW.seq ?_
  refine CW.region fun L hL => ?_
  refine LW.rd hL rfl (Wants.free rfl) rfl (Rd.assign (v := .bool false) rfl) ?_
  refine LW.nil hL rfl ?_
  refine NW.then ?_
  refine CW.ret ?_
  refine RW.then ?_
  exact res1 rfl rfl ⟨false, rfl, h⟩
 ·replace h := h.2 hb1
  refine CW.skip ?_
  refine NW.then ?_
  refine CW.seq ?_
  refine CW.seq ?_
  refine CW.region fun L hL => ?_
  refine LW.rd hL rfl (Wants.free rfl) rfl (Rd.assign (v := .int .i64 0) rfl) ?_
  refine LW.nil hL rfl ?_
  refine NW.then ?_
  refine CW.block ?_
  obtain ⟨I1, m1, hI1, h⟩ := h
  refine CW.loop (S := Bool × Int) (fun s1 => [(0, .slice a1 a1n a1c), (1, .slice b1 b1n b1c), (4, .bool s1.1), (5, .int .i64 s1.2)]) (fun s1 w1 => I1 s1.1 s1.2 w1) (fun s1 w1 => m1 s1.1 s1.2 w1) (false, 0) (by exact ⟨rfl, rfl, rfl, rfl, trivial⟩) hI1 (fun s1 w1 hI1 => ?_)
  obtain ⟨x1, i1⟩ := s1; replace h := h x1 i1 w1 hI1
  refine CW.seq ?_
  refine CW.seq ?_
  refine CW.region fun L hL => ?_
  refine LW.rd hL rfl (Wants.free rfl) rfl (Rd.move (v := .int .i64 i1) rfl) ?_
  refine LW.rd hL rfl (Wants.free rfl) rfl (Rd.move (v := .slice a1 a1n a1c) rfl) ?_
  refine LW.rd hL rfl (Wants.free rfl) rfl (Rd.builtin (v := .int .i64 (a1n : Int)) rfl (fun _ _ => by kernel_rfl)) ?_
  refine LW.rd hL rfl (Wants.free rfl) rfl (Rd.bin (v := .bool (decide (i1 < (a1n : Int)))) rfl rfl (fun w => by kernel_rfl)) ?_
  refine LW.nil hL rfl ?_
  refine NW.then ?_
  refine CW.cond rfl (fun hb2 => ?_) (fun hb2 => ?_)
  ·replace h := h.1 hb2
   refine CW.skip ?_
   refine NW.then ?_
   refine CW.seq ?_
   refine CW.block ?_
   refine CW.seq ?_
   obtain ⟨w2, hw_w2⟩ : ∃ x, x = World.drew w1 := ⟨_, rfl⟩
   have hc_w2 := sil_drew (Chg.refl [] w1) hw_w2
   refine CW.drawn (fun w => w = w2) 9 (by kernel_rfl) fun H hH => ?_
   rw [← hw_w2]
   refine HW.pure (i := 0) hH rfl (by kernel_rfl) (Wants.free rfl) rfl (fun _ => rfl) (Rd.move (v := .slice a1 a1n a1c) rfl) ?_
   refine HW.pure (i := 1) hH rfl (by kernel_rfl) (Wants.free rfl) rfl (fun _ => rfl) (Rd.move (v := .int .i64 i1) rfl) ?_
   obtain ⟨a2, he1, hi1, hi2, h⟩ := h
   refine HW.pure (i := 2) hH rfl (by kernel_rfl) (Wants.free rfl) rfl (fun _ => rfl) (Rd.iaS (q := a2) (sz := 2) (by rw [← he1]; rfl) rfl Tryz.underlying34 (by kernel_rfl) hi1 hi2) ?_
   replace h := h  w2  hc_w2
   obtain ⟨t1, t2, hc1, h⟩ := h
   refine HW.take (i := 3) hH rfl (by kernel_rfl) (by kernel_rfl) (Wants.free rfl) rfl (fun _ => rfl) (Rd.ldN (cs := [.int .i64 t1, .int .i64 t2]) rfl (by kernel_rfl) (by kernel_rfl) (cellsS hc1)) ?_
   refine HW.pure (i := 4) hH rfl (by kernel_rfl) (Wants.free rfl) rfl (fun _ => rfl) (Rd.move (v := .slice b1 b1n b1c) rfl) ?_
   refine HW.pure (i := 5) hH rfl (by kernel_rfl) (Wants.free rfl) rfl (fun _ => rfl) (Rd.move (v := .int .i64 i1) rfl) ?_
   obtain ⟨a3, he2, hi3, hi4, h⟩ := h
   refine HW.pure (i := 6) hH rfl (by kernel_rfl) (Wants.free rfl) rfl (fun _ => rfl) (Rd.iaS (q := a3) (sz := 2) (by rw [← he2]; rfl) rfl Tryz.underlying34 (by kernel_rfl) hi3 hi4) ?_
   obtain ⟨t3, t4, hc2, h⟩ := h
   refine HW.take (i := 7) hH rfl (by kernel_rfl) (by kernel_rfl) (Wants.free rfl) rfl (fun _ => rfl) (Rd.ldN (cs := [.int .i64 t3, .int .i64 t4]) rfl (by kernel_rfl) (by kernel_rfl) (cellsS hc2)) ?_
   refine HW.pure (i := 8) hH rfl (by kernel_rfl) (Wants.free rfl) rfl (fun _ => rfl) (Rd.bin (v := .bool (!((t1 == t3) && (t2 == t4)))) rfl rfl (fun w => neS_25 _ _ _ _ w)) ?_
   refine HW.done hH (by kernel_rfl) ?_
   refine NW.then ?_
   refine CW.cond rfl (fun hb3 => ?_) (fun hb3 => ?_)
   ·replace h := h.1 hb3
    refine CW.seq ?_
    refine CW.region fun L hL => ?_
    refine LW.rd hL rfl (Wants.free rfl) rfl (Rd.assign (v := .bool false) rfl) ?_
    refine LW.nil hL rfl ?_
    refine NW.then ?_
    refine CW.ret ?_
    refine RW.block ?_
    refine RW.then ?_
    refine RW.then ?_
    refine RW.block ?_
    refine RW.then ?_
    exact res1 rfl rfl ⟨false, rfl, h⟩
   ·replace h := h.2 hb3
    refine CW.skip ?_
    refine NW.block ?_
    refine NW.then ?_
    refine CW.region fun L hL => ?_
    refine LW.rd hL rfl (Wants.free rfl) rfl (Rd.move (v := .int .i64 i1) rfl) ?_
    refine LW.rd hL rfl (Wants.free rfl) rfl (Rd.bin (v := .int .i64 (IntKind.wrap .i64 (i1 + 1))) rfl rfl (fun w => by kernel_rfl)) ?_
    refine LW.rd hL rfl (Wants.free rfl) rfl (Rd.assign (v := .int .i64 (IntKind.wrap .i64 (i1 + 1))) rfl) ?_
    refine LW.nil hL rfl ?_
    exact NW.loop (S := Bool × Int) (Ek := fun s1 => [(0, .slice a1 a1n a1c), (1, .slice b1 b1n b1c), (4, .bool s1.1), (5, .int .i64 s1.2)]) (x1, IntKind.wrap .i64 (i1 + 1)) (by exact ⟨rfl, rfl, rfl, rfl, trivial⟩) h
  ·replace h := h.2 hb2
   refine CW.exit ?_
   refine XW.then ?_
   refine XW.then ?_
   refine XW.hit ?_
   refine NW.then ?_
   refine CW.seq ?_
   refine CW.region fun L hL => ?_
   refine LW.rd hL rfl (Wants.free rfl) rfl (Rd.assign (v := .bool true) rfl) ?_
   refine LW.nil hL rfl ?_
   refine NW.then ?_
   refine CW.ret ?_
   exact res1 rfl rfl ⟨true, rfl, h⟩
/- pomander/pomanderlaw14.alike -/
def W_pomanderlaw14_alike (a1 : Int) (a2 : Int) (a3 : Int) (a4 : Option Addr) (a4n : Nat) (a4c : Nat) (b1 : Int) (b2 : Int) (b3 : Int) (b4 : Option Addr) (b4n : Nat) (b4c : Nat) (w : World) (R : Bool → World → Prop) : Prop :=
 ∀ (b6 b5 : Nat) (w2 : World), (w.heap.size ≤ b6 ∧ b6 < w2.heap.size) → (w.heap.size ≤ b5 ∧ b5 < w2.heap.size) → Chg [] w w2 → (∃ J1 : Bool → World → Prop, (∀ (b7 : Bool) (w3 : World), J1 b7 w3 → ∃ J2 : Bool → World → Prop, (∀ (b8 : Bool) (w4 : World), J2 b8 w4 → R b8 w4) ∧ ((b7 = true → Calls Tryz.prog 22 #[.slice a4 a4n a4c, .slice b4 b4n b4c] w3 fun e w5 => ∃ (r2 : Bool), e = .returned (.bool r2) ∧ (J2 r2 w5)) ∧ (b7 = false → J2 false w3))) ∧ (((a1 == b1) = true → J1 ((a2 == b2) && (a3 == b3)) w2) ∧ ((a1 == b1) = false → J1 false w2)))
set_option maxRecDepth 100000 in
theorem go_pomanderlaw14_alike (a1 : Int) (a2 : Int) (a3 : Int) (a4 : Option Addr) (a4n : Nat) (a4c : Nat) (b1 : Int) (b2 : Int) (b3 : Int) (b4 : Option Addr) (b4n : Nat) (b4c : Nat) (w : World) (R : Bool → World → Prop) (h : W_pomanderlaw14_alike a1 a2 a3 a4 a4n a4c b1 b2 b3 b4 b4n b4c w R) : Calls Tryz.prog 12 #[.agg #[.int .i64 a1, .int .i64 a2, .int .i64 a3, .slice a4 a4n a4c], .agg #[.int .i64 b1, .int .i64 b2, .int .i64 b3, .slice b4 b4n b4c]] w (fun e w' => ∃ (r1 : Bool), e = .returned (.bool r1) ∧ R r1 w') := by
 unfold W_pomanderlaw14_alike at h
 refine enter (N := 24) Tryz.func12 rfl rfl ?_
 refine CW.seq ?_
 refine CW.region fun L hL => ?_
 obtain ⟨b5, hb_b5⟩ : ∃ b5, b5 = World.size w := ⟨_, rfl⟩
 obtain ⟨w1, hw_w1⟩ : ∃ w1, w1 = World.alloc w (.cells #[.int .i64 a1, .int .i64 a2, .int .i64 a3, .slice a4 a4n a4c] 38) := ⟨_, rfl⟩
 refine LW.val hL rfl (Wants.free rfl) rfl (boxE hb_b5 hw_w1 (Vl.box (v := .agg #[.int .i64 a1, .int .i64 a2, .int .i64 a3, .slice a4 a4n a4c]) rfl)) ?_
 have hB := Boxes.alloc (cs := [.int .i64 a1, .int .i64 a2, .int .i64 a3, .slice a4 a4n a4c]) (T := 38) (Boxes.nil w) hb_b5 hw_w1
 have hlo_b5 := sil_lo (Chg.refl [] w) hb_b5
 have hc_w1 := sil_alloc (Chg.refl [] w) hw_w1
 obtain ⟨b6, hb_b6⟩ : ∃ b6, b6 = World.size w1 := ⟨_, rfl⟩
 obtain ⟨w2, hw_w2⟩ : ∃ w2, w2 = World.alloc w1 (.cells #[.int .i64 b1, .int .i64 b2, .int .i64 b3, .slice b4 b4n b4c] 38) := ⟨_, rfl⟩
 refine LW.val hL rfl (Wants.free rfl) rfl (boxE hb_b6 hw_w2 (Vl.box (v := .agg #[.int .i64 b1, .int .i64 b2, .int .i64 b3, .slice b4 b4n b4c]) rfl)) ?_
 replace hB := Boxes.alloc (cs := [.int .i64 b1, .int .i64 b2, .int .i64 b3, .slice b4 b4n b4c]) (T := 38) hB hb_b6 hw_w2
 have hlo_b6 := sil_lo hc_w1 hb_b6
 have hc_w2 := sil_alloc hc_w1 hw_w2
 refine LW.rd hL rfl (Wants.free rfl) rfl (Rd.assign (v := .bool false) rfl) ?_
 refine LW.nil hL rfl ?_
 refine NW.then ?_
 refine CW.seq ?_
 refine CW.region fun L hL => ?_
 refine LW.rd hL rfl (Wants.free rfl) rfl (Rd.fa (v := .pointer (some (⟨b5, 0, none⟩ : Addr))) rfl (fun _ => by kernel_rfl)) ?_
 refine LW.rd hL rfl (Wants.free rfl) rfl (Rd.ld (v := .int .i64 a1) rfl (by kernel_rfl) (eqs (box_cell (hB.at (i := 1) rfl) rfl))) ?_
 refine LW.rd hL rfl (Wants.free rfl) rfl (Rd.fa (v := .pointer (some (⟨b6, 0, none⟩ : Addr))) rfl (fun _ => by kernel_rfl)) ?_
 refine LW.rd hL rfl (Wants.free rfl) rfl (Rd.ld (v := .int .i64 b1) rfl (by kernel_rfl) (eqs (box_cell (hB.at (i := 0) rfl) rfl))) ?_
 refine LW.rd hL rfl (Wants.free rfl) rfl (Rd.bin (v := .bool (a1 == b1)) rfl rfl (fun w => by kernel_rfl)) ?_
 refine LW.rd hL rfl (Wants.free rfl) rfl (Rd.move (v := .bool (a1 == b1)) rfl) ?_
 replace h := h b6 b5 w2 ⟨hlo_b6, lt_of_heap (hB.at (i := 0) rfl)⟩ ⟨hlo_b5, lt_of_heap (hB.at (i := 1) rfl)⟩ hc_w2
 obtain ⟨J1, hJ1, h1_J1, h0_J1⟩ := h
 suffices K1 : ∀ (b7 : Bool) (w3 : World), Boxes w3 [(b6, [.int .i64 b1, .int .i64 b2, .int .i64 b3, .slice b4 b4n b4c], 38), (b5, [.int .i64 a1, .int .i64 a2, .int .i64 a3, .slice a4 a4n a4c], 38)] → J1 b7 w3 → L 12 [(2, .pointer (some (⟨b5, 0, none⟩ : Addr))), (3, .pointer (some (⟨b6, 0, none⟩ : Addr))), (4, .bool false), (16, .bool b7)] w3 by
  rcases Bool.eq_false_or_eq_true (a1 == b1) with hb1 | hb1
  ·have h := h1_J1 hb1
   refine LW.rd hL rfl (Wants.on rfl rfl rfl rfl rfl hb1) rfl (Rd.fa (v := .pointer (some (⟨b5, 1, none⟩ : Addr))) rfl (fun _ => by kernel_rfl)) ?_
   refine LW.rd hL rfl (Wants.on rfl rfl rfl rfl rfl hb1) rfl (Rd.ldN (cs := [.int .i64 a2, .int .i64 a3]) rfl (by kernel_rfl) (by kernel_rfl) (cellsS (box_cells (hB.at (i := 1) rfl) rfl))) ?_
   refine LW.rd hL rfl (Wants.on rfl rfl rfl rfl rfl hb1) rfl (Rd.fa (v := .pointer (some (⟨b6, 1, none⟩ : Addr))) rfl (fun _ => by kernel_rfl)) ?_
   refine LW.rd hL rfl (Wants.on rfl rfl rfl rfl rfl hb1) rfl (Rd.ldN (cs := [.int .i64 b2, .int .i64 b3]) rfl (by kernel_rfl) (by kernel_rfl) (cellsS (box_cells (hB.at (i := 0) rfl) rfl))) ?_
   refine LW.rd hL rfl (Wants.on rfl rfl rfl rfl rfl hb1) rfl (Rd.bin (v := .bool ((a2 == b2) && (a3 == b3))) rfl rfl (fun w => eqS_25 _ _ _ _ w)) ?_
   refine LW.rd hL rfl (Wants.free rfl) rfl (Rd.pickT rfl hb1 rfl) ?_
   exact LW.sub hL (by exact ⟨rfl, rfl, rfl, rfl, trivial⟩) (K1 ((a2 == b2) && (a3 == b3)) w2 (by exact hB) h)
  ·have h := h0_J1 hb1
   refine LW.skip hL rfl (Skips.on rfl rfl rfl rfl rfl hb1) rfl ?_
   refine LW.skip hL rfl (Skips.on rfl rfl rfl rfl rfl hb1) rfl ?_
   refine LW.skip hL rfl (Skips.on rfl rfl rfl rfl rfl hb1) rfl ?_
   refine LW.skip hL rfl (Skips.on rfl rfl rfl rfl rfl hb1) rfl ?_
   refine LW.skip hL rfl (Skips.on rfl rfl rfl rfl rfl hb1) rfl ?_
   refine LW.rd hL rfl (Wants.free rfl) rfl (Rd.pickF rfl hb1 rfl) ?_
   exact LW.sub hL (by exact ⟨rfl, rfl, rfl, rfl, trivial⟩) (K1 false w2 (by exact hB) h)
 intro b7 w3 hB h_
 have h := hJ1 b7 w3 h_; clear h_
 refine LW.rd hL rfl (Wants.free rfl) rfl (Rd.move (v := .bool b7) rfl) ?_
 obtain ⟨J2, hJ2, h1_J2, h0_J2⟩ := h
 suffices K2 : ∀ (b8 : Bool) (w4 : World), J2 b8 w4 → L 19 [(4, .bool false), (23, .bool b8)] w4 by
  rcases Bool.eq_false_or_eq_true b7 with hb2 | hb2
  ·have h := h1_J2 hb2
   refine LW.rd hL rfl (Wants.on rfl rfl rfl rfl rfl hb2) rfl (Rd.fa (v := .pointer (some (⟨b5, 3, none⟩ : Addr))) rfl (fun _ => by kernel_rfl)) ?_
   refine LW.rd hL rfl (Wants.on rfl rfl rfl rfl rfl hb2) rfl (Rd.ld (v := .slice a4 a4n a4c) rfl (by kernel_rfl) (eqs (box_cell (hB.at (i := 1) rfl) rfl))) ?_
   refine LW.rd hL rfl (Wants.on rfl rfl rfl rfl rfl hb2) rfl (Rd.fa (v := .pointer (some (⟨b6, 3, none⟩ : Addr))) rfl (fun _ => by kernel_rfl)) ?_
   refine LW.rd hL rfl (Wants.on rfl rfl rfl rfl rfl hb2) rfl (Rd.ld (v := .slice b4 b4n b4c) rfl (by kernel_rfl) (eqs (box_cell (hB.at (i := 0) rfl) rfl))) ?_
   refine LW.call hL rfl (Wants.on rfl rfl rfl rfl rfl hb2) rfl (Cl.fn (f := 22) rfl Tryz.func22 (by kernel_rfl) rfl) h (fun e w5 h_ => ?_)
   clear h
   obtain ⟨r2, rfl, h⟩ := h_
   refine ⟨_, rfl, ?_⟩
   refine LW.rd hL rfl (Wants.free rfl) rfl (Rd.pickT rfl hb2 rfl) ?_
   exact LW.sub hL (by exact ⟨rfl, rfl, trivial⟩) (K2 r2 w5 h)
  ·have h := h0_J2 hb2
   refine LW.skip hL rfl (Skips.on rfl rfl rfl rfl rfl hb2) rfl ?_
   refine LW.skip hL rfl (Skips.on rfl rfl rfl rfl rfl hb2) rfl ?_
   refine LW.skip hL rfl (Skips.on rfl rfl rfl rfl rfl hb2) rfl ?_
   refine LW.skip hL rfl (Skips.on rfl rfl rfl rfl rfl hb2) rfl ?_
   refine LW.skip hL rfl (Skips.on rfl rfl rfl rfl rfl hb2) rfl ?_
   refine LW.rd hL rfl (Wants.free rfl) rfl (Rd.pickF rfl hb2 rfl) ?_
   exact LW.sub hL (by exact ⟨rfl, rfl, trivial⟩) (K2 false w3 h)
 intro b8 w4 h_
 have h := hJ2 b8 w4 h_; clear h_
 refine LW.rd hL rfl (Wants.free rfl) rfl (Rd.assign (v := .bool b8) rfl) ?_
 refine LW.nil hL rfl ?_
 refine NW.then ?_
 refine CW.ret ?_
 exact res1 rfl rfl ⟨b8, rfl, h⟩
end Go.Proofs.YtfcfkhbkkfpehaaGreatDoor
end
section
namespace Go.Proofs.YtfcfkhbkkfpehaaGreatDoor
open Go Go.X
def z188_XQ4 : List Value := List.replicate 24 (Value.int .u8 0)
/- pomander/query.Text -/
def W_query_Text (p1 : Int) (p2 : Int) (w : World) (R : ByteArray → World → Prop) : Prop :=
 ∀ (b1 : Nat) (w1 : World), (w.heap.size ≤ b1 ∧ b1 < w1.heap.size) → Chg [] w w1 → (∃ J1 : Bool → World → Prop, (∀ (b2 : Bool) (w2 : World), J1 b2 w2 → (b2 = true → R ⟨#[63]⟩ w2) ∧ (b2 = false → ∃ J2 : Bool → World → Prop, (∀ (b3 : Bool) (w3 : World), J2 b3 w3 → (b3 = true → ∀ (w4 : World), Chg [] w3 w4 → (Calls Tryz.prog 43 #[] w4 fun e w5 => ∃ (r2 : ByteArray) (r3 : ByteArray) (r4 : ByteArray) (r5 : ByteArray) (r6 : ByteArray) (r7 : ByteArray) (r8 : ByteArray) (r9 : ByteArray) (r10 : ByteArray) (r11 : ByteArray) (r12 : ByteArray) (r13 : ByteArray) (r14 : ByteArray) (r15 : ByteArray) (r16 : ByteArray) (r17 : ByteArray) (r18 : ByteArray) (r19 : ByteArray), e = .returned (.agg #[.string r2, .string r3, .string r4, .string r5, .string r6, .string r7, .string r8, .string r9, .string r10, .string r11, .string r12, .string r13, .string r14, .string r15, .string r16, .string r17, .string r18, .string r19]) ∧ (Same w4 w5 [b1] ∧ (∃ (x1 : ByteArray), (∀ w : World, (Instr.index 109 (.agg #[.string r2, .string r3, .string r4, .string r5, .string r6, .string r7, .string r8, .string r9, .string r10, .string r11, .string r12, .string r13, .string r14, .string r15, .string r16, .string r17, .string r18, .string r19]) (.int .i64 p1)).run Tryz.prog w = .ok (.string x1) w) ∧ (∃ (t1 : ByteArray), (∀ w : World, ((do eqGuard .add 9 (.tmp 24) (.const (.string ⟨#[32]⟩)) (.string x1) (.string ⟨#[32]⟩); binOp .add 9 (.string x1) (.string ⟨#[32]⟩) : Sem Value)).run Tryz.prog w = .ok (.string t1) w) ∧ (Calls Tryz.prog 44 #[.int .i64 p2] w5 fun e w6 => ∃ (r20 : ByteArray), e = .returned (.string r20) ∧ (Same w5 w6 [b1] ∧ (∃ (t2 : ByteArray), (∀ w : World, ((do eqGuard .add 9 (.tmp 25) (.tmp 28) (.string t1) (.string r20); binOp .add 9 (.string t1) (.string r20) : Sem Value)).run Tryz.prog w = .ok (.string t2) w) ∧ (R t2 w6))))))))) ∧ (b3 = false → ∀ (w7 : World), Chg [] w3 w7 → (Calls Tryz.prog 43 #[] w7 fun e w8 => ∃ (r21 : ByteArray) (r22 : ByteArray) (r23 : ByteArray) (r24 : ByteArray) (r25 : ByteArray) (r26 : ByteArray) (r27 : ByteArray) (r28 : ByteArray) (r29 : ByteArray) (r30 : ByteArray) (r31 : ByteArray) (r32 : ByteArray) (r33 : ByteArray) (r34 : ByteArray) (r35 : ByteArray) (r36 : ByteArray) (r37 : ByteArray) (r38 : ByteArray), e = .returned (.agg #[.string r21, .string r22, .string r23, .string r24, .string r25, .string r26, .string r27, .string r28, .string r29, .string r30, .string r31, .string r32, .string r33, .string r34, .string r35, .string r36, .string r37, .string r38]) ∧ (Same w7 w8 [b1] ∧ (∃ (x2 : ByteArray), (∀ w : World, (Instr.index 109 (.agg #[.string r21, .string r22, .string r23, .string r24, .string r25, .string r26, .string r27, .string r28, .string r29, .string r30, .string r31, .string r32, .string r33, .string r34, .string r35, .string r36, .string r37, .string r38]) (.int .i64 p1)).run Tryz.prog w = .ok (.string x2) w) ∧ (R x2 w8)))))) ∧ (((p1 == 1) = false → J2 (decide (p1 ≥ 10)) w2) ∧ ((p1 == 1) = true → J2 true w2)))) ∧ (((decide (p1 < 0)) = false → J1 (decide (p1 > 17)) w1) ∧ ((decide (p1 < 0)) = true → J1 true w1)))
set_option maxRecDepth 100000 in
theorem go_query_Text (p1 : Int) (p2 : Int) (w : World) (R : ByteArray → World → Prop) (h : W_query_Text p1 p2 w R) : Calls Tryz.prog 20 #[.agg #[.int .i64 p1, .int .i64 p2]] w (fun e w' => ∃ (r1 : ByteArray), e = .returned (.string r1) ∧ R r1 w') := by
 unfold W_query_Text at h
 refine enter (N := 34) Tryz.func20 rfl rfl ?_
 refine CW.seq ?_
 refine CW.region fun L hL => ?_
 obtain ⟨b1, hb_b1⟩ : ∃ b1, b1 = World.size w := ⟨_, rfl⟩
 obtain ⟨w1, hw_w1⟩ : ∃ w1, w1 = World.alloc w (.cells #[.int .i64 p1, .int .i64 p2] 25) := ⟨_, rfl⟩
 refine LW.val hL rfl (Wants.free rfl) rfl (boxE hb_b1 hw_w1 (Vl.box (v := .agg #[.int .i64 p1, .int .i64 p2]) rfl)) ?_
 have hB := Boxes.alloc (cs := [.int .i64 p1, .int .i64 p2]) (T := 25) (Boxes.nil w) hb_b1 hw_w1
 have hlo_b1 := sil_lo (Chg.refl [] w) hb_b1
 have hc_w1 := sil_alloc (Chg.refl [] w) hw_w1
 refine LW.rd hL rfl (Wants.free rfl) rfl (Rd.assign (v := .string ⟨#[]⟩) rfl) ?_
 refine LW.nil hL rfl ?_
 refine NW.then ?_
 refine CW.seq ?_
 refine CW.block ?_
 refine CW.seq ?_
 refine CW.region fun L hL => ?_
 refine LW.rd hL rfl (Wants.free rfl) rfl (Rd.fa (v := .pointer (some (⟨b1, 0, none⟩ : Addr))) rfl (fun _ => by kernel_rfl)) ?_
 refine LW.rd hL rfl (Wants.free rfl) rfl (Rd.ld (v := .int .i64 p1) rfl (by kernel_rfl) (eqs (box_cell (hB.at (i := 0) rfl) rfl))) ?_
 refine LW.rd hL rfl (Wants.free rfl) rfl (Rd.bin (v := .bool (decide (p1 < 0))) rfl rfl (fun w => by kernel_rfl)) ?_
 refine LW.rd hL rfl (Wants.free rfl) rfl (Rd.move (v := .bool (decide (p1 < 0))) rfl) ?_
 replace h := h b1 w1 ⟨hlo_b1, lt_of_heap (hB.at (i := 0) rfl)⟩ hc_w1
 obtain ⟨J1, hJ1, h1_J1, h0_J1⟩ := h
 suffices K1 : ∀ (b2 : Bool) (w2 : World), Boxes w2 [(b1, [.int .i64 p1, .int .i64 p2], 25)] → J1 b2 w2 → L 8 [(1, .pointer (some (⟨b1, 0, none⟩ : Addr))), (2, .string ⟨#[]⟩), (11, .bool b2)] w2 by
  rcases Bool.eq_false_or_eq_true (decide (p1 < 0)) with hb1 | hb1
  ·have h := h0_J1 hb1
   refine LW.skip hL rfl (Skips.on rfl rfl rfl rfl rfl hb1) rfl ?_
   refine LW.skip hL rfl (Skips.on rfl rfl rfl rfl rfl hb1) rfl ?_
   refine LW.skip hL rfl (Skips.on rfl rfl rfl rfl rfl hb1) rfl ?_
   refine LW.rd hL rfl (Wants.free rfl) rfl (Rd.pickT rfl hb1 rfl) ?_
   exact LW.sub hL (by exact ⟨rfl, rfl, rfl, trivial⟩) (K1 true w1 (by exact hB) h)
  ·have h := h1_J1 hb1
   refine LW.rd hL rfl (Wants.on rfl rfl rfl rfl rfl hb1) rfl (Rd.fa (v := .pointer (some (⟨b1, 0, none⟩ : Addr))) rfl (fun _ => by kernel_rfl)) ?_
   refine LW.rd hL rfl (Wants.on rfl rfl rfl rfl rfl hb1) rfl (Rd.ld (v := .int .i64 p1) rfl (by kernel_rfl) (eqs (box_cell (hB.at (i := 0) rfl) rfl))) ?_
   refine LW.rd hL rfl (Wants.on rfl rfl rfl rfl rfl hb1) rfl (Rd.bin (v := .bool (decide (p1 > 17))) rfl rfl (fun w => by kernel_rfl)) ?_
   refine LW.rd hL rfl (Wants.free rfl) rfl (Rd.pickF rfl hb1 rfl) ?_
   exact LW.sub hL (by exact ⟨rfl, rfl, rfl, trivial⟩) (K1 (decide (p1 > 17)) w1 (by exact hB) h)
 intro b2 w2 hB h_
 have h := hJ1 b2 w2 h_; clear h_
 refine LW.rd hL rfl (Wants.free rfl) rfl (Rd.assign (v := .bool b2) rfl) ?_
 refine LW.nil hL rfl ?_
 refine NW.then ?_
 refine CW.cond rfl (fun hb2 => ?_) (fun hb2 => ?_)
 ·replace h := h.1 hb2
  refine CW.seq ?_
  refine CW.region fun L hL => ?_
  refine LW.rd hL rfl (Wants.free rfl) rfl (Rd.assign (v := .string ⟨#[63]⟩) rfl) ?_
  refine LW.nil hL rfl ?_
  refine NW.then ?_
  refine CW.ret ?_
  refine RW.block ?_
  refine RW.then ?_
  exact res1 rfl rfl ⟨⟨#[63]⟩, rfl, h⟩
 ·replace h := h.2 hb2
  refine CW.seq ?_
  refine CW.region fun L hL => ?_
  refine LW.rd hL rfl (Wants.free rfl) rfl (Rd.fa (v := .pointer (some (⟨b1, 0, none⟩ : Addr))) rfl (fun _ => by kernel_rfl)) ?_
  refine LW.rd hL rfl (Wants.free rfl) rfl (Rd.ld (v := .int .i64 p1) rfl (by kernel_rfl) (eqs (box_cell (hB.at (i := 0) rfl) rfl))) ?_
  refine LW.rd hL rfl (Wants.free rfl) rfl (Rd.bin (v := .bool (p1 == 1)) rfl rfl (fun w => by kernel_rfl)) ?_
  refine LW.rd hL rfl (Wants.free rfl) rfl (Rd.move (v := .bool (p1 == 1)) rfl) ?_
  obtain ⟨J2, hJ2, h1_J2, h0_J2⟩ := h
  suffices K2 : ∀ (b3 : Bool) (w3 : World), Boxes w3 [(b1, [.int .i64 p1, .int .i64 p2], 25)] → J2 b3 w3 → L 8 [(1, .pointer (some (⟨b1, 0, none⟩ : Addr))), (2, .string ⟨#[]⟩), (20, .bool b3)] w3 by
   rcases Bool.eq_false_or_eq_true (p1 == 1) with hb3 | hb3
   ·have h := h0_J2 hb3
    refine LW.skip hL rfl (Skips.on rfl rfl rfl rfl rfl hb3) rfl ?_
    refine LW.skip hL rfl (Skips.on rfl rfl rfl rfl rfl hb3) rfl ?_
    refine LW.skip hL rfl (Skips.on rfl rfl rfl rfl rfl hb3) rfl ?_
    refine LW.rd hL rfl (Wants.free rfl) rfl (Rd.pickT rfl hb3 rfl) ?_
    exact LW.sub hL (by exact ⟨rfl, rfl, rfl, trivial⟩) (K2 true w2 (by exact hB) h)
   ·have h := h1_J2 hb3
    refine LW.rd hL rfl (Wants.on rfl rfl rfl rfl rfl hb3) rfl (Rd.fa (v := .pointer (some (⟨b1, 0, none⟩ : Addr))) rfl (fun _ => by kernel_rfl)) ?_
    refine LW.rd hL rfl (Wants.on rfl rfl rfl rfl rfl hb3) rfl (Rd.ld (v := .int .i64 p1) rfl (by kernel_rfl) (eqs (box_cell (hB.at (i := 0) rfl) rfl))) ?_
    refine LW.rd hL rfl (Wants.on rfl rfl rfl rfl rfl hb3) rfl (Rd.bin (v := .bool (decide (p1 ≥ 10))) rfl rfl (fun w => by kernel_rfl)) ?_
    refine LW.rd hL rfl (Wants.free rfl) rfl (Rd.pickF rfl hb3 rfl) ?_
    exact LW.sub hL (by exact ⟨rfl, rfl, rfl, trivial⟩) (K2 (decide (p1 ≥ 10)) w2 (by exact hB) h)
  intro b3 w3 hB h_
  have h := hJ2 b3 w3 h_; clear h_
  refine LW.rd hL rfl (Wants.free rfl) rfl (Rd.assign (v := .bool b3) rfl) ?_
  refine LW.nil hL rfl ?_
  refine NW.then ?_
  refine CW.cond rfl (fun hb4 => ?_) (fun hb4 => ?_)
  ·replace h := h.1 hb4
   refine CW.seq ?_
   obtain ⟨w4, hw_w4⟩ : ∃ x, x = World.drew w3 := ⟨_, rfl⟩
   have hc_w4 := sil_drew (Chg.refl [] w3) hw_w4
   replace hB := hB.drew hw_w4
   refine CW.drawn (fun w => Boxes w [(b1, [.int .i64 p1, .int .i64 p2], 25)]) 10 (by kernel_rfl) fun H hH => ?_
   rw [← hw_w4]
   have hS1 : Boxes w4 [(b1, [.int .i64 p1, .int .i64 p2], 25)] := hB
   refine HW.pure (i := 1) hH rfl (by kernel_rfl) (Wants.free rfl) rfl (fun _ => hS1) (Rd.fa (v := .pointer (some (⟨b1, 0, none⟩ : Addr))) rfl (fun _ => by kernel_rfl)) ?_
   refine HW.take (i := 2) hH rfl (by kernel_rfl) (by kernel_rfl) (Wants.free rfl) rfl (fun _ => hS1) (Rd.ld (v := .int .i64 p1) rfl (by kernel_rfl) (fun w h => box_cell (Boxes.at (i := 0) h rfl) rfl)) ?_
   refine HW.pure (i := 5) hH rfl (by kernel_rfl) (Wants.free rfl) rfl (fun _ => hS1) (Rd.fa (v := .pointer (some (⟨b1, 1, none⟩ : Addr))) rfl (fun _ => by kernel_rfl)) ?_
   refine HW.take (i := 6) hH rfl (by kernel_rfl) (by kernel_rfl) (Wants.free rfl) rfl (fun _ => hS1) (Rd.ld (v := .int .i64 p2) rfl (by kernel_rfl) (fun w h => box_cell (Boxes.at (i := 0) h rfl) rfl)) ?_
   replace h := h  w4  hc_w4
   refine HW.call (i := 0) hH (by kernel_rfl) rfl (Wants.free rfl) rfl (Cl.fn (f := 43) rfl Tryz.func43 (by kernel_rfl) rfl) h (fun e w5 h_ => ?_)
   clear h
   obtain ⟨r2, r3, r4, r5, r6, r7, r8, r9, r10, r11, r12, r13, r14, r15, r16, r17, r18, r19, rfl, h⟩ := h_
   obtain ⟨hsm1, h⟩ := h
   replace hB := Boxes.sameS hB hsm1 (by simp)
   have hS2 : Boxes w5 [(b1, [.int .i64 p1, .int .i64 p2], 25)] := hB
   refine ⟨_, rfl, (fun _ => hS2), ?_⟩
   obtain ⟨x1, hx1, h⟩ := h
   refine HW.pure (i := 3) hH rfl (by kernel_rfl) (Wants.free rfl) rfl (fun _ => hS2) (Rd.index (v := .string x1) rfl rfl hx1) ?_
   obtain ⟨t1, hx2, h⟩ := h
   refine HW.pure (i := 4) hH rfl (by kernel_rfl) (Wants.free rfl) rfl (fun _ => hS2) (Rd.bin (v := .string t1) rfl rfl hx2) ?_
   refine HW.call (i := 7) hH (by kernel_rfl) rfl (Wants.free rfl) rfl (Cl.fn (f := 44) rfl Tryz.func44 (by kernel_rfl) rfl) h (fun e w6 h_ => ?_)
   clear h
   obtain ⟨r20, rfl, h⟩ := h_
   obtain ⟨hsm2, h⟩ := h
   replace hB := Boxes.sameS hB hsm2 (by simp)
   have hS3 : Boxes w6 [(b1, [.int .i64 p1, .int .i64 p2], 25)] := hB
   refine ⟨_, rfl, (fun _ => hS3), ?_⟩
   obtain ⟨t2, hx3, h⟩ := h
   refine HW.pure (i := 8) hH rfl (by kernel_rfl) (Wants.free rfl) rfl (fun _ => hS3) (Rd.bin (v := .string t2) rfl rfl hx3) ?_
   refine HW.pure (i := 9) hH rfl (by kernel_rfl) (Wants.free rfl) rfl (fun _ => hS3) (Rd.assign (v := .string t2) rfl) ?_
   refine HW.done hH (by kernel_rfl) ?_
   refine NW.then ?_
   refine CW.ret ?_
   refine RW.block ?_
   refine RW.then ?_
   exact res1 rfl rfl ⟨t2, rfl, h⟩
  ·replace h := h.2 hb4
   refine CW.skip ?_
   refine NW.block ?_
   refine NW.then ?_
   refine CW.seq ?_
   obtain ⟨w7, hw_w7⟩ : ∃ x, x = World.drew w3 := ⟨_, rfl⟩
   have hc_w7 := sil_drew (Chg.refl [] w3) hw_w7
   replace hB := hB.drew hw_w7
   refine CW.drawn (fun w => Boxes w [(b1, [.int .i64 p1, .int .i64 p2], 25)]) 5 (by kernel_rfl) fun H hH => ?_
   rw [← hw_w7]
   have hS4 : Boxes w7 [(b1, [.int .i64 p1, .int .i64 p2], 25)] := hB
   refine HW.pure (i := 1) hH rfl (by kernel_rfl) (Wants.free rfl) rfl (fun _ => hS4) (Rd.fa (v := .pointer (some (⟨b1, 0, none⟩ : Addr))) rfl (fun _ => by kernel_rfl)) ?_
   refine HW.take (i := 2) hH rfl (by kernel_rfl) (by kernel_rfl) (Wants.free rfl) rfl (fun _ => hS4) (Rd.ld (v := .int .i64 p1) rfl (by kernel_rfl) (fun w h => box_cell (Boxes.at (i := 0) h rfl) rfl)) ?_
   replace h := h  w7  hc_w7
   refine HW.call (i := 0) hH (by kernel_rfl) rfl (Wants.free rfl) rfl (Cl.fn (f := 43) rfl Tryz.func43 (by kernel_rfl) rfl) h (fun e w8 h_ => ?_)
   clear h
   obtain ⟨r21, r22, r23, r24, r25, r26, r27, r28, r29, r30, r31, r32, r33, r34, r35, r36, r37, r38, rfl, h⟩ := h_
   obtain ⟨hsm3, h⟩ := h
   replace hB := Boxes.sameS hB hsm3 (by simp)
   have hS5 : Boxes w8 [(b1, [.int .i64 p1, .int .i64 p2], 25)] := hB
   refine ⟨_, rfl, (fun _ => hS5), ?_⟩
   obtain ⟨x2, hx4, h⟩ := h
   refine HW.pure (i := 3) hH rfl (by kernel_rfl) (Wants.free rfl) rfl (fun _ => hS5) (Rd.index (v := .string x2) rfl rfl hx4) ?_
   refine HW.pure (i := 4) hH rfl (by kernel_rfl) (Wants.free rfl) rfl (fun _ => hS5) (Rd.assign (v := .string x2) rfl) ?_
   refine HW.done hH (by kernel_rfl) ?_
   refine NW.then ?_
   refine CW.ret ?_
   exact res1 rfl rfl ⟨x2, rfl, h⟩
/- pomander/query.names -/
def W_query_names  (w : World) (R : ByteArray → ByteArray → ByteArray → ByteArray → ByteArray → ByteArray → ByteArray → ByteArray → ByteArray → ByteArray → ByteArray → ByteArray → ByteArray → ByteArray → ByteArray → ByteArray → ByteArray → ByteArray → World → Prop) : Prop :=
 ∀ (b1 : Nat) (w2 : World), (w.heap.size ≤ b1 ∧ b1 < w2.heap.size) → Chg [] w w2 → (R ⟨#[110, 111, 110, 101]⟩ ⟨#[114, 101, 103]⟩ ⟨#[112, 99]⟩ ⟨#[101, 112, 99]⟩ ⟨#[99, 97, 117, 115, 101]⟩ ⟨#[118, 101, 99]⟩ ⟨#[116, 97, 98, 108, 101]⟩ ⟨#[109, 111, 100, 101]⟩ ⟨#[109, 97, 115, 107]⟩ ⟨#[97, 108, 97, 114, 109]⟩ ⟨#[109, 101, 109]⟩ ⟨#[116, 108, 98]⟩ ⟨#[115, 101, 99, 116, 111, 114]⟩ ⟨#[105, 110]⟩ ⟨#[111, 117, 116]⟩ ⟨#[112, 97, 99, 107, 101, 116]⟩ ⟨#[115, 101, 110, 116]⟩ ⟨#[97, 115, 107]⟩ w2)
set_option maxRecDepth 100000 in
theorem go_query_names  (w : World) (R : ByteArray → ByteArray → ByteArray → ByteArray → ByteArray → ByteArray → ByteArray → ByteArray → ByteArray → ByteArray → ByteArray → ByteArray → ByteArray → ByteArray → ByteArray → ByteArray → ByteArray → ByteArray → World → Prop) (h : W_query_names  w R) : Calls Tryz.prog 43 #[] w (fun e w' => ∃ (r1 : ByteArray) (r2 : ByteArray) (r3 : ByteArray) (r4 : ByteArray) (r5 : ByteArray) (r6 : ByteArray) (r7 : ByteArray) (r8 : ByteArray) (r9 : ByteArray) (r10 : ByteArray) (r11 : ByteArray) (r12 : ByteArray) (r13 : ByteArray) (r14 : ByteArray) (r15 : ByteArray) (r16 : ByteArray) (r17 : ByteArray) (r18 : ByteArray), e = .returned (.agg #[.string r1, .string r2, .string r3, .string r4, .string r5, .string r6, .string r7, .string r8, .string r9, .string r10, .string r11, .string r12, .string r13, .string r14, .string r15, .string r16, .string r17, .string r18]) ∧ R r1 r2 r3 r4 r5 r6 r7 r8 r9 r10 r11 r12 r13 r14 r15 r16 r17 r18 w') := by
 unfold W_query_names at h
 refine enter (N := 2) Tryz.func43 rfl rfl ?_
 refine CW.seq ?_
 refine CW.region fun L hL => ?_
 obtain ⟨b1, hb_b1⟩ : ∃ b1, b1 = World.size w := ⟨_, rfl⟩
 obtain ⟨w1, hw_w1⟩ : ∃ w1, w1 = World.alloc w (.cells #[.string ByteArray.empty, .string ByteArray.empty, .string ByteArray.empty, .string ByteArray.empty, .string ByteArray.empty, .string ByteArray.empty, .string ByteArray.empty, .string ByteArray.empty, .string ByteArray.empty, .string ByteArray.empty, .string ByteArray.empty, .string ByteArray.empty, .string ByteArray.empty, .string ByteArray.empty, .string ByteArray.empty, .string ByteArray.empty, .string ByteArray.empty, .string ByteArray.empty] 109) := ⟨_, rfl⟩
 refine LW.val hL rfl (Wants.free rfl) rfl (boxE hb_b1 hw_w1 (Vl.alloc (z := .agg #[.string ByteArray.empty, .string ByteArray.empty, .string ByteArray.empty, .string ByteArray.empty, .string ByteArray.empty, .string ByteArray.empty, .string ByteArray.empty, .string ByteArray.empty, .string ByteArray.empty, .string ByteArray.empty, .string ByteArray.empty, .string ByteArray.empty, .string ByteArray.empty, .string ByteArray.empty, .string ByteArray.empty, .string ByteArray.empty, .string ByteArray.empty, .string ByteArray.empty]) (by kernel_rfl))) ?_
 have hB := Boxes.alloc (cs := [.string ByteArray.empty, .string ByteArray.empty, .string ByteArray.empty, .string ByteArray.empty, .string ByteArray.empty, .string ByteArray.empty, .string ByteArray.empty, .string ByteArray.empty, .string ByteArray.empty, .string ByteArray.empty, .string ByteArray.empty, .string ByteArray.empty, .string ByteArray.empty, .string ByteArray.empty, .string ByteArray.empty, .string ByteArray.empty, .string ByteArray.empty, .string ByteArray.empty]) (T := 109) (Boxes.nil w) hb_b1 hw_w1
 have hlo_b1 := sil_lo (Chg.refl [] w) hb_b1
 have hc_w1 := sil_alloc (Chg.refl [] w) hw_w1
 refine LW.nil hL rfl ?_
 refine NW.then ?_
 refine CW.seq ?_
 refine CW.region fun L hL => ?_
 refine LW.rd hL rfl (Wants.free rfl) rfl (Rd.build (v := .agg #[.string ⟨#[110, 111, 110, 101]⟩, .string ⟨#[114, 101, 103]⟩, .string ⟨#[112, 99]⟩, .string ⟨#[101, 112, 99]⟩, .string ⟨#[99, 97, 117, 115, 101]⟩, .string ⟨#[118, 101, 99]⟩, .string ⟨#[116, 97, 98, 108, 101]⟩, .string ⟨#[109, 111, 100, 101]⟩, .string ⟨#[109, 97, 115, 107]⟩, .string ⟨#[97, 108, 97, 114, 109]⟩, .string ⟨#[109, 101, 109]⟩, .string ⟨#[116, 108, 98]⟩, .string ⟨#[115, 101, 99, 116, 111, 114]⟩, .string ⟨#[105, 110]⟩, .string ⟨#[111, 117, 116]⟩, .string ⟨#[112, 97, 99, 107, 101, 116]⟩, .string ⟨#[115, 101, 110, 116]⟩, .string ⟨#[97, 115, 107]⟩]) rfl (fun _ => by kernel_rfl)) ?_
 obtain ⟨w2, hw_w2⟩ : ∃ x, x = setCells w1 (⟨b1, 0, none⟩ : Addr) 0 [.string ⟨#[110, 111, 110, 101]⟩, .string ⟨#[114, 101, 103]⟩, .string ⟨#[112, 99]⟩, .string ⟨#[101, 112, 99]⟩, .string ⟨#[99, 97, 117, 115, 101]⟩, .string ⟨#[118, 101, 99]⟩, .string ⟨#[116, 97, 98, 108, 101]⟩, .string ⟨#[109, 111, 100, 101]⟩, .string ⟨#[109, 97, 115, 107]⟩, .string ⟨#[97, 108, 97, 114, 109]⟩, .string ⟨#[109, 101, 109]⟩, .string ⟨#[116, 108, 98]⟩, .string ⟨#[115, 101, 99, 116, 111, 114]⟩, .string ⟨#[105, 110]⟩, .string ⟨#[111, 117, 116]⟩, .string ⟨#[112, 97, 99, 107, 101, 116]⟩, .string ⟨#[115, 101, 110, 116]⟩, .string ⟨#[97, 115, 107]⟩] := ⟨_, rfl⟩
 refine LW.eff hL rfl (Wants.free rfl) rfl (stNE hw_w2 (Ef.stN (cs := [.string ⟨#[110, 111, 110, 101]⟩, .string ⟨#[114, 101, 103]⟩, .string ⟨#[112, 99]⟩, .string ⟨#[101, 112, 99]⟩, .string ⟨#[99, 97, 117, 115, 101]⟩, .string ⟨#[118, 101, 99]⟩, .string ⟨#[116, 97, 98, 108, 101]⟩, .string ⟨#[109, 111, 100, 101]⟩, .string ⟨#[109, 97, 115, 107]⟩, .string ⟨#[97, 108, 97, 114, 109]⟩, .string ⟨#[109, 101, 109]⟩, .string ⟨#[116, 108, 98]⟩, .string ⟨#[115, 101, 99, 116, 111, 114]⟩, .string ⟨#[105, 110]⟩, .string ⟨#[111, 117, 116]⟩, .string ⟨#[112, 97, 99, 107, 101, 116]⟩, .string ⟨#[115, 101, 110, 116]⟩, .string ⟨#[97, 115, 107]⟩]) rfl rfl (by kernel_rfl) (List.forall_mem_cons.2 ⟨rfl, (List.forall_mem_cons.2 ⟨rfl, (List.forall_mem_cons.2 ⟨rfl, (List.forall_mem_cons.2 ⟨rfl, (List.forall_mem_cons.2 ⟨rfl, (List.forall_mem_cons.2 ⟨rfl, (List.forall_mem_cons.2 ⟨rfl, (List.forall_mem_cons.2 ⟨rfl, (List.forall_mem_cons.2 ⟨rfl, (List.forall_mem_cons.2 ⟨rfl, (List.forall_mem_cons.2 ⟨rfl, (List.forall_mem_cons.2 ⟨rfl, (List.forall_mem_cons.2 ⟨rfl, (List.forall_mem_cons.2 ⟨rfl, (List.forall_mem_cons.2 ⟨rfl, (List.forall_mem_cons.2 ⟨rfl, (List.forall_mem_cons.2 ⟨rfl, (List.forall_mem_cons.2 ⟨rfl, (List.forall_mem_nil _)⟩)⟩)⟩)⟩)⟩)⟩)⟩)⟩)⟩)⟩)⟩)⟩)⟩)⟩)⟩)⟩)⟩)⟩) (has_of (hB.at (i := 0) rfl) (by simp)) (free_of' (hB.at (i := 0) rfl)))) ?_
 replace hB : Boxes w2 [(b1, [.string ⟨#[110, 111, 110, 101]⟩, .string ⟨#[114, 101, 103]⟩, .string ⟨#[112, 99]⟩, .string ⟨#[101, 112, 99]⟩, .string ⟨#[99, 97, 117, 115, 101]⟩, .string ⟨#[118, 101, 99]⟩, .string ⟨#[116, 97, 98, 108, 101]⟩, .string ⟨#[109, 111, 100, 101]⟩, .string ⟨#[109, 97, 115, 107]⟩, .string ⟨#[97, 108, 97, 114, 109]⟩, .string ⟨#[109, 101, 109]⟩, .string ⟨#[116, 108, 98]⟩, .string ⟨#[115, 101, 99, 116, 111, 114]⟩, .string ⟨#[105, 110]⟩, .string ⟨#[111, 117, 116]⟩, .string ⟨#[112, 97, 99, 107, 101, 116]⟩, .string ⟨#[115, 101, 110, 116]⟩, .string ⟨#[97, 115, 107]⟩], 109)] := Boxes.store (vs := [.string ⟨#[110, 111, 110, 101]⟩, .string ⟨#[114, 101, 103]⟩, .string ⟨#[112, 99]⟩, .string ⟨#[101, 112, 99]⟩, .string ⟨#[99, 97, 117, 115, 101]⟩, .string ⟨#[118, 101, 99]⟩, .string ⟨#[116, 97, 98, 108, 101]⟩, .string ⟨#[109, 111, 100, 101]⟩, .string ⟨#[109, 97, 115, 107]⟩, .string ⟨#[97, 108, 97, 114, 109]⟩, .string ⟨#[109, 101, 109]⟩, .string ⟨#[116, 108, 98]⟩, .string ⟨#[115, 101, 99, 116, 111, 114]⟩, .string ⟨#[105, 110]⟩, .string ⟨#[111, 117, 116]⟩, .string ⟨#[112, 97, 99, 107, 101, 116]⟩, .string ⟨#[115, 101, 110, 116]⟩, .string ⟨#[97, 115, 107]⟩]) (i := 0) (o := 0) hB rfl rfl rfl rfl hw_w2
 have hc_w2 := sil_new hc_w1 (sil_cN hw_w2) hlo_b1
 refine LW.nil hL rfl ?_
 refine NW.then ?_
 replace h := h b1 w2 ⟨hlo_b1, lt_of_heap (hB.at (i := 0) rfl)⟩ hc_w2
 refine CW.ret ?_
 exact resN (vs := [.agg #[.string ⟨#[110, 111, 110, 101]⟩, .string ⟨#[114, 101, 103]⟩, .string ⟨#[112, 99]⟩, .string ⟨#[101, 112, 99]⟩, .string ⟨#[99, 97, 117, 115, 101]⟩, .string ⟨#[118, 101, 99]⟩, .string ⟨#[116, 97, 98, 108, 101]⟩, .string ⟨#[109, 111, 100, 101]⟩, .string ⟨#[109, 97, 115, 107]⟩, .string ⟨#[97, 108, 97, 114, 109]⟩, .string ⟨#[109, 101, 109]⟩, .string ⟨#[116, 108, 98]⟩, .string ⟨#[115, 101, 99, 116, 111, 114]⟩, .string ⟨#[105, 110]⟩, .string ⟨#[111, 117, 116]⟩, .string ⟨#[112, 97, 99, 107, 101, 116]⟩, .string ⟨#[115, 101, 110, 116]⟩, .string ⟨#[97, 115, 107]⟩]]) (ResOK.c rfl (lvN (cs := [.string ⟨#[110, 111, 110, 101]⟩, .string ⟨#[114, 101, 103]⟩, .string ⟨#[112, 99]⟩, .string ⟨#[101, 112, 99]⟩, .string ⟨#[99, 97, 117, 115, 101]⟩, .string ⟨#[118, 101, 99]⟩, .string ⟨#[116, 97, 98, 108, 101]⟩, .string ⟨#[109, 111, 100, 101]⟩, .string ⟨#[109, 97, 115, 107]⟩, .string ⟨#[97, 108, 97, 114, 109]⟩, .string ⟨#[109, 101, 109]⟩, .string ⟨#[116, 108, 98]⟩, .string ⟨#[115, 101, 99, 116, 111, 114]⟩, .string ⟨#[105, 110]⟩, .string ⟨#[111, 117, 116]⟩, .string ⟨#[112, 97, 99, 107, 101, 116]⟩, .string ⟨#[115, 101, 110, 116]⟩, .string ⟨#[97, 115, 107]⟩]) (by kernel_rfl) (by kernel_rfl) (cellsAt_get (box_cells (hB.at (i := 0) rfl) rfl))) ResOK.nil) rfl ⟨⟨#[110, 111, 110, 101]⟩, ⟨#[114, 101, 103]⟩, ⟨#[112, 99]⟩, ⟨#[101, 112, 99]⟩, ⟨#[99, 97, 117, 115, 101]⟩, ⟨#[118, 101, 99]⟩, ⟨#[116, 97, 98, 108, 101]⟩, ⟨#[109, 111, 100, 101]⟩, ⟨#[109, 97, 115, 107]⟩, ⟨#[97, 108, 97, 114, 109]⟩, ⟨#[109, 101, 109]⟩, ⟨#[116, 108, 98]⟩, ⟨#[115, 101, 99, 116, 111, 114]⟩, ⟨#[105, 110]⟩, ⟨#[111, 117, 116]⟩, ⟨#[112, 97, 99, 107, 101, 116]⟩, ⟨#[115, 101, 110, 116]⟩, ⟨#[97, 115, 107]⟩, rfl, h⟩
/- strconv.Itoa -/
def W_strconv_Itoa (i1 : Int) (w : World) (R : ByteArray → World → Prop) : Prop :=
 Calls Tryz.prog 64 #[.int .i64 i1] w fun e w1 => ∃ (r2 : ByteArray), e = .returned (.string r2) ∧ (R r2 w1)
set_option maxRecDepth 100000 in
theorem go_strconv_Itoa (i1 : Int) (w : World) (R : ByteArray → World → Prop) (h : W_strconv_Itoa i1 w R) : Calls Tryz.prog 44 #[.int .i64 i1] w (fun e w' => ∃ (r1 : ByteArray), e = .returned (.string r1) ∧ R r1 w') := by
 unfold W_strconv_Itoa at h
 refine enter (N := 5) Tryz.func44 rfl rfl ?_
 refine CW.seq ?_
 refine CW.region fun L hL => ?_
 refine LW.rd hL rfl (Wants.free rfl) rfl (Rd.assign (v := .string ⟨#[]⟩) rfl) ?_
 refine LW.nil hL rfl ?_
 refine NW.then ?_
 refine CW.seq ?_
 refine CW.region fun L hL => ?_
 refine LW.rd hL rfl (Wants.free rfl) rfl (Rd.move (v := .int .i64 i1) rfl) ?_
 refine LW.call hL rfl (Wants.free rfl) rfl (Cl.fn (f := 64) rfl Tryz.func64 (by kernel_rfl) rfl) h (fun e w1 h_ => ?_)
 clear h
 obtain ⟨r2, rfl, h⟩ := h_
 refine ⟨_, rfl, ?_⟩
 refine LW.rd hL rfl (Wants.free rfl) rfl (Rd.assign (v := .string r2) rfl) ?_
 refine LW.nil hL rfl ?_
 refine NW.then ?_
 refine CW.ret ?_
 exact res1 rfl rfl ⟨r2, rfl, h⟩
/- internal/strconv.Itoa -/
def W_internal_strconv_Itoa (i1 : Int) (w : World) (R : ByteArray → World → Prop) : Prop :=
 Calls Tryz.prog 88 #[.int .i64 i1, .int .i64 10] w fun e w1 => ∃ (r2 : ByteArray), e = .returned (.string r2) ∧ (R r2 w1)
set_option maxRecDepth 100000 in
theorem go_internal_strconv_Itoa (i1 : Int) (w : World) (R : ByteArray → World → Prop) (h : W_internal_strconv_Itoa i1 w R) : Calls Tryz.prog 64 #[.int .i64 i1] w (fun e w' => ∃ (r1 : ByteArray), e = .returned (.string r1) ∧ R r1 w') := by
 unfold W_internal_strconv_Itoa at h
 refine enter (N := 5) Tryz.func64 rfl rfl ?_
 refine CW.seq ?_
 refine CW.region fun L hL => ?_
 refine LW.rd hL rfl (Wants.free rfl) rfl (Rd.assign (v := .string ⟨#[]⟩) rfl) ?_
 refine LW.nil hL rfl ?_
 refine NW.then ?_
 refine CW.seq ?_
 refine CW.region fun L hL => ?_
 refine LW.rd hL rfl (Wants.free rfl) rfl (Rd.move (v := .int .i64 i1) rfl) ?_
 refine LW.call hL rfl (Wants.free rfl) rfl (Cl.fn (f := 88) rfl Tryz.func88 (by kernel_rfl) rfl) h (fun e w1 h_ => ?_)
 clear h
 obtain ⟨r2, rfl, h⟩ := h_
 refine ⟨_, rfl, ?_⟩
 refine LW.rd hL rfl (Wants.free rfl) rfl (Rd.assign (v := .string r2) rfl) ?_
 refine LW.nil hL rfl ?_
 refine NW.then ?_
 refine CW.ret ?_
 exact res1 rfl rfl ⟨r2, rfl, h⟩
/- internal/strconv.FormatInt -/
def W_internal_strconv_FormatInt (i1 : Int) (base1 : Int) (w : World) (R : ByteArray → World → Prop) : Prop :=
 ((base1 == 10) = true → ((decide (0 ≤ i1) && decide (i1 < 100)) = true → Calls Tryz.prog 106 #[.int .i64 i1] w fun e w1 => ∃ (r2 : ByteArray), e = .returned (.string r2) ∧ (R r2 w1)) ∧ ((decide (0 ≤ i1) && decide (i1 < 100)) = false → ∀ b1 : Nat, b1 = World.size w → ∀ w2 : World, w2 = World.alloc w (.cells (z188_XQ4).toArray 188) → (∃ J1 : Int → World → Prop, (∀ (u1 : Int) (w3 : World), J1 u1 w3 → Calls Tryz.prog 107 #[.int .u64 u1] w3 fun e w4 => ∃ (r3 : Int), e = .returned (.int .i64 r3) ∧ (∃ (l1 : Option Addr) (l1n : Nat) (l1c : Nat), (∀ w : World, (Instr.sliceAt 188 (.pointer (some (⟨b1, 0, none⟩ : Addr))) (some (.int .i64 1)) (some (.int .i64 (IntKind.wrap .i64 (1 + r3)))) (none)).run Tryz.prog w = .ok (.slice l1 l1n l1c) w) ∧ (Calls Tryz.prog 108 #[.slice l1 l1n l1c, .int .u64 u1] w4 fun e w5 => e = .returned (.tuple #[]) ∧ (((decide (i1 < 0)) = true → (0 : Int) ≤ 0 ∧ (0 : Int) < 24 ∧ ((∃ o : Value, w5.cell? ((⟨b1, 0, none⟩ : Addr).add (Int.toNat 0 * 1)) = some o) ∧ w5.frozen? ((⟨b1, 0, none⟩ : Addr).add (Int.toNat 0 * 1)) = false ∧ ∀ w6 : World, w6 = World.setCell w5 ((⟨b1, 0, none⟩ : Addr).add (Int.toNat 0 * 1)) (.int .u8 45) → (∃ (l2 : Option Addr) (l2n : Nat) (l2c : Nat), (∀ w : World, (Instr.sliceAt 188 (.pointer (some (⟨b1, 0, none⟩ : Addr))) (none) (some (.int .i64 (IntKind.wrap .i64 (1 + r3)))) (none)).run Tryz.prog w = .ok (.slice l2 l2n l2c) w) ∧ (∃ (s1 : ByteArray), (∀ w : World, (convert 190 9 (.slice l2 l2n l2c)).run Tryz.prog w = .ok (.string s1) w) ∧ (R s1 w6))))) ∧ ((decide (i1 < 0)) = false → ∃ (l3 : Option Addr) (l3n : Nat) (l3c : Nat), (∀ w : World, (Instr.sliceAt 188 (.pointer (some (⟨b1, 0, none⟩ : Addr))) (some (.int .i64 1)) (some (.int .i64 (IntKind.wrap .i64 (1 + r3)))) (none)).run Tryz.prog w = .ok (.slice l3 l3n l3c) w) ∧ (∃ (s2 : ByteArray), (∀ w : World, (convert 190 9 (.slice l3 l3n l3c)).run Tryz.prog w = .ok (.string s2) w) ∧ (R s2 w5))))))) ∧ (((decide (i1 < 0)) = true → J1 (IntKind.wrap .u64 (0 - (IntKind.wrap .u64 i1))) w2) ∧ ((decide (i1 < 0)) = false → J1 (IntKind.wrap .u64 i1) w2))))) ∧ ((base1 == 10) = false → Calls Tryz.prog 109 #[.slice none 0 0, .int .u64 (IntKind.wrap .u64 i1), .int .i64 base1, .bool (decide (i1 < 0)), .bool false] w fun e w7 => ∃ (r4 : Option Addr) (r4n : Nat) (r4c : Nat) (r5 : ByteArray), e = .returned (.tuple #[.slice r4 r4n r4c, .string r5]) ∧ (R r5 w7))
set_option maxRecDepth 100000 in
theorem go_internal_strconv_FormatInt (i1 : Int) (base1 : Int) (w : World) (R : ByteArray → World → Prop) (h : W_internal_strconv_FormatInt i1 base1 w R) : Calls Tryz.prog 88 #[.int .i64 i1, .int .i64 base1] w (fun e w' => ∃ (r1 : ByteArray), e = .returned (.string r1) ∧ R r1 w') := by
 unfold W_internal_strconv_FormatInt at h
 refine enter (N := 54) Tryz.func88 rfl rfl ?_
 refine CW.seq ?_
 refine CW.region fun L hL => ?_
 refine LW.rd hL rfl (Wants.free rfl) rfl (Rd.assign (v := .string ⟨#[]⟩) rfl) ?_
 refine LW.nil hL rfl ?_
 refine NW.then ?_
 refine CW.seq ?_
 refine CW.seq ?_
 refine CW.region fun L hL => ?_
 refine LW.rd hL rfl (Wants.free rfl) rfl (Rd.move (v := .int .i64 base1) rfl) ?_
 refine LW.rd hL rfl (Wants.free rfl) rfl (Rd.bin (v := .bool (base1 == 10)) rfl rfl (fun w => by kernel_rfl)) ?_
 refine LW.nil hL rfl ?_
 refine NW.then ?_
 refine CW.cond rfl (fun hb1 => ?_) (fun hb1 => ?_)
 ·replace h := h.1 hb1
  refine CW.seq ?_
  refine CW.seq ?_
  refine CW.region fun L hL => ?_
  refine LW.rd hL rfl (Wants.free rfl) rfl (Rd.move (v := .int .i64 i1) rfl) ?_
  refine LW.rd hL rfl (Wants.free rfl) rfl (Rd.bin (v := .bool (decide (0 ≤ i1))) rfl rfl (fun w => by kernel_rfl)) ?_
  refine LW.rd hL rfl (Wants.free rfl) rfl (Rd.move (v := .bool (decide (0 ≤ i1))) rfl) ?_
  suffices K1 : L 6 [(0, .int .i64 i1), (1, .int .i64 base1), (4, .string ⟨#[]⟩), (17, .bool (decide (0 ≤ i1) && decide (i1 < 100)))] w by
   rcases Bool.eq_false_or_eq_true (decide (0 ≤ i1)) with hb3 | hb3
   ·skip
    refine LW.rd hL rfl (Wants.on rfl rfl rfl rfl rfl hb3) rfl (Rd.move (v := .int .i64 i1) rfl) ?_
    refine LW.rd hL rfl (Wants.on rfl rfl rfl rfl rfl hb3) rfl (Rd.bin (v := .bool (decide (i1 < 100))) rfl rfl (fun w => by kernel_rfl)) ?_
    refine LW.rd hL rfl (Wants.free rfl) rfl (Rd.pickT rfl hb3 rfl) ?_
    exact LW.sub hL (by exact ⟨rfl, rfl, rfl, (by rw [hb3]; rfl), trivial⟩) K1
   ·skip
    refine LW.skip hL rfl (Skips.on rfl rfl rfl rfl rfl hb3) rfl ?_
    refine LW.skip hL rfl (Skips.on rfl rfl rfl rfl rfl hb3) rfl ?_
    refine LW.rd hL rfl (Wants.free rfl) rfl (Rd.pickF rfl hb3 rfl) ?_
    exact LW.sub hL (by exact ⟨rfl, rfl, rfl, (by rw [hb3]; rfl), trivial⟩) K1
  refine LW.nil hL rfl ?_
  refine NW.then ?_
  refine CW.cond rfl (fun hb4 => ?_) (fun hb4 => ?_)
  ·replace h := h.1 hb4
   refine CW.seq ?_
   refine CW.region fun L hL => ?_
   refine LW.rd hL rfl (Wants.free rfl) rfl (Rd.move (v := .int .i64 i1) rfl) ?_
   refine LW.call hL rfl (Wants.free rfl) rfl (Cl.fn (f := 106) rfl Tryz.func106 (by kernel_rfl) rfl) h (fun e w1 h_ => ?_)
   clear h
   obtain ⟨r2, rfl, h⟩ := h_
   refine ⟨_, rfl, ?_⟩
   refine LW.rd hL rfl (Wants.free rfl) rfl (Rd.assign (v := .string r2) rfl) ?_
   refine LW.nil hL rfl ?_
   refine NW.then ?_
   refine CW.ret ?_
   refine RW.then ?_
   refine RW.then ?_
   exact res1 rfl rfl ⟨r2, rfl, h⟩
  ·replace h := h.2 hb4
   refine CW.skip ?_
   refine NW.then ?_
   refine CW.seq ?_
   refine CW.region fun L hL => ?_
   obtain ⟨b1, hb_b1⟩ : ∃ b1, b1 = World.size w := ⟨_, rfl⟩
   obtain ⟨w2, hw_w2⟩ : ∃ w2, w2 = World.alloc w (.cells (z188_XQ4).toArray 188) := ⟨_, rfl⟩
   replace h := h b1 hb_b1 w2 hw_w2
   refine LW.val hL rfl (Wants.free rfl) rfl (boxE hb_b1 hw_w2 (Vl.alloc (z := .agg ((z188_XQ4)).toArray) (by kernel_rfl))) ?_
   refine LW.nil hL rfl ?_
   refine NW.then ?_
   refine CW.seq ?_
   refine CW.region fun L hL => ?_
   refine LW.rd hL rfl (Wants.free rfl) rfl (Rd.move (v := .int .i64 i1) rfl) ?_
   refine LW.rd hL rfl (Wants.free rfl) rfl (Rd.conv (v := .int .u64 (IntKind.wrap .u64 i1)) rfl (fun _ => by kernel_rfl)) ?_
   refine LW.rd hL rfl (Wants.free rfl) rfl (Rd.assign (v := .int .u64 (IntKind.wrap .u64 i1)) rfl) ?_
   refine LW.nil hL rfl ?_
   refine NW.then ?_
   obtain ⟨J1, hJ1, h⟩ := h
   refine CW.cut (S := Int) (fun u1 => [(0, .int .i64 i1), (1, .int .i64 base1), (4, .string ⟨#[]⟩), (5, .pointer (some (⟨b1, 0, none⟩ : Addr))), (6, .int .u64 u1)]) (fun u1 w3 => J1 u1 w3) (fun u1 w3 h_ => ?_) ?_
   ·replace h := hJ1 u1 w3 h_; clear h_
    refine CW.seq ?_
    refine CW.region fun L hL => ?_
    refine LW.rd hL rfl (Wants.free rfl) rfl (Rd.move (v := .int .u64 u1) rfl) ?_
    refine LW.call hL rfl (Wants.free rfl) rfl (Cl.fn (f := 107) rfl Tryz.func107 (by kernel_rfl) rfl) h (fun e w4 h_ => ?_)
    clear h
    obtain ⟨r3, rfl, h⟩ := h_
    refine ⟨_, rfl, ?_⟩
    refine LW.rd hL rfl (Wants.free rfl) rfl (Rd.assign (v := .int .i64 r3) rfl) ?_
    refine LW.nil hL rfl ?_
    refine NW.then ?_
    refine CW.seq ?_
    refine CW.region fun L hL => ?_
    refine LW.rd hL rfl (Wants.free rfl) rfl (Rd.move (v := .int .i64 r3) rfl) ?_
    refine LW.rd hL rfl (Wants.free rfl) rfl (Rd.bin (v := .int .i64 (IntKind.wrap .i64 (1 + r3))) rfl rfl (fun w => by kernel_rfl)) ?_
    obtain ⟨l1, l1n, l1c, hx1, h⟩ := h
    refine LW.rd hL rfl (Wants.free rfl) rfl (Rd.slice (v := .slice l1 l1n l1c) rfl rfl rfl rfl hx1) ?_
    refine LW.rd hL rfl (Wants.free rfl) rfl (Rd.move (v := .int .u64 u1) rfl) ?_
    refine LW.call hL rfl (Wants.free rfl) rfl (Cl.fn (f := 108) rfl Tryz.func108 (by kernel_rfl) rfl) h (fun e w5 h_ => ?_)
    clear h
    obtain ⟨rfl, h⟩ := h_
    refine ⟨_, rfl, ?_⟩
    refine LW.nil hL rfl ?_
    refine NW.then ?_
    refine CW.seq ?_
    refine CW.seq ?_
    refine CW.region fun L hL => ?_
    refine LW.rd hL rfl (Wants.free rfl) rfl (Rd.move (v := .int .i64 i1) rfl) ?_
    refine LW.rd hL rfl (Wants.free rfl) rfl (Rd.bin (v := .bool (decide (i1 < 0))) rfl rfl (fun w => by kernel_rfl)) ?_
    refine LW.nil hL rfl ?_
    refine NW.then ?_
    refine CW.cond rfl (fun hb5 => ?_) (fun hb5 => ?_)
    ·replace h := h.1 hb5
     refine CW.seq ?_
     refine CW.region fun L hL => ?_
     obtain ⟨hi1, hi2, h⟩ := h
     refine LW.rd hL rfl (Wants.free rfl) rfl (Rd.iaA (sz := 1) rfl rfl Tryz.underlying188 (by kernel_rfl) hi1 hi2) ?_
     obtain ⟨⟨o_w6, ho1⟩, hf1, h⟩ := h
     obtain ⟨w6, hw_w6⟩ : ∃ w6, w6 = World.setCell w5 ((⟨b1, 0, none⟩ : Addr).add (Int.toNat 0 * 1)) (.int .u8 45) := ⟨_, rfl⟩
     replace h := h w6 hw_w6
     refine LW.eff hL rfl (Wants.free rfl) rfl (stE hw_w6 (Ef.st rfl rfl rfl (by kernel_rfl) ho1 hf1)) ?_
     refine LW.nil hL rfl ?_
     refine NW.then ?_
     refine CW.seq ?_
     refine CW.region fun L hL => ?_
     refine LW.rd hL rfl (Wants.free rfl) rfl (Rd.move (v := .int .i64 r3) rfl) ?_
     refine LW.rd hL rfl (Wants.free rfl) rfl (Rd.bin (v := .int .i64 (IntKind.wrap .i64 (1 + r3))) rfl rfl (fun w => by kernel_rfl)) ?_
     obtain ⟨l2, l2n, l2c, hx2, h⟩ := h
     refine LW.rd hL rfl (Wants.free rfl) rfl (Rd.slice (v := .slice l2 l2n l2c) rfl rfl rfl rfl hx2) ?_
     obtain ⟨s1, hx3, h⟩ := h
     refine LW.rd hL rfl (Wants.free rfl) rfl (Rd.conv (v := .string s1) rfl hx3) ?_
     refine LW.rd hL rfl (Wants.free rfl) rfl (Rd.assign (v := .string s1) rfl) ?_
     refine LW.nil hL rfl ?_
     refine NW.then ?_
     refine CW.ret ?_
     refine RW.then ?_
     refine RW.then ?_
     exact res1 rfl rfl ⟨s1, rfl, h⟩
    ·replace h := h.2 hb5
     refine CW.skip ?_
     refine NW.then ?_
     refine CW.seq ?_
     refine CW.region fun L hL => ?_
     refine LW.rd hL rfl (Wants.free rfl) rfl (Rd.move (v := .int .i64 r3) rfl) ?_
     refine LW.rd hL rfl (Wants.free rfl) rfl (Rd.bin (v := .int .i64 (IntKind.wrap .i64 (1 + r3))) rfl rfl (fun w => by kernel_rfl)) ?_
     obtain ⟨l3, l3n, l3c, hx4, h⟩ := h
     refine LW.rd hL rfl (Wants.free rfl) rfl (Rd.slice (v := .slice l3 l3n l3c) rfl rfl rfl rfl hx4) ?_
     obtain ⟨s2, hx5, h⟩ := h
     refine LW.rd hL rfl (Wants.free rfl) rfl (Rd.conv (v := .string s2) rfl hx5) ?_
     refine LW.rd hL rfl (Wants.free rfl) rfl (Rd.assign (v := .string s2) rfl) ?_
     refine LW.nil hL rfl ?_
     refine NW.then ?_
     refine CW.ret ?_
     refine RW.then ?_
     exact res1 rfl rfl ⟨s2, rfl, h⟩
   ·skip
    refine CW.seq ?_
    refine CW.region fun L hL => ?_
    refine LW.rd hL rfl (Wants.free rfl) rfl (Rd.move (v := .int .i64 i1) rfl) ?_
    refine LW.rd hL rfl (Wants.free rfl) rfl (Rd.bin (v := .bool (decide (i1 < 0))) rfl rfl (fun w => by kernel_rfl)) ?_
    refine LW.nil hL rfl ?_
    refine NW.then ?_
    refine CW.cond rfl (fun hb6 => ?_) (fun hb6 => ?_)
    ·replace h := h.1 hb6
     refine CW.region fun L hL => ?_
     refine LW.rd hL rfl (Wants.free rfl) rfl (Rd.move (v := .int .u64 (IntKind.wrap .u64 i1)) rfl) ?_
     refine LW.rd hL rfl (Wants.free rfl) rfl (Rd.un (v := .int .u64 (IntKind.wrap .u64 (0 - (IntKind.wrap .u64 i1)))) rfl (fun _ => by kernel_rfl)) ?_
     refine LW.rd hL rfl (Wants.free rfl) rfl (Rd.assign (v := .int .u64 (IntKind.wrap .u64 (0 - (IntKind.wrap .u64 i1)))) rfl) ?_
     refine LW.nil hL rfl ?_
     exact NW.cut (S := Int) (Ek := fun u1 => [(0, .int .i64 i1), (1, .int .i64 base1), (4, .string ⟨#[]⟩), (5, .pointer (some (⟨b1, 0, none⟩ : Addr))), (6, .int .u64 u1)]) (IntKind.wrap .u64 (0 - (IntKind.wrap .u64 i1))) (by exact ⟨rfl, rfl, rfl, rfl, rfl, trivial⟩) h
    ·replace h := h.2 hb6
     refine CW.skip ?_
     exact NW.cut (S := Int) (Ek := fun u1 => [(0, .int .i64 i1), (1, .int .i64 base1), (4, .string ⟨#[]⟩), (5, .pointer (some (⟨b1, 0, none⟩ : Addr))), (6, .int .u64 u1)]) (IntKind.wrap .u64 i1) (by exact ⟨rfl, rfl, rfl, rfl, rfl, trivial⟩) h
 ·replace h := h.2 hb1
  refine CW.skip ?_
  refine NW.then ?_
  refine CW.seq ?_
  refine CW.region fun L hL => ?_
  refine LW.rd hL rfl (Wants.free rfl) rfl (Rd.move (v := .int .i64 i1) rfl) ?_
  refine LW.rd hL rfl (Wants.free rfl) rfl (Rd.conv (v := .int .u64 (IntKind.wrap .u64 i1)) rfl (fun _ => by kernel_rfl)) ?_
  refine LW.rd hL rfl (Wants.free rfl) rfl (Rd.move (v := .int .i64 base1) rfl) ?_
  refine LW.rd hL rfl (Wants.free rfl) rfl (Rd.move (v := .int .i64 i1) rfl) ?_
  refine LW.rd hL rfl (Wants.free rfl) rfl (Rd.bin (v := .bool (decide (i1 < 0))) rfl rfl (fun w => by kernel_rfl)) ?_
  refine LW.call hL rfl (Wants.free rfl) rfl (Cl.fn (f := 109) rfl Tryz.func109 (by kernel_rfl) rfl) h (fun e w7 h_ => ?_)
  clear h
  obtain ⟨r4, r4n, r4c, r5, rfl, h⟩ := h_
  refine ⟨_, rfl, ?_⟩
  refine LW.rd hL rfl (Wants.free rfl) rfl (Rd.move (v := .tuple #[.slice r4 r4n r4c, .string r5]) rfl) ?_
  refine LW.rd hL rfl (Wants.free rfl) rfl (Rd.extract (v := .slice r4 r4n r4c) rfl rfl) ?_
  refine LW.rd hL rfl (Wants.free rfl) rfl (Rd.extract (v := .string r5) rfl rfl) ?_
  refine LW.rd hL rfl (Wants.free rfl) rfl (Rd.assign (v := .slice r4 r4n r4c) rfl) ?_
  refine LW.rd hL rfl (Wants.free rfl) rfl (Rd.assign (v := .string r5) rfl) ?_
  refine LW.nil hL rfl ?_
  refine NW.then ?_
  refine CW.seq ?_
  refine CW.region fun L hL => ?_
  refine LW.rd hL rfl (Wants.free rfl) rfl (Rd.move (v := .string r5) rfl) ?_
  refine LW.rd hL rfl (Wants.free rfl) rfl (Rd.assign (v := .string r5) rfl) ?_
  refine LW.nil hL rfl ?_
  refine NW.then ?_
  refine CW.ret ?_
  exact res1 rfl rfl ⟨r5, rfl, h⟩
/- internal/strconv.small -/
def W_internal_strconv_small (i1 : Int) (w : World) (R : ByteArray → World → Prop) : Prop :=
 ((decide (i1 < 10)) = true → ∃ (l1 : ByteArray), (∀ w : World, (Instr.sliceAt 9 (.string ⟨#[48, 49, 50, 51, 52, 53, 54, 55, 56, 57, 97, 98, 99, 100, 101, 102, 103, 104, 105, 106, 107, 108, 109, 110, 111, 112, 113, 114, 115, 116, 117, 118, 119, 120, 121, 122]⟩) (some (.int .i64 i1)) (some (.int .i64 (IntKind.wrap .i64 (i1 + 1)))) (none)).run Tryz.prog w = .ok (.string l1) w) ∧ (R l1 w)) ∧ ((decide (i1 < 10)) = false → ∃ (l2 : ByteArray), (∀ w : World, (Instr.sliceAt 9 (.string ⟨#[48, 48, 48, 49, 48, 50, 48, 51, 48, 52, 48, 53, 48, 54, 48, 55, 48, 56, 48, 57, 49, 48, 49, 49, 49, 50, 49, 51, 49, 52, 49, 53, 49, 54, 49, 55, 49, 56, 49, 57, 50, 48, 50, 49, 50, 50, 50, 51, 50, 52, 50, 53, 50, 54, 50, 55, 50, 56, 50, 57, 51, 48, 51, 49, 51, 50, 51, 51, 51, 52, 51, 53, 51, 54, 51, 55, 51, 56, 51, 57, 52, 48, 52, 49, 52, 50, 52, 51, 52, 52, 52, 53, 52, 54, 52, 55, 52, 56, 52, 57, 53, 48, 53, 49, 53, 50, 53, 51, 53, 52, 53, 53, 53, 54, 53, 55, 53, 56, 53, 57, 54, 48, 54, 49, 54, 50, 54, 51, 54, 52, 54, 53, 54, 54, 54, 55, 54, 56, 54, 57, 55, 48, 55, 49, 55, 50, 55, 51, 55, 52, 55, 53, 55, 54, 55, 55, 55, 56, 55, 57, 56, 48, 56, 49, 56, 50, 56, 51, 56, 52, 56, 53, 56, 54, 56, 55, 56, 56, 56, 57, 57, 48, 57, 49, 57, 50, 57, 51, 57, 52, 57, 53, 57, 54, 57, 55, 57, 56, 57, 57]⟩) (some (.int .i64 (IntKind.wrap .i64 (i1 * 2)))) (some (.int .i64 (IntKind.wrap .i64 ((IntKind.wrap .i64 (i1 * 2)) + 2)))) (none)).run Tryz.prog w = .ok (.string l2) w) ∧ (R l2 w))
set_option maxRecDepth 100000 in
theorem go_internal_strconv_small (i1 : Int) (w : World) (R : ByteArray → World → Prop) (h : W_internal_strconv_small i1 w R) : Calls Tryz.prog 106 #[.int .i64 i1] w (fun e w' => ∃ (r1 : ByteArray), e = .returned (.string r1) ∧ R r1 w') := by
 unfold W_internal_strconv_small at h
 refine enter (N := 15) Tryz.func106 rfl rfl ?_
 refine CW.seq ?_
 refine CW.region fun L hL => ?_
 refine LW.rd hL rfl (Wants.free rfl) rfl (Rd.assign (v := .string ⟨#[]⟩) rfl) ?_
 refine LW.nil hL rfl ?_
 refine NW.then ?_
 refine CW.seq ?_
 refine CW.seq ?_
 refine CW.region fun L hL => ?_
 refine LW.rd hL rfl (Wants.free rfl) rfl (Rd.move (v := .int .i64 i1) rfl) ?_
 refine LW.rd hL rfl (Wants.free rfl) rfl (Rd.bin (v := .bool (decide (i1 < 10))) rfl rfl (fun w => by kernel_rfl)) ?_
 refine LW.nil hL rfl ?_
 refine NW.then ?_
 refine CW.cond rfl (fun hb1 => ?_) (fun hb1 => ?_)
 ·replace h := h.1 hb1
  refine CW.seq ?_
  refine CW.region fun L hL => ?_
  refine LW.rd hL rfl (Wants.free rfl) rfl (Rd.move (v := .int .i64 i1) rfl) ?_
  refine LW.rd hL rfl (Wants.free rfl) rfl (Rd.move (v := .int .i64 i1) rfl) ?_
  refine LW.rd hL rfl (Wants.free rfl) rfl (Rd.bin (v := .int .i64 (IntKind.wrap .i64 (i1 + 1))) rfl rfl (fun w => by kernel_rfl)) ?_
  obtain ⟨l1, hx1, h⟩ := h
  refine LW.rd hL rfl (Wants.free rfl) rfl (Rd.slice (v := .string l1) rfl rfl rfl rfl hx1) ?_
  refine LW.rd hL rfl (Wants.free rfl) rfl (Rd.assign (v := .string l1) rfl) ?_
  refine LW.nil hL rfl ?_
  refine NW.then ?_
  refine CW.ret ?_
  refine RW.then ?_
  exact res1 rfl rfl ⟨l1, rfl, h⟩
 ·replace h := h.2 hb1
  refine CW.skip ?_
  refine NW.then ?_
  refine CW.seq ?_
  refine CW.region fun L hL => ?_
  refine LW.rd hL rfl (Wants.free rfl) rfl (Rd.move (v := .int .i64 i1) rfl) ?_
  refine LW.rd hL rfl (Wants.free rfl) rfl (Rd.bin (v := .int .i64 (IntKind.wrap .i64 (i1 * 2))) rfl rfl (fun w => by kernel_rfl)) ?_
  refine LW.rd hL rfl (Wants.free rfl) rfl (Rd.move (v := .int .i64 i1) rfl) ?_
  refine LW.rd hL rfl (Wants.free rfl) rfl (Rd.bin (v := .int .i64 (IntKind.wrap .i64 (i1 * 2))) rfl rfl (fun w => by kernel_rfl)) ?_
  refine LW.rd hL rfl (Wants.free rfl) rfl (Rd.bin (v := .int .i64 (IntKind.wrap .i64 ((IntKind.wrap .i64 (i1 * 2)) + 2))) rfl rfl (fun w => by kernel_rfl)) ?_
  obtain ⟨l2, hx2, h⟩ := h
  refine LW.rd hL rfl (Wants.free rfl) rfl (Rd.slice (v := .string l2) rfl rfl rfl rfl hx2) ?_
  refine LW.rd hL rfl (Wants.free rfl) rfl (Rd.assign (v := .string l2) rfl) ?_
  refine LW.nil hL rfl ?_
  refine NW.then ?_
  refine CW.ret ?_
  exact res1 rfl rfl ⟨l2, rfl, h⟩
end Go.Proofs.YtfcfkhbkkfpehaaGreatDoor
end
section
/- Law 14: known holds; lists of places compared; the text of a place. -/
namespace Go.Proofs.YtfcfkhbkkfpehaaGreatDoor
open Go Go.RowKit Go.X Go.XR
def CellsP (w : World) (q : Sl) (ps : List Pl) : Prop := q.2.1 = ps.length ∧ ∀ j x, ps[j]? = some x → ∃ a, q.1 = some a ∧ CellsAt w (a.add (j * 2)) 0 [.int .i64 x.1, .int .i64 x.2]
theorem CellsP.chg {w w' : World} {q : Sl} {ps : List Pl} {f : List Nat} (h : CellsP w q ps) (hc : Chg f w w') (hf : ∀ i ∈ rowB q.1, i ∉ f) : CellsP w' q ps :=
 ⟨h.1, fun j x hx => let ⟨a, ha, hcs⟩ := h.2 j x hx; ⟨a, ha, hc.cells (by rw [add_block]; exact hf _ (mem_rowB.2 ⟨a, ha, rfl⟩)) hcs⟩⟩
theorem ReadsP.cells {w : World} {q : Sl} {ps : List Pl} (h : ReadsP w q ps) : CellsP w q ps := ⟨h.1, h.2.2⟩
theorem row_cells {w : World} {p : Option Addr} {n c : Nat} {ps : List Pl} (h : RowAt w 25 2 p n c (ps.flatMap encPl)) (hn : n = ps.length) : CellsP w (p, n, c) ps := by
 refine ⟨hn, fun j x hj => ?_⟩
 obtain ⟨g0, g1⟩ := flat_get2 ps j x hj
 obtain ⟨a, ha, c0⟩ := h.at g0
 obtain ⟨a', ha', c1⟩ := h.at g1
 rw [ha] at ha'
 cases ha'
 exact ⟨a, ha, by rw [add_add]; exact c0, by rw [add_add]; exact c1, trivial⟩
theorem same_places {w : World} {p q : Option Addr} {pn pc qn qc : Nat} {xs ys : List Pl} (h1 : CellsP w (p, pn, pc) xs) (h2 : CellsP w (q, qn, qc) ys) (hl : xs.length ≤ 1000000000000) :
  Calls Tryz.prog 22 #[.slice p pn pc, .slice q qn qc] w fun e w' => ∃ r : Bool, e = .returned (.bool r) ∧ (r = decide (xs = ys) ∧ Chg [] w w') := by
 have n1 : pn = xs.length := h1.1
 have n2 : qn = ys.length := h2.1
 refine go_pomanderref10_SamePlaces _ _ _ _ _ _ _ _ ?_
 unfold W_pomanderref10_SamePlaces
 refine ⟨fun h => ⟨?_, Chg.refl _ _⟩, fun h => ?_⟩
 ·have hne : xs.length ≠ ys.length := by intro e; simp [n1, n2, e] at h
  symm; exact decide_eq_false (fun e => hne (by rw [e]))
 have hlen : xs.length = ys.length := by
  have : (pn : Int) = qn := by simpa using h
  omega
 refine ⟨fun x i w1 => ∃ j : Nat, i = (j : Int) ∧ j ≤ xs.length ∧ xs.take j = ys.take j ∧ Chg [] w w1, fun _ i _ => (xs.length - i).toNat, ⟨0, rfl, Nat.zero_le _, rfl, Chg.refl _ _⟩, ?_⟩
 rintro x1 _ w1 ⟨j, rfl, hj, ht, c1⟩
 refine ⟨fun hlt => ?_, fun hge => ?_⟩
 ·have hjn : j < xs.length := by have := of_decide_eq_true hlt; omega
  obtain ⟨x, hx⟩ := get_of hjn
  obtain ⟨y, hy⟩ := get_of (l := ys) (j := j) (by omega)
  obtain ⟨a, ha, ca⟩ := h1.2 j x hx
  obtain ⟨a', ha', ca'⟩ := h2.2 j y hy
  refine ⟨a, ha, by omega, by omega, fun w2 c2 => ?_⟩
  have c02 := c1.trans0 c2
  refine ⟨x.1, x.2, by simpa using c02.cells (by simp) ca, a', ha', by omega, by omega, y.1, y.2, by simpa using c02.cells (by simp) ca', fun hne => ⟨?_, c02⟩, fun heq => ?_⟩
  ·symm
   refine decide_eq_false (fun e => ?_)
   subst e
   rw [hx] at hy
   cases hy
   simp at hne
  ·have hxy : x = y := by
    simp at heq
    exact Prod.ext heq.1 heq.2
   subst hxy
   rw [wr (by omega) (by omega)]
   exact ⟨⟨j + 1, by omega, by omega, by rw [take_snoc hx, take_snoc hy, ht], c02⟩, by simp only []; omega⟩
 ·have hjn : j = xs.length := by have := of_decide_eq_false hge; omega
  refine ⟨?_, c1⟩
  symm
  refine decide_eq_true ?_
  rw [hjn, List.take_length] at ht
  rw [ht, hlen, List.take_length]
/-! ### The text of mem 5 -/
def sMem : ByteArray := ⟨#[109, 101, 109]⟩
theorem small5 (w : World) : Calls Tryz.prog 106 #[.int .i64 5] w fun e w' => ∃ r : ByteArray, e = .returned (.string r) ∧ (r = ⟨#[53]⟩ ∧ w' = w) := by
 refine go_internal_strconv_small _ _ _ ?_
 unfold W_internal_strconv_small
 exact ⟨fun _ => ⟨⟨#[53]⟩, fun w => by kernel_rfl, rfl, rfl⟩, fun h => by simp at h⟩
theorem formatInt5 (w : World) : Calls Tryz.prog 88 #[.int .i64 5, .int .i64 10] w fun e w' => ∃ r : ByteArray, e = .returned (.string r) ∧ (r = ⟨#[53]⟩ ∧ w' = w) := by
 refine go_internal_strconv_FormatInt _ _ _ _ ?_
 unfold W_internal_strconv_FormatInt
 refine ⟨fun _ => ⟨fun _ => ?_, fun h => by simp at h⟩, fun h => by simp at h⟩
 refine (small5 w).mono ?_
 rintro _ w1 ⟨_, rfl, rfl, hw⟩
 exact ⟨_, rfl, rfl, hw⟩
theorem itoa5 (w : World) : Calls Tryz.prog 44 #[.int .i64 5] w fun e w' => ∃ r : ByteArray, e = .returned (.string r) ∧ (r = ⟨#[53]⟩ ∧ w' = w) := by
 refine go_strconv_Itoa _ _ _ ?_
 unfold W_strconv_Itoa
 refine (go_internal_strconv_Itoa _ _ (fun r w' => r = ⟨#[53]⟩ ∧ w' = w) ?_).mono ?_
 ·unfold W_internal_strconv_Itoa
  exact formatInt5 w
 ·rintro _ w1 ⟨_, rfl, rfl, hw⟩
  exact ⟨_, rfl, rfl, hw⟩
theorem query_names (w : World) : Calls Tryz.prog 43 #[] w fun e w' => e = .returned (.agg #[.string ⟨#[110, 111, 110, 101]⟩, .string ⟨#[114, 101, 103]⟩, .string ⟨#[112, 99]⟩, .string ⟨#[101, 112, 99]⟩, .string ⟨#[99, 97, 117, 115, 101]⟩, .string ⟨#[118, 101, 99]⟩, .string ⟨#[116, 97, 98, 108, 101]⟩, .string ⟨#[109, 111, 100, 101]⟩, .string ⟨#[109, 97, 115, 107]⟩, .string ⟨#[97, 108, 97, 114, 109]⟩, .string ⟨#[109, 101, 109]⟩, .string ⟨#[116, 108, 98]⟩, .string ⟨#[115, 101, 99, 116, 111, 114]⟩, .string ⟨#[105, 110]⟩, .string ⟨#[111, 117, 116]⟩, .string ⟨#[112, 97, 99, 107, 101, 116]⟩, .string ⟨#[115, 101, 110, 116]⟩, .string ⟨#[97, 115, 107]⟩]) ∧ Chg [] w w' := by
 refine (go_query_names w (fun r2 r3 r4 r5 r6 r7 r8 r9 r10 r11 r12 r13 r14 r15 r16 r17 r18 r19 w' => (r2 = ⟨#[110, 111, 110, 101]⟩ ∧ r3 = ⟨#[114, 101, 103]⟩ ∧ r4 = ⟨#[112, 99]⟩ ∧ r5 = ⟨#[101, 112, 99]⟩ ∧ r6 = ⟨#[99, 97, 117, 115, 101]⟩ ∧ r7 = ⟨#[118, 101, 99]⟩ ∧ r8 = ⟨#[116, 97, 98, 108, 101]⟩ ∧ r9 = ⟨#[109, 111, 100, 101]⟩ ∧ r10 = ⟨#[109, 97, 115, 107]⟩ ∧ r11 = ⟨#[97, 108, 97, 114, 109]⟩ ∧ r12 = ⟨#[109, 101, 109]⟩ ∧ r13 = ⟨#[116, 108, 98]⟩ ∧ r14 = ⟨#[115, 101, 99, 116, 111, 114]⟩ ∧ r15 = ⟨#[105, 110]⟩ ∧ r16 = ⟨#[111, 117, 116]⟩ ∧ r17 = ⟨#[112, 97, 99, 107, 101, 116]⟩ ∧ r18 = ⟨#[115, 101, 110, 116]⟩ ∧ r19 = ⟨#[97, 115, 107]⟩) ∧ Chg [] w w') ?_).mono ?_
 ·unfold W_query_names
  rintro b1 w2 ⟨_, _⟩ c
  exact ⟨⟨rfl, rfl, rfl, rfl, rfl, rfl, rfl, rfl, rfl, rfl, rfl, rfl, rfl, rfl, rfl, rfl, rfl, rfl⟩, c⟩
 ·rintro e w1 ⟨r2, r3, r4, r5, r6, r7, r8, r9, r10, r11, r12, r13, r14, r15, r16, r17, r18, r19, rfl, ⟨rfl, rfl, rfl, rfl, rfl, rfl, rfl, rfl, rfl, rfl, rfl, rfl, rfl, rfl, rfl, rfl, rfl, rfl⟩, c⟩
  exact ⟨rfl, c⟩
theorem text_mem5 (w : World) : Calls Tryz.prog 20 #[.agg #[.int .i64 10, .int .i64 5]] w fun e w' => ∃ r : ByteArray, e = .returned (.string r) ∧ (r = ⟨#[109, 101, 109, 32, 53]⟩ ∧ Chg [] w w') := by
 refine go_query_Text _ _ _ _ ?_
 unfold W_query_Text
 rintro b1 w1 ⟨l1, u1⟩ c1
 refine ⟨fun b w' => b = false ∧ Chg [] w w' ∧ b1 < w'.heap.size, ?_, fun _ => ⟨rfl, c1, u1⟩, fun h => by simp at h⟩
 rintro _ w2 ⟨rfl, c2, u2⟩
 refine ⟨fun h => by simp at h, fun _ => ⟨fun b w' => b = true ∧ Chg [] w w' ∧ b1 < w'.heap.size, ?_, fun _ => ⟨rfl, c2, u2⟩, fun h => by simp at h⟩⟩
 rintro _ w3 ⟨rfl, c3, u3⟩
 refine ⟨fun _ w4 c4 => ?_, fun h => by simp at h⟩
 refine (query_names w4).mono ?_
 rintro _ w5 ⟨rfl, c5⟩
 have s4 := c4.size
 refine ⟨_, _, _, _, _, _, _, _, _, _, _, _, _, _, _, _, _, _, rfl, Same.chg c5 (by simp; omega), sMem, fun w => by kernel_rfl, ⟨#[109, 101, 109, 32]⟩, fun w => by kernel_rfl, ?_⟩
 refine (itoa5 w5).mono ?_
 rintro _ w6 ⟨_, rfl, rfl, hw⟩
 subst w6
 exact ⟨_, rfl, Same.refl _ _, ⟨#[109, 101, 109, 32, 53]⟩, fun w => by kernel_rfl, rfl, (c3.trans0 c4).trans0 c5⟩
theorem single_of {l : List Pl} {a : Pl} (hn : l.Nodup) (h : ∀ q, q ∈ l ↔ q = a) : l = [a] := by
 cases l with
 | nil => exact absurd ((h a).2 rfl) (by simp)
 | cons x l =>
  have hx := (h x).1 (.head _)
  subst hx
  cases l with
  | nil => rfl
  | cons y l =>
   have hy := (h y).1 (.tail _ (.head _))
   subst hy
   simp at hn
theorem touch_one {w : World} {b4 b5 : Nat} {x y : Pl} (h4 : w.heap[b4]? = some (.cells #[.int .i64 x.1, .int .i64 x.2] 25 (0, 0))) (h5 : w.heap[b5]? = some (.cells #[.int .i64 y.1, .int .i64 y.2, .slice (some (⟨b4, 0, none⟩ : Addr)) 1 1] 36 (0, 0)))
  (hx : i64s x.1 ∧ i64s x.2) (hy : i64s y.1 ∧ i64s y.2) : TouchesAt w (fun i => i = b4 ∨ i = b5) (some ⟨b5, 0, none⟩) 1 [(y, [x])] := by
 refine ⟨rfl, fun j t ht => ?_⟩
 match j, ht with
 | 0, ht =>
  simp at ht; subst ht
  refine ⟨hy.1, hy.2, ⟨b5, 0, none⟩, _, _, _, rfl, .inr rfl, by simpa [add_at] using cellsAt_of h5, rfl, fun j z hz => ?_⟩
  match j, hz with
  | 0, hz =>
   simp at hz; subst hz
   exact ⟨hx.1, hx.2, ⟨b4, 0, none⟩, rfl, .inl rfl, by simpa [add_at] using cellsAt_of h4⟩
  | j + 1, hz => simp at hz
 | j + 1, ht => simp at ht
def nsK : List Nt := [(1, (1, 1), [(13, 0)]), (2, (10, 5), [(1, 1)])]
theorem root_known (q : Pl) : isRoot nsK ((10, 5), 9) q ↔ q = (13, 0) := by
 have k1 : kids nsK ((10, 5), 9) = [((1, 1), 2)] := by decide
 have k2 : kids nsK ((1, 1), 2) = [((13, 0), 1)] := by decide
 have k3 : kids nsK ((13, 0), 1) = [] := by decide
 have hr : ∀ u, Reach nsK ((10, 5), 9) u → u = ((10, 5), 9) ∨ u = ((1, 1), 2) ∨ u = ((13, 0), 1) := by
  intro u hu
  induction hu with
  | refl => exact .inl rfl
  | step _ hc ih =>
   rcases ih with rfl | rfl | rfl
   ·rw [k1] at hc; simp at hc; exact .inr (.inl hc)
   ·rw [k2] at hc; simp at hc; exact .inr (.inr hc)
   ·rw [k3] at hc; simp at hc
 constructor
 ·rintro ⟨u, hu, rfl, hb⟩
  rcases hr u hu with rfl | rfl | rfl
  ·exact absurd hb (by decide)
  ·exact absurd hb (by decide)
  ·rfl
 ·rintro rfl
  exact ⟨((13, 0), 1), .step (b := ((1, 1), 2)) (.step (b := ((10, 5), 9)) .refl (by rw [k1]; simp)) (by rw [k2]; simp), rfl, by decide⟩
theorem known_ok (w : World) : Calls Tryz.prog 6 #[] w fun e w' => ∃ r : Bool, e = .returned (.bool r) ∧ (r = true ∧ Chg [] w w') := by
 refine go_pomanderlaw14_known _ _ ?_
 unfold W_pomanderlaw14_known
 refine (query_new w).mono ?_
 rintro _ w1 ⟨_, rfl, b, fp, rfl, hH, c1, hf⟩
 refine ⟨_, rfl, ?_⟩
 rintro b3 b2 b1 w7 ⟨l3, u3⟩ ⟨l2, u2⟩ ⟨l1, u1⟩ c7
 have hlt := hH.lt
 have s1 := c1.size
 have s7 := c7.size
 refine v_alloc fun b4 w8 e4 hb4 c8 => ?_
 refine v_alloc fun b5 w9 e5 hb5 c9 => ?_
 have s8 := c8.size
 have s9 := c9.size
 have c19 := (c7.trans0 c8).trans0 c9
 have k4 := lt_of_heap hb4
 have k5 := lt_of_heap hb5
 refine (hist_add (ns := []) (last := 0) (hH.chg c19 (by simp)) (touch_one (x := (13, 0)) (y := (1, 1)) (c9.obj (by simp) hb4) hb5 (by simp [i64s]) (by simp [i64s])) (fun i hi hS => by have := hlt i hi; rcases hS with h | h <;> omega) (by simp) (by simp) (by simp [i64s])).mono ?_
 rintro _ w10 ⟨r3, rfl, fp2, c10, hf2, hr⟩
 rw [if_neg (by simp)] at hr
 obtain ⟨rfl, hH2⟩ := hr
 have s10 := c10.size
 refine ⟨0, rfl, Same.of c10 (fun i hi => by
  simp at hi
  exact ⟨by omega, fun hm => by have := hlt i hm; omega⟩), ?_⟩
 refine v_alloc fun b6 w11 e6 hb6 c11 => ?_
 refine v_alloc fun b7 w12 e7 hb7 c12 => ?_
 have s11 := c11.size
 have s12 := c12.size
 have hlt2 := hH2.lt
 have k6 := lt_of_heap hb6
 have k7 := lt_of_heap hb7
 refine (hist_add (hH2.chg (c11.trans0 c12) (by simp)) (touch_one (x := (1, 1)) (y := (10, 5)) (c12.obj (by simp) hb6) hb7 (by simp [i64s]) (by simp [i64s])) (fun i hi hS => by have := hlt2 i hi; rcases hS with h | h <;> omega) (by simp) (by decide) (by simp [i64s])).mono ?_
 rintro _ w13 ⟨r4, rfl, fp3, c13, hf3, hr⟩
 rw [if_neg (by decide)] at hr
 obtain ⟨rfl, hH3⟩ := hr
 have hb31 : ∀ i, (i = b3 ∨ i = b1) → i ∉ fp2 := fun i hi hm => by
  rcases hf2 i hm with h | h
  ·have := hlt i h; omega
  ·omega
 refine ⟨0, rfl, Same.of c13 (fun i hi => by
  simp at hi
  exact ⟨by omega, hb31 i hi⟩), ?_⟩
 have s13 := c13.size
 refine (hist_roots hH3 (by decide) (by decide) 10 5 9).mono ?_
 rintro _ w14 ⟨r5, r5n, r5c, rfl, c14, ys, hrow, hlen, hfr, hnd, _, hmem, _⟩
 have hys : ys = [(13, 0)] := single_of hnd (fun q => (hmem q).trans (root_known q))
 subst hys
 have hcs := row_cells hrow hlen
 obtain rfl : 1 = r5n := hlen.symm
 refine ⟨_, _, _, rfl, Same.chg c14 (by simp; omega), fun w15 c15 => ?_⟩
 obtain ⟨a, ha, hca⟩ := (hcs.chg c15 (by simp)).2 0 _ rfl
 have call : Chg [] w w15 := by
  have d1 : Chg [] w w10 := (c1.trans0 c19).trans c10 (fun i hi hlt' => by have := hf i hi; omega)
  have d2 : Chg [] w w13 := ((d1.trans0 c11).trans0 c12).trans c13 (fun i hi hlt' => by
   rcases hf2 i hi with h | h
   ·have := hf i h; omega
   ·omega)
  exact (d2.trans0 c14).trans0 c15
 refine ⟨fun b w' => b = true ∧ Chg [] w w', ?_, fun _ => ⟨a, ha, by omega, by decide, 13, 0, by simpa using hca, rfl, call⟩, fun h => by simp at h⟩
 rintro _ w16 ⟨rfl, c16⟩
 refine ⟨fun b w' => b = true ∧ Chg [] w w', fun b w' h => h, fun _ => ?_, fun h => by simp at h⟩
 refine (text_mem5 w16).mono ?_
 rintro _ w18 ⟨_, rfl, rfl, c18⟩
 exact ⟨_, rfl, true, fun w => by kernel_rfl, rfl, c16.trans0 c18⟩
end Go.Proofs.YtfcfkhbkkfpehaaGreatDoor
end
section
/- Law 14: adds that came in; vast, made. -/
namespace Go.Proofs.YtfcfkhbkkfpehaaGreatDoor
open Go Go.RowKit Go.X Go.XR
abbrev AddV := Int × List Tch
structure AddsAt (w : World) (S : Nat → Prop) (p : Option Addr) (n : Nat) (l : List AddV) : Prop where
 length : l.length = n
 each : ∀ j x, l[j]? = some x → i64s x.1 ∧ ∃ a q qn qc, p = some a ∧ S a.block ∧ CellsAt w (a.add (j * 2)) 0 [.int .i64 x.1, .slice q qn qc] ∧ TouchesAt w S q qn x.2 ∧ qn ≤ maxLen ∧ ∀ t ∈ x.2, t.2.length ≤ maxLen
theorem AddsAt.chg {w w' : World} {S : Nat → Prop} {p : Option Addr} {n : Nat} {l : List AddV} {f : List Nat} (h : AddsAt w S p n l) (hc : Chg f w w') (hf : ∀ i ∈ f, ¬ S i) : AddsAt w' S p n l :=
 ⟨h.length, fun j x hx => let ⟨h1, a, q, qn, qc, h3, h4, h5, h6, h7⟩ := h.each j x hx; ⟨h1, a, q, qn, qc, h3, h4, hc.cells (by rw [add_block]; exact fun hm => hf _ hm h4) h5, h6.chg hc hf, h7⟩⟩
def smallA (l : List AddV) : Prop := l.length ≤ 30 ∧ ∀ x ∈ l, x.2.length ≤ 10 ∧ ∀ t ∈ x.2, t.2.length ≤ 6
theorem vast14 {w : World} {S : Nat → Prop} {p : Option Addr} {n c : Nat} {l : List AddV} (h : AddsAt w S p n l) (hn : n ≤ maxLen) :
  Calls Tryz.prog 5 #[.slice p n c] w fun e w' => ∃ r : Bool, e = .returned (.bool r) ∧ ((r = false → smallA l) ∧ Chg [] w w') := by
 have hl := h.length
 refine go_pomanderlaw14_vast _ _ _ _ _ ?_
 unfold W_pomanderlaw14_vast
 refine ⟨fun _ => ⟨fun h => by simp at h, Chg.refl _ _⟩, fun h30 => ?_⟩
 have h30' := of_decide_eq_false h30
 refine ⟨fun _ i w1 => ∃ j : Nat, i = (j : Int) ∧ j ≤ l.length ∧ (∀ k x, k < j → l[k]? = some x → x.2.length ≤ 10 ∧ ∀ t ∈ x.2, t.2.length ≤ 6) ∧ Chg [] w w1, fun _ i _ => (l.length - i).toNat, ⟨0, rfl, Nat.zero_le _, fun k x hk => absurd hk (Nat.not_lt_zero _), Chg.refl _ _⟩, ?_⟩
 rintro x1 _ w1 ⟨j, rfl, hj, hsm, c1⟩
 refine ⟨fun hlt => ?_, fun hge => ?_⟩
 ·have hjn : j < l.length := by have := of_decide_eq_true hlt; omega
  obtain ⟨x, hx⟩ := get_of hjn
  obtain ⟨i1, a, q, qn, qc, ha, hSa, hcs, hts, hqn, hin⟩ := (h.chg (f := []) c1 (by simp)).each j x hx
  have hql := hts.length
  have hcell : w1.cell? ((a.add (Int.toNat (j : Int) * 2)).add 1) = some (.slice q qn qc) := by simpa using hcs.2.1
  refine ⟨a, ha, by omega, by omega, q, qn, qc, hcell, fun _ => ⟨fun h => by simp at h, c1⟩, fun h10 => ?_⟩
  have h10' := of_decide_eq_false h10
  refine ⟨fun _ k w2 => ∃ i : Nat, k = (i : Int) ∧ i ≤ x.2.length ∧ (∀ m t, m < i → x.2[m]? = some t → t.2.length ≤ 6) ∧ Chg [] w w2 ∧ Chg [] w1 w2, fun _ k _ => (x.2.length - k).toNat, ⟨0, rfl, Nat.zero_le _, fun k x hk => absurd hk (Nat.not_lt_zero _), c1, Chg.refl _ _⟩, ?_⟩
  rintro x2 _ w2 ⟨i, rfl, hi, hst, c2, c12⟩
  refine ⟨q, qn, qc, c12.cell (by simp) hcell, fun hlt2 => ?_, fun hge2 => ?_⟩
  ·have hin' : i < x.2.length := by have := of_decide_eq_true hlt2; omega
   obtain ⟨t, ht⟩ := get_of hin'
   obtain ⟨_, _, a2, q2, q2n, q2c, ha2, _, hcs2, hpl⟩ := (hts.chg (f := []) c12 (by simp)).each i t ht
   have hq2 := hpl.length
   refine ⟨a2, ha2, by omega, by omega, q2, q2n, q2c, by simpa using hcs2.2.2.1, fun _ => ⟨fun h => by simp at h, c2⟩, fun h6 => ?_⟩
   have h6' := of_decide_eq_false h6
   unfold maxLen at hqn
   rw [wr (by omega) (by omega)]
   refine ⟨⟨i + 1, by omega, by omega, fun m t' hm ht' => ?_, c2, c12⟩, by simp only []; omega⟩
   by_cases hmi : m < i
   ·exact hst m t' hmi ht'
   ·have : m = i := by omega
    subst this
    rw [ht] at ht'; cases ht'; omega
  ·have hin' : i = x.2.length := by have := of_decide_eq_false hge2; omega
   rw [wr (by omega) (by omega)]
   refine ⟨⟨j + 1, by omega, by omega, fun k y hk hy => ?_, c2⟩, by simp only []; omega⟩
   by_cases hkj : k < j
   ·exact hsm k y hkj hy
   ·have : k = j := by omega
    subst this
    rw [hx] at hy; cases hy
    refine ⟨by omega, fun t ht => ?_⟩
    obtain ⟨m, hm⟩ := List.getElem?_of_mem ht
    exact hst m t (by have := (List.getElem?_eq_some_iff.1 hm).1; omega) hm
 ·have hjn : j = l.length := by have := of_decide_eq_false hge; omega
  refine ⟨fun _ => ⟨by omega, fun x hx => ?_⟩, c1⟩
  obtain ⟨k, hk⟩ := List.getElem?_of_mem hx
  exact hsm k x (by have := (List.getElem?_eq_some_iff.1 hk).1; omega) hk
structure NotesAt (w : World) (S : Nat → Prop) (p : Option Addr) (n c : Nat) (ns : List Nt) : Prop where
 there : ∃ g : List (Nt × Sl), g.map Prod.fst = ns ∧ RowAt w 38 4 p n c (g.flatMap noteC) ∧ ∀ x ∈ g, PlacesAt w S x.2.1 x.2.2.1 x.1.2.2
 len : n = ns.length
 apart : ∀ i ∈ rowB p, ¬ S i
theorem NotesAt.chg {w w' : World} {S : Nat → Prop} {p : Option Addr} {n c : Nat} {ns : List Nt} {f : List Nat} (h : NotesAt w S p n c ns) (hc : Chg f w w') (h1 : ∀ i ∈ rowB p, i ∉ f) (h2 : ∀ i ∈ f, ¬ S i) : NotesAt w' S p n c ns := by
 obtain ⟨g, k1, k2, k3⟩ := h.there
 exact ⟨⟨g, k1, k2.chg hc h1, fun x hx => (k3 x hx).chg hc h2⟩, h.len, h.apart⟩
theorem NotesAt.lt {w : World} {S : Nat → Prop} {p : Option Addr} {n c : Nat} {ns : List Nt} (h : NotesAt w S p n c ns) : ∀ i ∈ rowB p, i < w.heap.size := by
 obtain ⟨g, k1, k2, k3⟩ := h.there
 exact k2.lt
theorem NotesAt.nil (w : World) (S : Nat → Prop) : NotesAt w S none 0 0 [] := ⟨⟨[], rfl, RowAt.nil, by simp⟩, rfl, by simp [rowB]⟩
theorem NotesAt.push {w : World} {S : Nat → Prop} {p : Option Addr} {n c : Nat} {ns : List Nt} (h : NotesAt w S p n c ns) (hS : ∀ i, S i → i < w.heap.size) (hfew : ns.length ≤ 1000000) {nt : Nt} {q : Sl} (hq : PlacesAt w S q.1 q.2.1 nt.2.2)
  {b2 : Nat} (hb2 : w.heap[b2]? = some (.cells #[.int .i64 nt.1, .int .i64 nt.2.1.1, .int .i64 nt.2.1.2, .slice q.1 q.2.1 q.2.2] 38 (0, 0))) (hb2n : b2 ∉ rowB p) :
  ∃ (l2 : Option Addr) (l2n l2c : Nat) (w13 : World), (Builtin.append_ #[44, 44] 44 #[.slice p n c, .slice (some (⟨b2, 0, none⟩ : Addr)) 1 1]).run Tryz.prog w = .ok (.slice l2 l2n l2c) w13 ∧ NotesAt w13 S l2 l2n l2c (ns ++ [nt]) ∧ Chg (rowB p) w w13 ∧ ∀ i ∈ rowB l2, i ∈ rowB p ∨ w.heap.size ≤ i := by
 obtain ⟨g, k1, k2, k3⟩ := h.there
 have hl := h.len
 obtain ⟨p', c', w', happ, hrow, hc, hnew⟩ := k2.append (P := Tryz.prog) (t := 44) (ty := 44) (i := Tryz.t38) (z := .agg #[.int .i64 0, .int .i64 0, .int .i64 0, .slice none 0 0]) (bytes := 48) (by kernel_rfl) (by kernel_rfl) (by kernel_rfl) (by kernel_rfl) (by kernel_rfl) rfl (by omega)
  (a := ⟨b2, 0, none⟩) (m := 1) (mc := 1) (news := noteC (nt, q)) (by simp [noteC]) (fun j u hj => by
   match j, hj with
   | 0, hj => simp [noteC] at hj; subst hj; rw [add_at, cell_of hb2]; rfl
   | 1, hj => simp [noteC] at hj; subst hj; rw [add_at, cell_of hb2]; rfl
   | 2, hj => simp [noteC] at hj; subst hj; rw [add_at, cell_of hb2]; rfl
   | 3, hj => simp [noteC] at hj; subst hj; rw [add_at, cell_of hb2]; rfl
   | j + 4, hj => simp [noteC] at hj) (fun u hu => by simp [noteC] at hu; rcases hu with rfl | rfl | rfl | rfl <;> rfl) (by unfold maxLen; omega) (by omega)
 have hSp : ∀ i ∈ rowB p, ¬ S i := h.apart
 refine ⟨p', n + 1, c', w', happ, ⟨⟨g ++ [(nt, q)], by rw [List.map_append, k1]; rfl, by rw [List.flatMap_append]; simpa using hrow, fun x hx => ?_⟩, by simp [hl], fun i hi hSi => ?_⟩, hc, hnew⟩
 ·rcases List.mem_append.1 hx with hx | hx
  ·exact (k3 x hx).chg hc hSp
  ·simp at hx; subst hx; exact hq.chg hc hSp
 ·rcases hnew i hi with h' | h'
  ·exact hSp i h' hSi
  ·have := hS i hSi; omega
def stepA (st : List Nt × Int) (x : AddV) : List Nt × Int := if x.1 < 0 ∨ x.1 < st.2 then st else (st.1 ++ newN x.1 x.2, lastN x.1 st.2 x.2)
def madeA (l : List AddV) : List Nt × Int := l.foldl stepA ([], 0)
theorem madeA_snoc (l : List AddV) (x : AddV) : madeA (l ++ [x]) = stepA (madeA l) x := by simp [madeA]
theorem madeA_few (l : List AddV) (h : smallA l) : ∀ j, (madeA (l.take j)).1.length ≤ 10 * j := by
 intro j
 induction j with
 | zero => simp [madeA]
 | succ j ih =>
  by_cases hj : j < l.length
  ·obtain ⟨x, hx⟩ := get_of hj
   rw [take_snoc hx, madeA_snoc]
   unfold stepA
   have := (h.2 x (List.mem_of_getElem? hx)).1
   have hn := newN_len x.1 x.2
   split
   ·omega
   ·simp only [List.length_append]; omega
  ·rw [List.take_of_length_le (by omega)]
   rw [List.take_of_length_le (by omega)] at ih
   omega
theorem newN_small {step : Int} {ts : List Tch} {M : Nat} (h : ∀ t ∈ ts, t.2.length ≤ M) : ∀ n ∈ newN step ts, n.2.2.length ≤ M := by
 intro n hn
 unfold newN at hn
 obtain ⟨t, ht, rfl⟩ := List.mem_map.1 hn
 exact h t (List.mem_filter.1 ht).1
theorem madeA_small (l : List AddV) (h : ∀ x ∈ l, ∀ t ∈ x.2, t.2.length ≤ 6) : ∀ n ∈ (madeA l).1, n.2.2.length ≤ 6 := by
 have : ∀ (l : List AddV) (st : List Nt × Int), (∀ x ∈ l, ∀ t ∈ x.2, t.2.length ≤ 6) → (∀ n ∈ st.1, n.2.2.length ≤ 6) → ∀ n ∈ (l.foldl stepA st).1, n.2.2.length ≤ 6 := by
  intro l
  induction l with
  | nil => intro st _ h; exact h
  | cons x l ih =>
   intro st hl hst
   refine ih _ (fun y hy => hl y (.tail _ hy)) ?_
   unfold stepA
   split
   ·exact hst
   ·intro n hn
    rcases List.mem_append.1 hn with hn | hn
    ·exact hst n hn
    ·exact newN_small (hl x (.head _)) n hn
 exact this l ([], 0) h (by simp)
theorem made14 {w : World} {S : Nat → Prop} {p : Option Addr} {n c : Nat} {l : List AddV} (h : AddsAt w S p n l) (hS : ∀ i, S i → i < w.heap.size) (hsm : smallA l) :
  Calls Tryz.prog 10 #[.slice p n c] w fun e w' => ∃ (r1 r2 : Option Addr) (r2n r2c : Nat) (r3 : Bool), e = .returned (.tuple #[.pointer r1, .slice r2 r2n r2c, .bool r3]) ∧
   (r3 = true ∧ Chg [] w w' ∧ ∃ b fp, r1 = some ⟨b, 0, none⟩ ∧ HistAt w' b (madeA l).1 (madeA l).1.length (madeA l).2 fp ∧ (∀ i ∈ fp, w.heap.size ≤ i) ∧ NotesAt w' S r2 r2n r2c (madeA l).1 ∧ (∀ i ∈ rowB r2, w.heap.size ≤ i ∧ i ∉ fp)) := by
 have hl := h.length
 have hl30 := hsm.1
 refine go_pomanderlaw14_made _ _ _ _ _ ?_
 unfold W_pomanderlaw14_made
 refine (query_new w).mono ?_
 rintro _ w1 ⟨_, rfl, b, fp1, rfl, hH1, c1, hf1⟩
 refine ⟨_, rfl, ?_⟩
 refine ⟨fun x1 x2 x2n x2c x3 notes notesn notesc last i w2 => ∃ j : Nat, i = (j : Int) ∧ j ≤ l.length ∧ last = (madeA (l.take j)).2 ∧ ∃ fp, HistAt w2 b (madeA (l.take j)).1 (madeA (l.take j)).1.length (madeA (l.take j)).2 fp ∧ (∀ i ∈ fp, w.heap.size ≤ i) ∧ NotesAt w2 S notes notesn notesc (madeA (l.take j)).1 ∧ (∀ i ∈ rowB notes, w.heap.size ≤ i ∧ i ∉ fp) ∧ Chg [] w w2,
  fun _ _ _ _ _ _ _ _ _ i _ => (l.length - i).toNat, ⟨0, rfl, Nat.zero_le _, rfl, fp1, hH1, hf1, NotesAt.nil w1 S, by simp [rowB], c1⟩, ?_⟩
 rintro x1 x2 x2n x2c x3 notes notesn notesc _ _ w2 ⟨j, rfl, hj, rfl, fp, hH, hfp, hN, hNf, c2⟩
 refine ⟨fun hlt => ?_, fun hge => ?_⟩
 ·have hjn : j < l.length := by have := of_decide_eq_true hlt; omega
  obtain ⟨x, hx⟩ := get_of hjn
  have hxm := List.mem_of_getElem? hx
  have hx10 := (hsm.2 x hxm).1
  have hx6 := (hsm.2 x hxm).2
  obtain ⟨i1, a, q, qn, qc, ha, hSa, hcs, hts, hqn, hin⟩ := (h.chg (f := []) c2 (by simp)).each j x hx
  have hql := hts.length
  have hfew := madeA_few l hsm j
  have hstep : madeA (l.take (j + 1)) = stepA (madeA (l.take j)) x := by rw [take_snoc hx, madeA_snoc]
  obtain ⟨want, hwant⟩ : ∃ want : Int, want = if x.1 < 0 ∨ x.1 < (madeA (l.take j)).2 then 2 else 0 := ⟨_, rfl⟩
  refine ⟨fun x4 x5 x5n x5c x6 notes2 notes2n notes2c last2 w3 => last2 = (madeA (l.take (j + 1))).2 ∧ ∃ fp, HistAt w3 b (madeA (l.take (j + 1))).1 (madeA (l.take (j + 1))).1.length (madeA (l.take (j + 1))).2 fp ∧ (∀ i ∈ fp, w.heap.size ≤ i) ∧ NotesAt w3 S notes2 notes2n notes2c (madeA (l.take (j + 1))).1 ∧ (∀ i ∈ rowB notes2, w.heap.size ≤ i ∧ i ∉ fp) ∧ Chg [] w w3, ?_, ?_⟩
  ·rintro x4 x5 x5n x5c x6 notes2 notes2n notes2c _ w3 ⟨rfl, k3⟩
   rw [wr (by omega) (by omega)]
   exact ⟨⟨j + 1, by omega, by omega, rfl, k3⟩, by simp only []; omega⟩
  refine ⟨fun wt w4 => want = wt ∧ w2 = w4, ?_, a, ha, by omega, by omega, x.1, hcs.1, fun bb w14 => decide (x.1 < 0 ∨ x.1 < (madeA (l.take j)).2) = bb ∧ w2 = w14, ?_, fun hneg => ⟨?_, rfl⟩, fun hneg => ⟨?_, rfl⟩⟩
  rotate_left
  ·rintro _ _ ⟨rfl, rfl⟩
   refine ⟨fun hb => ⟨?_, rfl⟩, fun hb => ⟨?_, rfl⟩⟩
   ·rw [hwant, if_pos (of_decide_eq_true hb)]
   ·rw [hwant, if_neg (of_decide_eq_false hb)]
  ·have := of_decide_eq_false hneg
   exact decide_eq_decide.2 ⟨fun h => h.resolve_left this, .inr⟩
  ·have := of_decide_eq_true hneg
   exact decide_eq_true (.inl this)
  rintro _ _ ⟨rfl, rfl⟩
  refine ⟨a, ha, by omega, by omega, fun w5 c5 => ?_⟩
  have hcs5 := c5.cells (by simp) hcs
  refine ⟨x.1, hcs5.1, q, qn, qc, by simpa using hcs5.2.1, ?_⟩
  have c05 := c2.trans0 c5
  have hH5 := hH.chg c5 (by simp)
  have hdis : ∀ i ∈ fp, ¬ S i := fun i hi hSi => by have := hfp i hi; have := hS i hSi; omega
  refine (hist_add hH5 (hts.chg (f := []) c5 (by simp)) hdis (fun t ht => by have := hx6 t ht; omega) (by omega) i1).mono ?_
  rintro _ w6 ⟨r5, rfl, fp6, c6, hf6, hres⟩
  have s6 := c6.size
  have s5 := c5.size
  have s2 := c2.size
  have hlt5 := hH5.lt
  have hr5 : r5 = want := by
   rw [hwant]
   split at hres
   ·rename_i hb; rw [if_pos hb]; exact hres.1
   ·rename_i hb; rw [if_neg hb]; exact hres.1
  have c06 : Chg [] w w6 := c05.trans c6 (fun i hi hlt' => by have := hfp i hi; omega)
  have hfp6 : ∀ i ∈ fp6, w.heap.size ≤ i := fun i hi => by
   rcases hf6 i hi with h | h
   ·exact hfp i h
   ·omega
  have hN5 : NotesAt w5 S notes notesn notesc (madeA (l.take j)).1 := hN.chg c5 (by simp) (by simp)
  have hN6 : NotesAt w6 S notes notesn notesc (madeA (l.take j)).1 := hN5.chg c6 (fun i hi => (hNf i hi).2) hdis
  have hNf6 : ∀ i ∈ rowB notes, w.heap.size ≤ i ∧ i ∉ fp6 := fun i hi => ⟨(hNf i hi).1, fun hm => by
   rcases hf6 i hm with h | h
   ·exact (hNf i hi).2 h
   ·have := hN5.lt i hi; omega⟩
  refine ⟨r5, rfl, fun hne => by rw [hr5] at hne; simp at hne, fun _ => ⟨fun hw => ?_, fun hw => ?_⟩⟩
  ·have hbad : x.1 < 0 ∨ x.1 < (madeA (l.take j)).2 := Classical.byContradiction fun hb => by rw [hwant, if_neg hb] at hw; simp at hw
   have hst : stepA (madeA (l.take j)) x = madeA (l.take j) := by unfold stepA; rw [if_pos hbad]
   rw [if_pos hbad] at hres
   rw [hstep, hst]
   exact ⟨rfl, fp6, hres.2, hfp6, hN6, hNf6, c06⟩
  ·have hok : ¬ (x.1 < 0 ∨ x.1 < (madeA (l.take j)).2) := fun hb => by rw [hwant, if_pos hb] at hw; simp at hw
   have hst : stepA (madeA (l.take j)) x = ((madeA (l.take j)).1 ++ newN x.1 x.2, lastN x.1 (madeA (l.take j)).2 x.2) := by unfold stepA; rw [if_neg hok]
   rw [if_neg hok] at hres
   have hH6 := hres.2
   have hlt6 := hH6.lt
   have hts6 : TouchesAt w6 S q qn x.2 := (hts.chg (f := []) c5 (by simp)).chg c6 hdis
   have hcs6 := c6.cells (by rw [add_block]; exact fun hm => hdis _ hm hSa) hcs5
   refine ⟨fun notes3 notes3n notes3c last3 k w7 => ∃ i : Nat, k = (i : Int) ∧ i ≤ x.2.length ∧ last3 = lastN x.1 (madeA (l.take j)).2 (x.2.take i) ∧ NotesAt w7 S notes3 notes3n notes3c ((madeA (l.take j)).1 ++ newN x.1 (x.2.take i)) ∧ (∀ i ∈ rowB notes3, w.heap.size ≤ i ∧ i ∉ fp6) ∧ ∃ f7 : List Nat, Chg f7 w6 w7 ∧ ∀ i ∈ f7, w.heap.size ≤ i ∧ i ∉ fp6,
    fun _ _ _ _ k _ => (x.2.length - k).toNat, ⟨0, rfl, Nat.zero_le _, by simp [lastN, newN], by simpa [newN] using hN6, hNf6, [], Chg.refl _ _, by simp⟩, ?_⟩
   rintro notes3 notes3n notes3c _ _ w7 ⟨i, rfl, hi, rfl, hN7, hNf7, f7, c7, hf7⟩
   have hf7S : ∀ i ∈ f7, ¬ S i := fun i hi hSi => by have := (hf7 i hi).1; have := hS i hSi; omega
   have s7 := c7.size
   have hcs7 := c7.cells (by rw [add_block]; exact fun hm => hf7S _ hm hSa) hcs6
   refine ⟨q, qn, qc, by simpa using hcs7.2.1, fun hlt2 => ?_, fun hge2 => ?_⟩
   ·have hin' : i < x.2.length := by have := of_decide_eq_true hlt2; omega
    obtain ⟨t, ht⟩ := get_of hin'
    have hts7 : TouchesAt w7 S q qn x.2 := hts6.chg c7 hf7S
    obtain ⟨t1, t2, a2, q2, q2n, q2c, ha2, hSa2, hcs2, hpl⟩ := hts7.each i t ht
    refine ⟨fun notes4 notes4n notes4c last4 w8 => last4 = lastN x.1 (madeA (l.take j)).2 (x.2.take (i + 1)) ∧ NotesAt w8 S notes4 notes4n notes4c ((madeA (l.take j)).1 ++ newN x.1 (x.2.take (i + 1))) ∧ (∀ i ∈ rowB notes4, w.heap.size ≤ i ∧ i ∉ fp6) ∧ ∃ f8 : List Nat, Chg f8 w6 w8 ∧ ∀ i ∈ f8, w.heap.size ≤ i ∧ i ∉ fp6, ?_, a2, ha2, by omega, by omega, t.1.1, t.1.2, q2, q2n, q2c, by simpa using hcs2, ?_⟩
    ·rintro notes4 notes4n notes4c _ w8 ⟨rfl, k8⟩
     rw [wr (by omega) (by omega)]
     exact ⟨⟨i + 1, by omega, by omega, rfl, k8⟩, by simp only []; omega⟩
    rintro b1 w10 ⟨l1, u1⟩ c10
    rw [take_snoc ht, lastN_snoc, newN_snoc]
    refine ⟨fun hz => ?_, fun hz => ?_⟩
    ·rw [to_zero] at hz
     have hz' : t.1 ≠ (0, 0) := of_decide_eq_true hz
     rw [if_pos hz', if_pos hz']
     intro w11 c11
     have c711 := c10.trans0 c11
     have hcs11 := c711.cells (by simp) hcs7
     refine ⟨x.1, hcs11.1, ?_⟩
     refine v_alloc fun b2 w12 e2 hb2 c12 => ?_
     have s11 := c711.size
     have s12 := c12.size
     have c712 := c711.trans0 c12
     have hN12 : NotesAt w12 S notes3 notes3n notes3c ((madeA (l.take j)).1 ++ newN x.1 (x.2.take i)) := hN7.chg c712 (by simp) (by simp)
     have hnl := newN_len x.1 (x.2.take i)
     rw [List.length_take] at hnl
     obtain ⟨l2, l2n, l2c, w13, happ, hN13, c13, hnew⟩ := hN12.push (nt := (x.1, t.1, t.2)) (q := (q2, q2n, q2c)) (fun i hi => by have := hS i hi; omega) (by rw [List.length_append]; omega) (hpl.chg (f := []) c712 (by simp)) hb2 (fun hm => by have := hN7.lt _ hm; omega)
     have hS3 : ∀ i ∈ rowB notes3, ¬ S i := hN7.apart
     have hcs13 := c13.cells (by rw [add_block]; exact fun hm => hS3 _ hm hSa) (c12.cells (by simp) hcs11)
     refine ⟨l2, l2n, l2c, w13, happ, x.1, hcs13.1, rfl, by rw [← List.append_assoc]; exact hN13, fun i hi => ?_, f7 ++ rowB notes3, ((c7.mono (g := f7 ++ rowB notes3) (fun i hi _ => by simp [hi])).trans c712.nil (fun i hi _ => hi)).trans (c13.mono (g := f7 ++ rowB notes3) (fun i hi _ => by simp [hi])) (fun i hi _ => hi), fun i hi => ?_⟩
     ·rcases hnew i hi with h' | h'
      ·exact hNf7 i h'
      ·exact ⟨by omega, fun hm => by have := hlt6 i hm; omega⟩
     ·rcases List.mem_append.1 hi with h' | h'
      ·exact hf7 i h'
      ·exact hNf7 i h'
    ·rw [to_zero] at hz
     have hz' : t.1 = (0, 0) := Decidable.of_not_not (of_decide_eq_false hz)
     rw [if_neg (by simp [hz']), if_neg (by simp [hz']), List.append_nil]
     exact ⟨rfl, hN7.chg c10 (by simp) (by simp), hNf7, f7, c7.trans c10 (by simp), hf7⟩
   ·have hin' : i = x.2.length := by have := of_decide_eq_false hge2; omega
    subst hin'
    rw [List.take_length] at hN7 ⊢
    rw [hstep, hst]
    exact ⟨rfl, fp6, hH6.chg c7 (fun i hi hm => (hf7 i hm).2 hi), hfp6, hN7, hNf7, c06.trans c7 (fun i hi hlt' => by have := (hf7 i hi).1; omega)⟩
 ·have hjn : j = l.length := by have := of_decide_eq_false hge; omega
  subst hjn
  rw [List.take_length] at hH hN
  refine (hist_len hH).mono ?_
  rintro _ w15 ⟨_, rfl, rfl, hw⟩
  subst w15
  have hNl := hN.len
  exact ⟨_, rfl, by simp [hNl], c2, b, fp, rfl, hH, hfp, hN, hNf⟩
end Go.Proofs.YtfcfkhbkkfpehaaGreatDoor
end
section
/- Law 14, in plain Lean: lists of places that rise; what is noted behind a step. -/
namespace Go.Proofs.YtfcfkhbkkfpehaaGreatDoor
open Go Go.RowKit Go.X Go.XR
theorem lt_irrefl (a : Pl) : ¬ ltPl a a := by unfold ltPl; omega
theorem AddsAt.take {w : World} {S : Nat → Prop} {p : Option Addr} {n : Nat} {l : List AddV} (h : AddsAt w S p n l) {c : Nat} (hc : c ≤ n) : AddsAt w S p c (l.take c) :=
 ⟨by rw [List.length_take, h.length]; omega, fun j x hx => by
  rw [List.getElem?_take] at hx
  split at hx
  ·exact h.each j x hx
  ·cases hx⟩
end Go.Proofs.YtfcfkhbkkfpehaaGreatDoor
end
section
namespace Go.Proofs.YtfcfkhbkkfpehaaGreatDoor
open Go Go.X
end Go.Proofs.YtfcfkhbkkfpehaaGreatDoor
end
section
/- The document's Last, ahead, with. -/
namespace Go.Proofs.YtfcfkhbkkfpehaaGreatDoor
open Go Go.RowKit Go.X Go.XR
/-! ### with -/
end Go.Proofs.YtfcfkhbkkfpehaaGreatDoor
end
section
/- Bytes that came in. -/
namespace Go.Proofs.YtfcfkhbkkfpehaaGreatDoor
open Go Go.RowKit Go.X
structure BytesAt (w : World) (S : Nat → Prop) (p : Option Addr) (n : Nat) (gs : List Int) : Prop where
 length : gs.length = n
 each : ∀ (j : Nat) (g : Int), gs[j]? = some g → 0 ≤ g ∧ g ≤ 255 ∧ ∃ a, p = some a ∧ S a.block ∧ w.cell? (a.add (j * 1)) = some (.int .u8 g)
theorem BytesAt.chg {w w' : World} {S : Nat → Prop} {p : Option Addr} {n : Nat} {gs : List Int} {f : List Nat} (h : BytesAt w S p n gs) (hc : Chg f w w') (hf : ∀ i ∈ f, ¬ S i) : BytesAt w' S p n gs :=
 ⟨h.length, fun j g hg => let ⟨h1, h2, a, h3, h4, h5⟩ := h.each j g hg; ⟨h1, h2, a, h3, h4, hc.cell (by rw [add_block]; exact fun hm => hf _ hm h4) h5⟩⟩
structure StepsAt (w : World) (S : Nat → Prop) (p : Option Addr) (n : Nat) (ss : List Int) : Prop where
 length : ss.length = n
 each : ∀ (j : Nat) (g : Int), ss[j]? = some g → i64s g ∧ ∃ a, p = some a ∧ S a.block ∧ w.cell? (a.add (j * 1)) = some (.int .i64 g)
theorem StepsAt.chg {w w' : World} {S : Nat → Prop} {p : Option Addr} {n : Nat} {ss : List Int} {f : List Nat} (h : StepsAt w S p n ss) (hc : Chg f w w') (hf : ∀ i ∈ f, ¬ S i) : StepsAt w' S p n ss :=
 ⟨h.length, fun j g hg => let ⟨h1, a, h3, h4, h5⟩ := h.each j g hg; ⟨h1, a, h3, h4, hc.cell (by rw [add_block]; exact fun hm => hf _ hm h4) h5⟩⟩
end Go.Proofs.YtfcfkhbkkfpehaaGreatDoor
end
section
namespace Go.Proofs.YtfcfkhbkkfpehaaGreatDoor
open Go Go.X
end Go.Proofs.YtfcfkhbkkfpehaaGreatDoor
end
section
/- Histories: Notes, Last; notes compared; QueryNotes' walk. -/
namespace Go.Proofs.YtfcfkhbkkfpehaaGreatDoor
open Go Go.RowKit Go.X Go.XR
def LastIs (w : World) (o : Option Nt) (r1 r2 r3 : Int) (q : Sl) (r5 : Bool) : Prop :=
 (o = none ∧ r1 = 0 ∧ r2 = 0 ∧ r3 = 0 ∧ r5 = false ∧ FromAt w q []) ∨ ∃ n, o = some n ∧ r1 = n.1 ∧ r2 = n.2.1.1 ∧ r3 = n.2.1.2 ∧ r5 = true ∧ FromAt w q n.2.2
theorem LastIs.chg {w w' : World} {f : List Nat} {o : Option Nt} {r1 r2 r3 : Int} {q : Sl} {r5 : Bool} (h : LastIs w o r1 r2 r3 q r5) (hc : Chg f w w') (hf : ∀ i ∈ rowB q.1, i ∉ f) : LastIs w' o r1 r2 r3 q r5 := by
 rcases h with ⟨h1, h2, h3, h4, h5, h6⟩ | ⟨n, h1, h2, h3, h4, h5, h6⟩
 ·exact .inl ⟨h1, h2, h3, h4, h5, h6.chg hc hf⟩
 ·exact .inr ⟨n, h1, h2, h3, h4, h5, h6.chg hc hf⟩
theorem push_note {w : World} {p : Option Addr} {n c : Nat} {g : List (Nt × Sl)} (h : RowAt w 38 4 p n c (g.flatMap noteC)) (hn : n = g.length) (hle : n ≤ 1000000000) {x : Nt × Sl} {b : Nat} (hb : w.heap[b]? = some (.cells #[.int .i64 x.1.1, .int .i64 x.1.2.1.1, .int .i64 x.1.2.1.2, .slice x.2.1 x.2.2.1 x.2.2.2] 38 (0, 0))) :
  ∃ (p' : Option Addr) (n' c' : Nat) (w' : World), (Builtin.append_ #[44, 44] 44 #[.slice p n c, .slice (some (⟨b, 0, none⟩ : Addr)) 1 1]).run Tryz.prog w = .ok (.slice p' n' c') w' ∧ RowAt w' 38 4 p' n' c' ((g ++ [x]).flatMap noteC) ∧ n' = (g ++ [x]).length ∧ Chg (rowB p) w w' ∧ ∀ i ∈ rowB p', i ∈ rowB p ∨ w.heap.size ≤ i := by
 obtain ⟨p', c', w', happ, hrow, hc, hnew⟩ := h.append (P := Tryz.prog) (t := 44) (ty := 44) (i := Tryz.t38) (z := .agg #[.int .i64 0, .int .i64 0, .int .i64 0, .slice none 0 0]) (bytes := 48) (by kernel_rfl) (by kernel_rfl) (by kernel_rfl) (by kernel_rfl) (by kernel_rfl) rfl (by omega)
  (a := ⟨b, 0, none⟩) (m := 1) (mc := 1) (news := noteC x) (by simp [noteC]) (fun j u hj => by
   match j, hj with
   | 0, hj => simp [noteC] at hj; subst hj; rw [add_at, cell_of hb]; rfl
   | 1, hj => simp [noteC] at hj; subst hj; rw [add_at, cell_of hb]; rfl
   | 2, hj => simp [noteC] at hj; subst hj; rw [add_at, cell_of hb]; rfl
   | 3, hj => simp [noteC] at hj; subst hj; rw [add_at, cell_of hb]; rfl
   | j + 4, hj => simp [noteC] at hj) (fun u hu => by simp [noteC] at hu; rcases hu with rfl | rfl | rfl | rfl <;> rfl) (by unfold maxLen; omega) (by omega)
 exact ⟨p', n + 1, c', w', happ, by rw [List.flatMap_append]; simpa using hrow, by simp [hn], hc, hnew⟩
structure OwnNotes (w : World) (base : Nat) (p : Option Addr) (n c : Nat) (ns : List Nt) : Prop where
 there : ∃ g : List (Nt × Sl), g.map Prod.fst = ns ∧ RowAt w 38 4 p n c (g.flatMap noteC) ∧ n = g.length ∧ ∀ x ∈ g, FromAt w x.2 x.1.2.2 ∧ ∀ i ∈ rowB x.2.1, base ≤ i
 new : ∀ i ∈ rowB p, base ≤ i
theorem OwnNotes.chg {w w' : World} {base : Nat} {p : Option Addr} {n c : Nat} {ns : List Nt} (h : OwnNotes w base p n c ns) (hc : Chg [] w w') : OwnNotes w' base p n c ns := by
 obtain ⟨g, g1, g2, g3, g4⟩ := h.there
 exact ⟨⟨g, g1, g2.chg hc (by simp), g3, fun x hx => ⟨(g4 x hx).1.chg hc (by simp), (g4 x hx).2⟩⟩, h.new⟩
theorem hist_notes {w : World} {b : Nat} {ns : List Nt} {cnt last : Int} {fp : List Nat} (h : HistAt w b ns cnt last fp) (hM : ∀ n ∈ ns, n.2.2.length ≤ 1000) (p1 p2 : Int) :
  Calls Tryz.prog 14 #[.pointer (some ⟨b, 0, none⟩), .agg #[.int .i64 p1, .int .i64 p2]] w fun e w' => ∃ (r : Option Addr) (rn rc : Nat), e = .returned (.slice r rn rc) ∧
   (OwnNotes w' w.heap.size r rn rc (ofPl ns (p1, p2)) ∧ Chg [] w w') := by
 obtain ⟨m, tbl, g, h1, h2, h3, h4, h5, h6, h7, h8, h9⟩ := h.there
 have hfw := h.few
 refine go_query_History_Notes _ _ _ _ _ ?_
 unfold W_query_History_Notes
 rintro b1 w1 ⟨l1, u1⟩ c1
 have s1 := c1.size
 refine (hist_none (h.chg c1 (by simp))).mono ?_
 rintro _ w2 ⟨_, rfl, rfl, hw⟩
 subst w2
 refine ⟨_, rfl, Same.refl _ _, fun h => by simp at h, fun _ => ⟨_, rfl, fun w3 c3 => ?_⟩⟩
 have c03 := c1.trans0 c3
 have s3 := c03.size
 have hlk := (h2.chg c03 (by simp)).lookup (P := Tryz.prog) (T := 29) uHN keyPlace zeroNotes (p1, p2) false
 obtain ⟨v, hv, hrow, hvl, hvf⟩ : ∃ v : Sl, ((lookK (p1, p2) tbl).map encSl).getD (encSl (none, 0, 0)) = encSl v ∧ RowAt w 38 4 v.1 v.2.1 v.2.2 ((g (p1, p2)).flatMap noteC) ∧ v.2.1 = (g (p1, p2)).length ∧ ∀ i ∈ rowB v.1, i ∈ fp := by
  cases hl : lookK (p1, p2) tbl with
  | none => exact ⟨(none, 0, 0), rfl, by rw [h6 _ hl]; exact RowAt.nil, by rw [h6 _ hl]; rfl, by simp [rowB]⟩
  | some v => exact ⟨v, rfl, h5 _ v hl⟩
 simp only [Bool.false_eq_true, if_false] at hlk
 rw [hv] at hlk
 have hns : (g (p1, p2)).map Prod.fst = ofPl ns (p1, p2) := h9 _
 have hglen : (g (p1, p2)).length ≤ 1000000 := by
  have e1 : ((g (p1, p2)).map Prod.fst).length = (ofPl ns (p1, p2)).length := by rw [hns]
  have e2 := List.length_filter_le (fun n : Nt => decide (n.2.1 = (p1, p2))) ns
  unfold ofPl at e1
  simp only [List.length_map] at e1
  omega
 refine ⟨some m, by rw [cell_of (c03.obj (by simp) h1)]; rfl, v.1, v.2.1, v.2.2, hlk, ?_⟩
 refine ⟨fun out outn outc x w4 => ∃ j : Nat, x = (j : Int) ∧ j ≤ (g (p1, p2)).length ∧ OwnNotes w4 w.heap.size out outn outc ((ofPl ns (p1, p2)).take j) ∧ Chg [] w w4,
  fun _ _ _ x _ => ((g (p1, p2)).length - x).toNat, ⟨0, rfl, Nat.zero_le _, ⟨⟨[], rfl, RowAt.nil, rfl, by simp⟩, by simp [rowB]⟩, c03⟩, ?_⟩
 rintro out outn outc _ w4 ⟨j, rfl, hj, hO, c4⟩
 have hrow4 := hrow.chg c4 (by simp)
 refine ⟨fun hlt => ?_, fun hge => ?_⟩
 ·have hjn : j < (g (p1, p2)).length := by have := of_decide_eq_true hlt; omega
  obtain ⟨x, hx⟩ := get_of hjn
  have hxm := List.mem_of_getElem? hx
  obtain ⟨a, ha, hcs⟩ := note_cells hrow4 hx
  refine ⟨a, ha, by omega, by omega, _, _, _, _, _, _, by simpa using hcs, ?_⟩
  rintro b2 w6 ⟨l2, u2⟩ c6
  have c06 := c4.trans0 c6
  have hnx : x.1 ∈ ns := by
   have : x.1 ∈ ofPl ns (p1, p2) := hns ▸ List.mem_map.2 ⟨x, hxm, rfl⟩
   exact (List.mem_filter.1 this).1
  refine (copied_note (n := x.1) (q := x.2) ((h8 _ x hxm).1.chg c06 (by simp)).reads (by have := hM _ hnx; omega)).mono ?_
  rintro _ w7 ⟨r3, r4, r5, r6, r6n, r6c, rfl, e1, e2, e3, hfa, c7, hf7⟩
  subst e1 e2 e3
  have s6 := c06.size
  have s7 := c7.size
  refine ⟨_, _, _, _, _, _, rfl, ?_⟩
  refine v_alloc fun b3 w8 e3 hb3 c8 => ?_
  have s8 := c8.size
  obtain ⟨gg, g1, g2, g3, g4⟩ := (hO.chg ((c6.trans0 c7).trans0 c8)).there
  have hgl : gg.length ≤ (g (p1, p2)).length := by
   have : (gg.map Prod.fst).length = ((ofPl ns (p1, p2)).take j).length := by rw [g1]
   rw [List.length_map, List.length_take] at this
   omega
  obtain ⟨l1', l1n, l1c, w9, happ, hrow9, hln, c9, hnew⟩ := push_note (x := (x.1, ((r6, r6n, r6c) : Sl))) g2 g3 (by omega) hb3
  have s9 := c9.size
  refine ⟨l1', l1n, l1c, w9, happ, ?_⟩
  rw [wr (by omega) (by omega)]
  have hxo : (ofPl ns (p1, p2))[j]? = some x.1 := by rw [← hns, List.getElem?_map, hx]; rfl
  refine ⟨⟨j + 1, by omega, by omega, ⟨⟨gg ++ [(x.1, ((r6, r6n, r6c) : Sl))], by rw [List.map_append, g1, take_snoc hxo]; rfl, hrow9, hln, fun y hy => ?_⟩, fun i hi => ?_⟩, ((c06.trans0 c7).trans0 c8).trans c9 (fun i hi hlt' => by have := hO.new i hi; omega)⟩, by simp only []; omega⟩
  ·rcases List.mem_append.1 hy with hy | hy
   ·obtain ⟨k1, k2⟩ := g4 y hy
    exact ⟨k1.chg c9 (row_apart k1.row g2 (by decide)), k2⟩
   ·simp at hy; subst hy
    have hfa8 : FromAt w8 (r6, r6n, r6c) x.1.2.2 := hfa.chg c8 (by simp)
    exact ⟨hfa8.chg c9 (row_apart hfa8.row g2 (by decide)), fun i hi => by have := hf7 i hi; omega⟩
  ·rcases hnew i hi with h' | h'
   ·exact hO.new i h'
   ·omega
 ·have hjn : j = (g (p1, p2)).length := by have := of_decide_eq_false hge; omega
  have hlen : (ofPl ns (p1, p2)).length = (g (p1, p2)).length := by rw [← hns, List.length_map]
  rw [hjn, ← hlen, List.take_length] at hO
  exact ⟨hO, c4⟩
theorem alike14 {w : World} {n1 n2 : Nt} {q1 q2 : Sl} (h1 : CellsP w q1 n1.2.2) (h2 : CellsP w q2 n2.2.2) (hl : n1.2.2.length ≤ 1000000000000) :
  Calls Tryz.prog 12 #[.agg #[.int .i64 n1.1, .int .i64 n1.2.1.1, .int .i64 n1.2.1.2, .slice q1.1 q1.2.1 q1.2.2], .agg #[.int .i64 n2.1, .int .i64 n2.2.1.1, .int .i64 n2.2.1.2, .slice q2.1 q2.2.1 q2.2.2]] w fun e w' => ∃ r : Bool, e = .returned (.bool r) ∧ (r = decide (n1 = n2) ∧ Chg [] w w') := by
 refine go_pomanderlaw14_alike _ _ _ _ _ _ _ _ _ _ _ _ _ _ ?_
 unfold W_pomanderlaw14_alike
 rintro b6 b5 w2 _ _ c2
 refine ⟨fun b w3 => b = decide (n1.1 = n2.1 ∧ n1.2.1 = n2.2.1) ∧ Chg [] w w3, ?_, fun he => ⟨?_, c2⟩, fun hne => ⟨?_, c2⟩⟩
 ·rintro _ w3 ⟨rfl, c3⟩
  refine ⟨fun b w4 => b = decide (n1 = n2) ∧ Chg [] w w4, fun b w4 h => h, fun hb => ?_, fun hb => ⟨?_, c3⟩⟩
  ·have hb' := of_decide_eq_true hb
   refine (same_places (h1.chg c3 (by simp)) (h2.chg c3 (by simp)) hl).mono ?_
   rintro _ w5 ⟨_, rfl, rfl, c5⟩
   refine ⟨_, rfl, decide_eq_decide.2 ⟨fun e => ?_, fun e => by rw [e]⟩, c3.trans0 c5⟩
   exact Prod.ext hb'.1 (Prod.ext hb'.2 e)
  ·have hb' := of_decide_eq_false hb
   symm; exact decide_eq_false (fun e => hb' (by rw [e]; exact ⟨rfl, rfl⟩))
 ·have he' : n1.1 = n2.1 := by simpa using he
  by_cases e : n1.2.1 = n2.2.1
  ·rw [decide_eq_true ⟨he', e⟩, e]; simp
  ·rw [decide_eq_false (fun h => e h.2)]
   cases hq : ((n1.2.1.1 == n2.2.1.1) && (n1.2.1.2 == n2.2.1.2)) with
   | false => rfl
   | true => simp at hq; exact absurd (Prod.ext hq.1 hq.2) e
 ·have hne' : ¬ n1.1 = n2.1 := by simpa using hne
  symm; exact decide_eq_false (fun h => hne' h.1)
theorem NotesAt.note {w : World} {S : Nat → Prop} {p : Option Addr} {n c : Nat} {ns : List Nt} (h : NotesAt w S p n c ns) {i : Nat} {nt : Nt} (hnt : ns[i]? = some nt) :
  ∃ (a2 : Addr) (q : Sl), p = some a2 ∧ CellsAt w (a2.add (i * 4)) 0 [.int .i64 nt.1, .int .i64 nt.2.1.1, .int .i64 nt.2.1.2, .slice q.1 q.2.1 q.2.2] ∧ PlacesAt w S q.1 q.2.1 nt.2.2 := by
 obtain ⟨g, g1, g2, g3⟩ := h.there
 obtain ⟨x, hx, hxe⟩ : ∃ x, g[i]? = some x ∧ x.1 = nt := by
  rw [← g1, List.getElem?_map] at hnt
  cases hg : g[i]? with
  | none => rw [hg] at hnt; simp at hnt
  | some x => rw [hg] at hnt; simp at hnt; exact ⟨x, rfl, hnt⟩
 obtain ⟨a2, ha2, hc2⟩ := note_cells g2 hx
 rw [← hxe]
 exact ⟨a2, x.2, ha2, hc2, g3 x (List.mem_of_getElem? hx)⟩
theorem OwnNotes.note {w : World} {base : Nat} {p : Option Addr} {n c : Nat} {ns : List Nt} (h : OwnNotes w base p n c ns) {i : Nat} {nt : Nt} (hnt : ns[i]? = some nt) :
  ∃ (a2 : Addr) (q : Sl), p = some a2 ∧ CellsAt w (a2.add (i * 4)) 0 [.int .i64 nt.1, .int .i64 nt.2.1.1, .int .i64 nt.2.1.2, .slice q.1 q.2.1 q.2.2] ∧ FromAt w q nt.2.2 := by
 obtain ⟨g, g1, g2, g3, g4⟩ := h.there
 obtain ⟨x, hx, hxe⟩ : ∃ x, g[i]? = some x ∧ x.1 = nt := by
  rw [← g1, List.getElem?_map] at hnt
  cases hg : g[i]? with
  | none => rw [hg] at hnt; simp at hnt
  | some x => rw [hg] at hnt; simp at hnt; exact ⟨x, rfl, hnt⟩
 obtain ⟨a2, ha2, hc2⟩ := note_cells g2 hx
 rw [← hxe]
 exact ⟨a2, x.2, ha2, hc2, (g4 x (List.mem_of_getElem? hx)).1⟩
end Go.Proofs.YtfcfkhbkkfpehaaGreatDoor
end
section
namespace Go.Proofs.YtfcfkhbkkfpehaaGreatDoor
open Go Go.X
/- pomander/query.Who -/
def W_query_Who (f1 : Option Addr) (set1 : Int) (w : World) (R : (Option Addr) → Nat → Nat → Int → World → Prop) : Prop :=
 ∀ (b1 : Nat) (w1 : World), (w.heap.size ≤ b1 ∧ b1 < w1.heap.size) → Chg [] w w1 → (Calls Tryz.prog 27 #[.pointer f1] w1 fun e w2 => ∃ (r3 : Option Addr), e = .returned (.pointer r3) ∧ (Same w1 w2 [b1] ∧ (((Option.isNone r3) = true → R none 0 0 1 w2) ∧ ((Option.isNone r3) = false → ((decide (set1 ≥ 65536)) = true → R none 0 0 2 w2) ∧ ((decide (set1 ≥ 65536)) = false → ∀ (b2 : Nat) (w3 : World), (w2.heap.size ≤ b2 ∧ b2 < w3.heap.size) → Chg [] w2 w3 → (Calls Tryz.prog 28 #[.pointer f1] w3 fun e w4 => ∃ (r4 : Value), e = .returned (r4) ∧ (Same w3 w4 [b2, b1] ∧ (∃ (S1 Sp1 : List (Int × Int × Int) → Prop) (keep1 : List Nat), XR.IsFn Tryz.prog r4 ∧ XR.Iterates Tryz.prog r4 (fun x : Int × Int × Int => #[.agg #[.int .i64 x.1, .int .i64 x.2.1], .int .u32 x.2.2]) S1 Sp1 keep1 w4 ∧ (∀ i_ ∈ keep1, i_ < w4.heap.size) ∧ ∃ (I1 : (Option Addr) → Nat → Nat → List Nat → List (Int × Int × Int) → World → Prop), (∀ (c1 : Option Addr) (c1n : Nat) (c1c : Nat) (pre_ : List (Int × Int × Int)), XR.Stab w4 (fun O_ w_ => I1 c1 c1n c1c O_ pre_ w_)) ∧ (∀ (O1 : List Nat) (w5 : World), Chg [] w4 w5 → XR.InO w4 O1 w5 → I1 none 0 0 O1 ([]) w5) ∧ (∀ (l1 : Nat) (O1 : List Nat) (pre1 : List (Int × Int × Int)) (x1 : Int) (x2 : Int) (x3 : Int) (c1 : Option Addr) (c1n : Nat) (c1c : Nat) (w5 : World), XR.InO w4 O1 w5 → l1 ∈ O1 → Sp1 (pre1 ++ [(x1, x2, x3)]) → I1 c1 c1n c1c O1 pre1 w5 → (∀ (b3 : Nat) (w8 : World), (w5.heap.size ≤ b3 ∧ b3 < w8.heap.size) → Chg [l1] w5 w8 → (((!((bits .and .u32 x3 set1) == 0)) = true → ∀ b4 : Nat, b4 = World.size w8 → ∀ w9 : World, w9 = World.alloc w8 (.cells #[.int .i64 x1, .int .i64 x2] 25) → (∃ (l2 : Option Addr) (l2n : Nat) (l2c : Nat) (w10 : World), (Builtin.append_ #[34, 34] 34 #[.slice c1 c1n c1c, .slice (some (⟨b4, 0, none⟩ : Addr)) 1 1]).run Tryz.prog w9 = .ok (.slice l2 l2n l2c) w10 ∧ (Same w9 w10 [b1, b2] ∧ (∀ (w11 : World), Chg [b2] w10 w11 → ((w8.heap.size ≤ w11.heap.size ∧ I1 l2 l2n l2c O1 (pre1 ++ [(x1, x2, x3)]) w11 ∧ Same w8 w11 (keep1 ++ O1))))))) ∧ ((!((bits .and .u32 x3 set1) == 0)) = false → (w8.heap.size ≤ w8.heap.size ∧ I1 c1 c1n c1c O1 (pre1 ++ [(x1, x2, x3)]) w8 ∧ Same w8 w8 (keep1 ++ O1)))))) ∧ (∀ (d1 : Nat) (O2 : List Nat) (xs1 : List (Int × Int × Int)) (c1 : Option Addr) (c1n : Nat) (c1c : Nat) (w12 : World), XR.InO w4 O2 w12 → d1 ∈ O2 → S1 xs1 → I1 c1 c1n c1c O2 xs1 w12 → (∀ w13 : World, Chg [d1] w12 w13 → (R c1 c1n c1c 0 w13)))))))))))
set_option maxRecDepth 100000 in
theorem go_query_Who (f1 : Option Addr) (set1 : Int) (w : World) (R : (Option Addr) → Nat → Nat → Int → World → Prop) (h : W_query_Who f1 set1 w R) : Calls Tryz.prog 9 #[.pointer f1, .int .u32 set1] w (fun e w' => ∃ (r1 : Option Addr) (r1n : Nat) (r1c : Nat) (r2 : Int), e = .returned (.tuple #[.slice r1 r1n r1c, .int .i64 r2]) ∧ R r1 r1n r1c r2 w') := by
 unfold W_query_Who at h
 refine XR.enterM (N := 29) Tryz.func9 rfl rfl ?_
 refine CW.seq ?_
 refine CW.region fun L hL => ?_
 obtain ⟨b1, hb_b1⟩ : ∃ b1, b1 = World.size w := ⟨_, rfl⟩
 obtain ⟨w1, hw_w1⟩ : ∃ w1, w1 = World.alloc w (.cells #[.int .u32 set1] 43) := ⟨_, rfl⟩
 refine LW.val hL rfl (Wants.free rfl) rfl (boxE hb_b1 hw_w1 (Vl.box (v := .int .u32 set1) rfl)) ?_
 have hB := Boxes.alloc (cs := [.int .u32 set1]) (T := 43) (Boxes.nil w) hb_b1 hw_w1
 have hlo_b1 := sil_lo (Chg.refl [] w) hb_b1
 have hc_w1 := sil_alloc (Chg.refl [] w) hw_w1
 refine LW.rd hL rfl (Wants.free rfl) rfl (Rd.assign (v := .slice none 0 0) rfl) ?_
 refine LW.rd hL rfl (Wants.free rfl) rfl (Rd.assign (v := .int .i64 0) rfl) ?_
 refine LW.nil hL rfl ?_
 refine NW.then ?_
 refine CW.seq ?_
 refine CW.block ?_
 refine CW.seq ?_
 refine CW.region fun L hL => ?_
 refine LW.rd hL rfl (Wants.free rfl) rfl (Rd.move (v := .pointer f1) rfl) ?_
 replace h := h b1 w1 ⟨hlo_b1, lt_of_heap (hB.at (i := 0) rfl)⟩ hc_w1
 refine LW.call hL rfl (Wants.free rfl) rfl (Cl.fn (f := 27) rfl Tryz.func27 (by kernel_rfl) rfl) h (fun e w2 h_ => ?_)
 clear h
 obtain ⟨r3, rfl, h⟩ := h_
 obtain ⟨hsm1, h⟩ := h
 replace hB := Boxes.sameS hB hsm1 (by simp)
 refine ⟨_, rfl, ?_⟩
 refine LW.rd hL rfl (Wants.free rfl) rfl (Rd.bin (v := .bool (Option.isNone r3)) rfl rfl (fun w => ptr_nil_eq (by kernel_rfl) r3 w)) ?_
 refine LW.rd hL rfl (Wants.free rfl) rfl (Rd.assign (v := .bool (Option.isNone r3)) rfl) ?_
 refine LW.nil hL rfl ?_
 refine NW.then ?_
 refine CW.cond rfl (fun hb1 => ?_) (fun hb1 => ?_)
 ·replace h := h.1 hb1
  refine CW.seq ?_
  refine CW.region fun L hL => ?_
  refine LW.rd hL rfl (Wants.free rfl) rfl (Rd.assign (v := .slice none 0 0) rfl) ?_
  refine LW.rd hL rfl (Wants.free rfl) rfl (Rd.assign (v := .int .i64 1) rfl) ?_
  refine LW.nil hL rfl ?_
  refine NW.then ?_
  refine CW.ret ?_
  refine RW.block ?_
  refine RW.then ?_
  exact XR.res0M (vs := [.slice none 0 0, .int .i64 1]) (by exact (ResOK.t rfl (ResOK.t rfl ResOK.nil))) rfl ⟨none, 0, 0, 1, rfl, h⟩
 ·replace h := h.2 hb1
  refine CW.seq ?_
  refine CW.region fun L hL => ?_
  refine LW.rd hL rfl (Wants.free rfl) rfl (Rd.ld (v := .int .u32 set1) rfl (by kernel_rfl) (eqs (box_cell (hB.at (i := 0) rfl) rfl))) ?_
  refine LW.rd hL rfl (Wants.free rfl) rfl (Rd.bin (v := .bool (decide (set1 ≥ 65536))) rfl rfl (fun w => by kernel_rfl)) ?_
  refine LW.rd hL rfl (Wants.free rfl) rfl (Rd.assign (v := .bool (decide (set1 ≥ 65536))) rfl) ?_
  refine LW.nil hL rfl ?_
  refine NW.then ?_
  refine CW.cond rfl (fun hb2 => ?_) (fun hb2 => ?_)
  ·replace h := h.1 hb2
   refine CW.seq ?_
   refine CW.region fun L hL => ?_
   refine LW.rd hL rfl (Wants.free rfl) rfl (Rd.assign (v := .slice none 0 0) rfl) ?_
   refine LW.rd hL rfl (Wants.free rfl) rfl (Rd.assign (v := .int .i64 2) rfl) ?_
   refine LW.nil hL rfl ?_
   refine NW.then ?_
   refine CW.ret ?_
   refine RW.block ?_
   refine RW.then ?_
   exact XR.res0M (vs := [.slice none 0 0, .int .i64 2]) (by exact (ResOK.t rfl (ResOK.t rfl ResOK.nil))) rfl ⟨none, 0, 0, 2, rfl, h⟩
  ·replace h := h.2 hb2
   refine CW.skip ?_
   refine NW.block ?_
   refine NW.then ?_
   refine CW.seq ?_
   refine CW.region fun L hL => ?_
   obtain ⟨b2, hb_b2⟩ : ∃ b2, b2 = World.size w2 := ⟨_, rfl⟩
   obtain ⟨w3, hw_w3⟩ : ∃ w3, w3 = World.alloc w2 (.cells #[.slice none 0 0] 34) := ⟨_, rfl⟩
   refine LW.val hL rfl (Wants.free rfl) rfl (boxE hb_b2 hw_w3 (Vl.alloc (z := .slice none 0 0) (by kernel_rfl))) ?_
   replace hB := Boxes.alloc (cs := [.slice none 0 0]) (T := 34) hB hb_b2 hw_w3
   have hlo_b2 := sil_lo (Chg.refl [] w2) hb_b2
   have hc_w3 := sil_alloc (Chg.refl [] w2) hw_w3
   refine LW.nil hL rfl ?_
   refine NW.then ?_
   refine CW.seq ?_
   refine CW.seq ?_
   refine CW.region fun L hL => ?_
   refine LW.rd hL rfl (Wants.free rfl) rfl (Rd.move (v := .pointer f1) rfl) ?_
   replace h := h b2 w3 ⟨hlo_b2, lt_of_heap (hB.at (i := 0) rfl)⟩ hc_w3
   refine LW.call hL rfl (Wants.free rfl) rfl (Cl.fn (f := 28) rfl Tryz.func28 (by kernel_rfl) rfl) h (fun e w4 h_ => ?_)
   clear h
   obtain ⟨r4, rfl, h⟩ := h_
   obtain ⟨hsm2, h⟩ := h
   replace hB := Boxes.sameS hB hsm2 (by simp)
   refine ⟨_, rfl, ?_⟩
   refine LW.nil hL rfl ?_
   refine NW.then ?_
   refine CW.block ?_
   obtain ⟨S1, Sp1, keep1, hfn_, hit_, hkp_, I1, hst_I1, h0_, hrd_, hdn_⟩ := h
   refine XR.CW.rangeV (α := Int × Int × Int) (enc := (fun x : Int × Int × Int => #[.agg #[.int .i64 x.1, .int .i64 x.2.1], .int .u32 x.2.2])) (S := S1) (Sp := Sp1) (keep := keep1) rfl hfn_ (fun _ => rfl) (by decide) hit_ (fun (O_ : List Nat) (pre_ : List (Int × Int × Int)) (w_ : World) => ∃ (c1 : Option Addr) (c1n : Nat) (c1c : Nat), I1 c1 c1n c1c O_ pre_ w_ ∧ Boxes w_ [(b1, [.int .u32 set1], 43), (b2, [.slice c1 c1n c1c], 34)]) (fun (c_ : Code) (O_ : List Nat) (pre_ : List (Int × Int × Int)) (w_ : World) => False) ?_ ?_ ?_ hkp_ ?_ ?_ ?_
   ·intro pre_ O_ O2_ A_ B_ hi_ hO_ hc_ hO2_ hg_
    have hB0_ := (hB.sel [1, 0] (by decide) rfl)
    obtain ⟨c1, c1n, c1c, hi_, hB⟩ := hi_
    exact ⟨c1, c1n, c1c, hst_I1 c1 c1n c1c pre_ O_ O2_ A_ B_ hi_ hO_ hc_ hO2_ hg_, hB.stab hB0_ rfl hO_ hc_⟩
   ·intro c_ pre_ O_ O2_ A_ B_ hi_ hO_ hc_ hO2_ hg_
    exact hi_.elim
   ·intro O_ A_ hc_ hO_
    exact ⟨none, 0, 0, h0_ O_ A_ hc_ hO_, Boxes.chg (hB.sel [1, 0] (by decide) rfl) hc_ (by simp)⟩
   ·intro l1 O1 pre1 x_ w5 hO_ hl_ hSp_ hi_
    obtain ⟨x1, x2, x3⟩ := x_
    obtain ⟨c1, c1n, c1c, hi_, hB⟩ := hi_
    have h := hrd_ l1 O1 pre1 x1 x2 x3 c1 c1n c1c w5 hO_ hl_ hSp_ hi_
    refine XR.CW.seq ?_
    refine XR.CW.region fun L hL => ?_
    obtain ⟨b3, hb_b3⟩ : ∃ b3, b3 = World.size w5 := ⟨_, rfl⟩
    obtain ⟨w6, hw_w6⟩ : ∃ w6, w6 = World.alloc w5 (.cells #[.int .i64 0, .int .i64 0] 25) := ⟨_, rfl⟩
    refine XR.LW.val hL rfl (Wants.free rfl) rfl (boxE hb_b3 hw_w6 (Vl.alloc (z := .agg #[.int .i64 0, .int .i64 0]) (by kernel_rfl))) ?_
    replace hB := Boxes.alloc (cs := [.int .i64 0, .int .i64 0]) (T := 25) hB hb_b3 hw_w6
    have hlo_b3 := sil_lo (Chg.refl [] w5) hb_b3
    have hc_w6 := sil_alloc (Chg.refl [] w5) hw_w6
    obtain ⟨w7, hw_w7⟩ : ∃ x, x = setCells w6 (⟨b3, 0, none⟩ : Addr) 0 [.int .i64 x1, .int .i64 x2] := ⟨_, rfl⟩
    refine XR.LW.eff hL rfl (Wants.free rfl) rfl (stNE hw_w7 (Ef.stN (cs := [.int .i64 x1, .int .i64 x2]) rfl rfl (by kernel_rfl) (List.forall_mem_cons.2 ⟨rfl, (List.forall_mem_cons.2 ⟨rfl, (List.forall_mem_nil _)⟩)⟩) (has_of (hB.at (i := 0) rfl) (by simp)) (free_of' (hB.at (i := 0) rfl)))) ?_
    replace hB : Boxes w7 [(b3, [.int .i64 x1, .int .i64 x2], 25), (b1, [.int .u32 set1], 43), (b2, [.slice c1 c1n c1c], 34)] := Boxes.store (vs := [.int .i64 x1, .int .i64 x2]) (i := 0) (o := 0) hB rfl rfl rfl rfl hw_w7
    have hc_w7 := sil_new hc_w6 (sil_cN hw_w7) hlo_b3
    refine XR.LW.nil hL rfl ?_
    refine XR.NW.then ?_
    refine XR.CW.region fun L hL => ?_
    refine XR.LW.rd hL rfl (Wants.free rfl) rfl (Rd.assign (v := .int .u32 x3) rfl) ?_
    refine XR.LW.nil hL rfl ?_
    refine XR.NW.begin hc_w7 (fun w8 hcb_w8 hlp_ hib_ => ?_)
    have hc_w8 : Chg [l1] w5 w8 := sil_more hc_w7 hcb_w8
    replace hB := hB.notloop hlp_ hcb_w8
    replace h := h b3 w8 ⟨hlo_b3, lt_of_heap (hB.at (i := 0) rfl)⟩ hc_w8
    refine XR.CW.block ?_
    refine XR.CW.seq ?_
    refine XR.CW.region fun L hL => ?_
    refine XR.LW.rd hL rfl (Wants.free rfl) rfl (Rd.move (v := .int .u32 x3) rfl) ?_
    refine XR.LW.rd hL rfl (Wants.free rfl) rfl (Rd.ld (v := .int .u32 set1) rfl (by kernel_rfl) (eqs (box_cell (hB.at (i := 1) rfl) rfl))) ?_
    refine XR.LW.rd hL rfl (Wants.free rfl) rfl (Rd.bin (v := .int .u32 (bits .and .u32 x3 set1)) rfl rfl (fun w => by kernel_rfl)) ?_
    refine XR.LW.rd hL rfl (Wants.free rfl) rfl (Rd.bin (v := .bool (!((bits .and .u32 x3 set1) == 0))) rfl rfl (fun w => by kernel_rfl)) ?_
    refine XR.LW.nil hL rfl ?_
    refine XR.NW.then ?_
    refine XR.CW.cond rfl (fun hb3 => ?_) (fun hb3 => ?_)
    ·replace h := h.1 hb3
     refine XR.CW.region fun L hL => ?_
     refine XR.LW.rd hL rfl (Wants.free rfl) rfl (Rd.ld (v := .slice c1 c1n c1c) rfl (by kernel_rfl) (eqs (box_cell (hB.at (i := 2) rfl) rfl))) ?_
     refine XR.LW.rd hL rfl (Wants.free rfl) rfl (Rd.ldN (cs := [.int .i64 x1, .int .i64 x2]) rfl (by kernel_rfl) (by kernel_rfl) (cellsS (box_cells (hB.at (i := 0) rfl) rfl))) ?_
     obtain ⟨b4, hb_b4⟩ : ∃ b4, b4 = World.size w8 := ⟨_, rfl⟩
     obtain ⟨w9, hw_w9⟩ : ∃ w9, w9 = World.alloc w8 (.cells #[.int .i64 x1, .int .i64 x2] 25) := ⟨_, rfl⟩
     replace h := h b4 hb_b4 w9 hw_w9
     refine XR.LW.val hL rfl (Wants.free rfl) rfl (sliceE (n := 1) hb_b4 hw_w9 (fun w => Vl.buildSlice (vs := [(0, .agg #[.int .i64 x1, .int .i64 x2])]) rfl (by kernel_rfl))) ?_
     replace hB := hB.grow hw_w9
     obtain ⟨l2, l2n, l2c, w10, ha1, h⟩ := h
     refine XR.LW.val hL rfl (Wants.free rfl) rfl (Vl.builtin (v := .slice l2 l2n l2c) rfl (valB ha1)) ?_
     obtain ⟨hsm3, h⟩ := h
     replace hB := Boxes.sameS (hB.sel [1, 2] (by decide) rfl) hsm3 (by simp)
     obtain ⟨w11, hw_w11⟩ : ∃ x, x = World.setCell w10 (⟨b2, 0, none⟩ : Addr) (.slice l2 l2n l2c) := ⟨_, rfl⟩
     refine XR.LW.eff hL rfl (Wants.free rfl) rfl (stE hw_w11 (Ef.st rfl rfl rfl (by kernel_rfl) (box_cell (v := .slice c1 c1n c1c) (hB.at (i := 1) rfl) rfl) (free_of (hB.at (i := 1) rfl) 0))) ?_
     replace hB : Boxes w11 [(b1, [.int .u32 set1], 43), (b2, [.slice l2 l2n l2c], 34)] := Boxes.store1  (i := 1) (o := 0) hB rfl rfl rfl rfl hw_w11
     have hc_w11 : Chg [b2] w10 w11 := sil_more (Chg.refl [] w10) (sil_c1 hw_w11)
     refine XR.LW.nil hL rfl ?_
     refine NW.block ?_
     replace h := h  w11  hc_w11
     exact fun a_ ha_ => ⟨h.1, ⟨l2, l2n, l2c, h.2.1, hB⟩, h.2.2⟩
    ·replace h := h.2 hb3
     refine XR.CW.skip ?_
     refine NW.block ?_
     exact fun a_ ha_ => ⟨h.1, ⟨c1, c1n, c1c, h.2.1, (hB.sel [1, 2] (by decide) rfl)⟩, h.2.2⟩
   ·intro d1 O2 xs1 w12 hO_ hd_ hdh_ hS_ hi_
    obtain ⟨c1, c1n, c1c, hi_, hB⟩ := hi_
    have h := hdn_ d1 O2 xs1 c1 c1n c1c w12 hO_ hd_ hS_ hi_
    have hK := XR.Marks.cons (XR.Marks.nil _) hdh_ (by simp)
    refine NW.block ?_
    refine NW.then ?_
    refine CW.seq ?_
    refine CW.region fun L hL => ?_
    refine LW.rd hL rfl (Wants.free rfl) rfl (Rd.ld (v := .slice c1 c1n c1c) rfl (by kernel_rfl) (eqs (box_cell (hB.at (i := 1) rfl) rfl))) ?_
    refine LW.rd hL rfl (Wants.free rfl) rfl (Rd.assign (v := .slice c1 c1n c1c) rfl) ?_
    refine LW.rd hL rfl (Wants.free rfl) rfl (Rd.assign (v := .int .i64 0) rfl) ?_
    refine LW.nil hL rfl ?_
    refine NW.then ?_
    refine CW.ret ?_
    exact XR.resM (ms := [d1]) (vs := [.slice c1 c1n c1c, .int .i64 0]) hK rfl (fun w_ hc_ => ⟨(ResOK.t rfl (ResOK.t rfl ResOK.nil)), c1, c1n, c1c, 0, rfl, h w_ hc_⟩)
   ·intro d2 c_ O3 xs2 w14 hO_ hd_ hdh_ hS_ hi_
    exact hi_.elim
/- (*pomander/query.History).Copy -/
def W_query_History_Copy (h1 : Option Addr) (w : World) (R : (Option Addr) → World → Prop) : Prop :=
 Calls Tryz.prog 24 #[.pointer h1] w fun e w1 => ∃ (r2 : Bool), e = .returned (.bool r2) ∧ ((r2 = true → R none w1) ∧ (r2 = false → ∀ (w2 : World), Chg [] w1 w2 → (∃ a1 : Addr, h1 = some a1 ∧ (∃ (t1 : Int), w2.cell? (a1.add 1) = some (.int .i64 t1) ∧ (∃ (t2 : Int), w2.cell? (a1.add 2) = some (.int .i64 t2) ∧ (∀ b1 : Nat, b1 = World.size w2 → ∀ w3 : World, w3 = World.alloc w2 (.map #[] 0) → (∀ b2 : Nat, b2 = World.size w3 → ∀ w4 : World, w4 = World.alloc w3 (.cells #[.map (some b1), .int .i64 t1, .int .i64 t2] 31) → (∃ (t3 : Option Nat), w4.cell? a1 = some (.map t3) ∧ (∃ (it1 : Option Addr) (w5 : World), (Instr.range 29 (.map t3)).run Tryz.prog w4 = .ok (.pointer it1) w5 ∧ (∃ (I1 : World → Prop) (m1 : World → Nat), I1 w5 ∧ ∀ (w6 : World), I1 w6 → ∃ (nx1 : Array Value) (ok1 : Bool) (w7 : World), (Instr.next (.pointer it1) false 0).run Tryz.prog w6 = .ok (.tuple nx1) w7 ∧ nx1[0]? = some (.bool ok1) ∧ ((ok1 = true → ∃ (k1 : Int) (k2 : Int) (v1 : Option Addr) (v1n : Nat) (v1c : Nat), (Instr.entry (.pointer it1)).run Tryz.prog w7 = .ok (.tuple #[.agg #[.int .i64 k1, .int .i64 k2], .slice v1 v1n v1c]) w7 ∧ (∀ (b3 : Nat) (w10 : World), (w7.heap.size ≤ b3 ∧ b3 < w10.heap.size) → Chg [] w7 w10 → (∃ (t4 : Option Nat), w10.cell? (⟨b2, 0, none⟩ : Addr) = some (.map t4) ∧ (Calls Tryz.prog 14 #[.pointer h1, .agg #[.int .i64 k1, .int .i64 k2]] w10 fun e w11 => ∃ (r3 : Option Addr) (r3n : Nat) (r3c : Nat), e = .returned (.slice r3 r3n r3c) ∧ ((w11.cell? (⟨b2, 0, none⟩ : Addr) = some (.map t4)) ∧ (Same w10 w11 [b3] ∧ (∃ w12 : World, (Instr.mapUpdate 29 (.map t4) (.agg #[.int .i64 k1, .int .i64 k2]) (.slice r3 r3n r3c)).run Tryz.prog w11 = .ok () w12 ∧ ((I1 w12 ∧ m1 w12 < m1 w6))))))))) ∧ (ok1 = false → R (some (⟨b2, 0, none⟩ : Addr)) w7))))))))))))
set_option maxRecDepth 100000 in
theorem go_query_History_Copy (h1 : Option Addr) (w : World) (R : (Option Addr) → World → Prop) (h : W_query_History_Copy h1 w R) : Calls Tryz.prog 11 #[.pointer h1] w (fun e w' => ∃ (r1 : Option Addr), e = .returned (.pointer r1) ∧ R r1 w') := by
 unfold W_query_History_Copy at h
 refine enter (N := 36) Tryz.func11 rfl rfl ?_
 refine CW.seq ?_
 refine CW.region fun L hL => ?_
 refine LW.rd hL rfl (Wants.free rfl) rfl (Rd.assign (v := .pointer none) rfl) ?_
 refine LW.nil hL rfl ?_
 refine NW.then ?_
 refine CW.seq ?_
 refine CW.seq ?_
 refine CW.region fun L hL => ?_
 refine LW.rd hL rfl (Wants.free rfl) rfl (Rd.move (v := .pointer h1) rfl) ?_
 refine LW.call hL rfl (Wants.free rfl) rfl (Cl.fn (f := 24) rfl Tryz.func24 (by kernel_rfl) rfl) h (fun e w1 h_ => ?_)
 clear h
 obtain ⟨r2, rfl, h⟩ := h_
 refine ⟨_, rfl, ?_⟩
 refine LW.nil hL rfl ?_
 refine NW.then ?_
 refine CW.cond rfl (fun hb1 => ?_) (fun hb1 => ?_)
 ·replace h := h.1 hb1
  refine CW.seq ?_
  refine CW.region fun L hL => ?_
  refine LW.rd hL rfl (Wants.free rfl) rfl (Rd.assign (v := .pointer none) rfl) ?_
  refine LW.nil hL rfl ?_
  refine NW.then ?_
  refine CW.ret ?_
  refine RW.then ?_
  exact res1 rfl rfl ⟨none, rfl, h⟩
 ·replace h := h.2 hb1
  refine CW.skip ?_
  refine NW.then ?_
  refine CW.seq ?_
  obtain ⟨w2, hw_w2⟩ : ∃ x, x = World.drew w1 := ⟨_, rfl⟩
  have hc_w2 := sil_drew (Chg.refl [] w1) hw_w2
  replace h := h  w2  hc_w2
  obtain ⟨a1, ha1, h⟩ := h
  obtain ⟨t1, hc1, h⟩ := h
  obtain ⟨t2, hc2, h⟩ := h
  refine CW.drawn (fun w => w.cell? (a1.add 1) = some (.int .i64 t1) ∧ w.cell? (a1.add 2) = some (.int .i64 t2) ∧ True) 10 (by kernel_rfl) fun H hH => ?_
  rw [← hw_w2]
  have hS1 : w2.cell? (a1.add 1) = some (.int .i64 t1) ∧ w2.cell? (a1.add 2) = some (.int .i64 t2) ∧ True := ⟨hc1, hc2, trivial⟩
  refine HW.pure (i := 1) hH rfl (by kernel_rfl) (Wants.free rfl) rfl (fun _ => hS1) (Rd.move (v := .pointer h1) rfl) ?_
  refine HW.pure (i := 2) hH rfl (by kernel_rfl) (Wants.free rfl) rfl (fun _ => hS1) (Rd.nil (q := a1) (by rw [← ha1]; rfl)) ?_
  refine HW.pure (i := 3) hH rfl (by kernel_rfl) (Wants.free rfl) rfl (fun _ => hS1) (Rd.fa (v := .pointer (some (a1.add 1))) rfl (fun _ => by kernel_rfl)) ?_
  refine HW.take (i := 4) hH rfl (by kernel_rfl) (by kernel_rfl) (Wants.free rfl) rfl (fun _ => hS1) (Rd.ld (v := .int .i64 t1) rfl (by kernel_rfl) (fun w h => h.1)) ?_
  refine HW.pure (i := 5) hH rfl (by kernel_rfl) (Wants.free rfl) rfl (fun _ => hS1) (Rd.move (v := .pointer h1) rfl) ?_
  refine HW.pure (i := 6) hH rfl (by kernel_rfl) (Wants.free rfl) rfl (fun _ => hS1) (Rd.nil (q := a1) (by rw [← ha1]; rfl)) ?_
  refine HW.pure (i := 7) hH rfl (by kernel_rfl) (Wants.free rfl) rfl (fun _ => hS1) (Rd.fa (v := .pointer (some (a1.add 2))) rfl (fun _ => by kernel_rfl)) ?_
  refine HW.take (i := 8) hH rfl (by kernel_rfl) (by kernel_rfl) (Wants.free rfl) rfl (fun _ => hS1) (Rd.ld (v := .int .i64 t2) rfl (by kernel_rfl) (fun w h => h.2.1)) ?_
  obtain ⟨b1, hb_b1⟩ : ∃ b1, b1 = World.size w2 := ⟨_, rfl⟩
  obtain ⟨w3, hw_w3⟩ : ∃ w3, w3 = World.alloc w2 (.map #[] 0) := ⟨_, rfl⟩
  replace h := h b1 hb_b1 w3 hw_w3
  have hS2 := (⟨cellAlloc hw_w3 hS1.1, cellAlloc hw_w3 hS1.2.1, trivial⟩ : w3.cell? (a1.add 1) = some (.int .i64 t1) ∧ w3.cell? (a1.add 2) = some (.int .i64 t2) ∧ True)
  refine HW.val (i := 0) hH (by kernel_rfl) rfl (Wants.free rfl) rfl (mapE hb_b1 hw_w3 Vl.makeMap) (fun _ => hS2) ?_
  refine HW.pure (i := 9) hH rfl (by kernel_rfl) (Wants.free rfl) rfl (fun _ => hS2) (Rd.build (v := .agg #[.map (some b1), .int .i64 t1, .int .i64 t2]) rfl (fun _ => by kernel_rfl)) ?_
  obtain ⟨b2, hb_b2⟩ : ∃ b2, b2 = World.size w3 := ⟨_, rfl⟩
  obtain ⟨w4, hw_w4⟩ : ∃ w4, w4 = World.alloc w3 (.cells #[.map (some b1), .int .i64 t1, .int .i64 t2] 31) := ⟨_, rfl⟩
  replace h := h b2 hb_b2 w4 hw_w4
  refine HW.val (i := 10) hH (by kernel_rfl) rfl (Wants.free rfl) rfl (boxE hb_b2 hw_w4 (Vl.box (v := .agg #[.map (some b1), .int .i64 t1, .int .i64 t2]) rfl)) (fun hc => by cases hc) ?_
  refine HW.pure (i := 11) hH rfl (by kernel_rfl) (Wants.free rfl) rfl (fun hc => by cases hc) (Rd.assign (v := .pointer (some (⟨b2, 0, none⟩ : Addr))) rfl) ?_
  refine HW.done hH (by kernel_rfl) ?_
  refine NW.then ?_
  refine CW.seq ?_
  refine CW.seq ?_
  refine CW.region fun L hL => ?_
  refine LW.rd hL rfl (Wants.free rfl) rfl (Rd.move (v := .pointer h1) rfl) ?_
  refine LW.rd hL rfl (Wants.free rfl) rfl (Rd.nil (q := a1) (by rw [← ha1]; rfl)) ?_
  refine LW.rd hL rfl (Wants.free rfl) rfl (Rd.fa (v := .pointer (some a1)) rfl (fun _ => by kernel_rfl)) ?_
  obtain ⟨t3, hc3, h⟩ := h
  refine LW.rd hL rfl (Wants.free rfl) rfl (Rd.ld (v := .map t3) rfl (by kernel_rfl) (eqs hc3)) ?_
  obtain ⟨it1, w5, hm1, h⟩ := h
  refine LW.val hL rfl (Wants.free rfl) rfl (Vl.range (v := .pointer it1) rfl hm1) ?_
  refine LW.nil hL rfl ?_
  refine NW.then ?_
  refine CW.block ?_
  obtain ⟨I1, m1, hI1, h⟩ := h
  refine CW.loop (S := Unit) (fun s1 => [(0, .pointer h1), (2, .pointer none), (3, .pointer (some (⟨b2, 0, none⟩ : Addr))), (22, .pointer it1)]) (fun s1 w6 => I1 w6) (fun s1 w6 => m1 w6) () (by exact ⟨rfl, rfl, rfl, rfl, trivial⟩) hI1 (fun s1 w6 hI1 => ?_)
  replace h := h w6 hI1
  refine CW.seq ?_
  refine CW.region fun L hL => ?_
  obtain ⟨nx1, ok1, w7, hm2, hk1, h⟩ := h
  refine LW.val hL rfl (Wants.free rfl) rfl (Vl.next (v := .tuple nx1) rfl hm2) ?_
  refine LW.rd hL rfl (Wants.free rfl) rfl (Rd.extract (v := .bool ok1) rfl hk1) ?_
  refine LW.nil hL rfl ?_
  refine NW.then ?_
  refine CW.seq ?_
  refine CW.cond rfl (fun hb2 => ?_) (fun hb2 => ?_)
  ·replace h := h.1 hb2
   refine CW.skip ?_
   refine NW.then ?_
   refine CW.block ?_
   refine CW.seq ?_
   refine CW.region fun L hL => ?_
   obtain ⟨k1, k2, v1, v1n, v1c, hl1, h⟩ := h
   refine LW.rd hL rfl (Wants.free rfl) rfl (Rd.entry (v := .tuple #[.agg #[.int .i64 k1, .int .i64 k2], .slice v1 v1n v1c]) rfl (fun _ e => e ▸ hl1)) ?_
   refine LW.rd hL rfl (Wants.free rfl) rfl (Rd.extract (v := .agg #[.int .i64 k1, .int .i64 k2]) rfl rfl) ?_
   obtain ⟨b3, hb_b3⟩ : ∃ b3, b3 = World.size w7 := ⟨_, rfl⟩
   obtain ⟨w8, hw_w8⟩ : ∃ w8, w8 = World.alloc w7 (.cells #[.int .i64 0, .int .i64 0] 25) := ⟨_, rfl⟩
   refine LW.val hL rfl (Wants.free rfl) rfl (boxE hb_b3 hw_w8 (Vl.alloc (z := .agg #[.int .i64 0, .int .i64 0]) (by kernel_rfl))) ?_
   have hB := Boxes.alloc (cs := [.int .i64 0, .int .i64 0]) (T := 25) (Boxes.nil w7) hb_b3 hw_w8
   have hlo_b3 := sil_lo (Chg.refl [] w7) hb_b3
   have hc_w8 := sil_alloc (Chg.refl [] w7) hw_w8
   obtain ⟨w9, hw_w9⟩ : ∃ x, x = setCells w8 (⟨b3, 0, none⟩ : Addr) 0 [.int .i64 k1, .int .i64 k2] := ⟨_, rfl⟩
   refine LW.eff hL rfl (Wants.free rfl) rfl (stNE hw_w9 (Ef.stN (cs := [.int .i64 k1, .int .i64 k2]) rfl rfl (by kernel_rfl) (List.forall_mem_cons.2 ⟨rfl, (List.forall_mem_cons.2 ⟨rfl, (List.forall_mem_nil _)⟩)⟩) (has_of (hB.at (i := 0) rfl) (by simp)) (free_of' (hB.at (i := 0) rfl)))) ?_
   replace hB : Boxes w9 [(b3, [.int .i64 k1, .int .i64 k2], 25)] := Boxes.store (vs := [.int .i64 k1, .int .i64 k2]) (i := 0) (o := 0) hB rfl rfl rfl rfl hw_w9
   have hc_w9 := sil_new hc_w8 (sil_cN hw_w9) hlo_b3
   refine LW.nil hL rfl ?_
   refine NW.then ?_
   obtain ⟨w10, hw_w10⟩ : ∃ x, x = World.drew w9 := ⟨_, rfl⟩
   have hc_w10 := sil_drew hc_w9 hw_w10
   replace hB := hB.drew hw_w10
   replace h := h b3 w10 ⟨hlo_b3, lt_of_heap (hB.at (i := 0) rfl)⟩ hc_w10
   obtain ⟨t4, hc4, h⟩ := h
   refine CW.drawn (fun w => w.cell? (⟨b2, 0, none⟩ : Addr) = some (.map t4) ∧ Boxes w [(b3, [.int .i64 k1, .int .i64 k2], 25)]) 8 (by kernel_rfl) fun H hH => ?_
   rw [← hw_w10]
   have hS3 : w10.cell? (⟨b2, 0, none⟩ : Addr) = some (.map t4) ∧ Boxes w10 [(b3, [.int .i64 k1, .int .i64 k2], 25)] := ⟨hc4, hB⟩
   refine HW.pure (i := 0) hH rfl (by kernel_rfl) (Wants.free rfl) rfl (fun _ => hS3) (Rd.move (v := .pointer (some (⟨b2, 0, none⟩ : Addr))) rfl) ?_
   refine HW.pure (i := 1) hH rfl (by kernel_rfl) (Wants.free rfl) rfl (fun _ => hS3) (Rd.nil rfl) ?_
   refine HW.pure (i := 2) hH rfl (by kernel_rfl) (Wants.free rfl) rfl (fun _ => hS3) (Rd.fa (v := .pointer (some (⟨b2, 0, none⟩ : Addr))) rfl (fun _ => by kernel_rfl)) ?_
   refine HW.take (i := 3) hH rfl (by kernel_rfl) (by kernel_rfl) (Wants.free rfl) rfl (fun _ => hS3) (Rd.ld (v := .map t4) rfl (by kernel_rfl) (fun w h => h.1)) ?_
   refine HW.take (i := 4) hH rfl (by kernel_rfl) (by kernel_rfl) (Wants.free rfl) rfl (fun _ => hS3) (Rd.ldN (cs := [.int .i64 k1, .int .i64 k2]) rfl (by kernel_rfl) (by kernel_rfl) (fun w h => cellsAt_get (box_cells (Boxes.at (i := 0) h.2 rfl) rfl))) ?_
   refine HW.pure (i := 5) hH rfl (by kernel_rfl) (Wants.free rfl) rfl (fun _ => hS3) (Rd.move (v := .pointer h1) rfl) ?_
   refine HW.take (i := 6) hH rfl (by kernel_rfl) (by kernel_rfl) (Wants.free rfl) rfl (fun _ => hS3) (Rd.ldN (cs := [.int .i64 k1, .int .i64 k2]) rfl (by kernel_rfl) (by kernel_rfl) (fun w h => cellsAt_get (box_cells (Boxes.at (i := 0) h.2 rfl) rfl))) ?_
   refine HW.call (i := 7) hH (by kernel_rfl) rfl (Wants.free rfl) rfl (Cl.fn (f := 14) rfl Tryz.func14 (by kernel_rfl) rfl) h (fun e w11 h_ => ?_)
   clear h
   obtain ⟨r3, r3n, r3c, rfl, hS4, h⟩ := h_
   obtain ⟨hsm1, h⟩ := h
   replace hB := Boxes.sameS hB hsm1 (by simp)
   have hS5 := (⟨hS4, hB⟩ : w11.cell? (⟨b2, 0, none⟩ : Addr) = some (.map t4) ∧ Boxes w11 [(b3, [.int .i64 k1, .int .i64 k2], 25)])
   refine ⟨_, rfl, (fun _ => hS5), ?_⟩
   obtain ⟨w12, hm3, h⟩ := h
   refine HW.eff (i := 8) hH (by kernel_rfl) rfl (Wants.free rfl) rfl (Ef.mapUpdate rfl rfl rfl hm3) (fun hc => by cases hc) ?_
   refine HW.done hH (by kernel_rfl) ?_
   refine NW.block ?_
   exact NW.loop (S := Unit) (Ek := fun s1 => [(0, .pointer h1), (2, .pointer none), (3, .pointer (some (⟨b2, 0, none⟩ : Addr))), (22, .pointer it1)]) () (by exact ⟨rfl, rfl, rfl, rfl, trivial⟩) h
  ·replace h := h.2 hb2
   refine CW.exit ?_
   refine XW.then ?_
   refine XW.then ?_
   refine XW.hit ?_
   refine NW.then ?_
   refine CW.seq ?_
   refine CW.region fun L hL => ?_
   refine LW.rd hL rfl (Wants.free rfl) rfl (Rd.move (v := .pointer (some (⟨b2, 0, none⟩ : Addr))) rfl) ?_
   refine LW.rd hL rfl (Wants.free rfl) rfl (Rd.assign (v := .pointer (some (⟨b2, 0, none⟩ : Addr))) rfl) ?_
   refine LW.nil hL rfl ?_
   refine NW.then ?_
   refine CW.ret ?_
   exact res1 rfl rfl ⟨some (⟨b2, 0, none⟩ : Addr), rfl, h⟩
end Go.Proofs.YtfcfkhbkkfpehaaGreatDoor
end
section
namespace Go.Proofs.YtfcfkhbkkfpehaaGreatDoor
open Go Go.X
end Go.Proofs.YtfcfkhbkkfpehaaGreatDoor
end
section
/- slices.AppendSeq, slices.Collect over iterators of ints. -/
namespace Go.Proofs.YtfcfkhbkkfpehaaGreatDoor
open Go Go.RowKit Go.X Go.XR
theorem _root_.Go.XR.Iterates.later {α : Type} {P : Program} {fv : Value} {enc : α → Array Value} {S Sp : List α → Prop} {keep : List Nat} {w w1 : World} (h : Iterates P fv enc S Sp keep w) (hc : Chg [] w w1) : Iterates P fv enc S Sp keep w1 :=
 fun W yv I Ix hW => h W yv I Ix (hc.trans0 hW)
end Go.Proofs.YtfcfkhbkkfpehaaGreatDoor
end
section
/- slices.Sort over ints (by the shelf's contract), slices.Sorted. -/
namespace Go.Proofs.YtfcfkhbkkfpehaaGreatDoor
open Go Go.RowKit Go.X Go.XR Go.Shelf
/-! The shelf's laying of slices.Sort (written by the kit's lay-plain) -/
end Go.Proofs.YtfcfkhbkkfpehaaGreatDoor
end
section
/- Shadows: Copy. -/
namespace Go.Proofs.YtfcfkhbkkfpehaaGreatDoor
open Go Go.RowKit Go.X Go.XR
theorem PageC.ones {w : World} {q : Nat} {n : Int} {s : Nat → Int} {c : Array Value} (h1 : c.size = 65) (h2 : c[0]? = some (.int .i64 n)) (h3 : ∀ i, i < 64 → c[1 + i]? = some (.int .u32 (s i))) : ∀ v ∈ c.toList, Value.oneCell' v = true := by
 intro v hv
 obtain ⟨j, hj⟩ := List.getElem?_of_mem hv
 have hlt : j < c.toList.length := (List.getElem?_eq_some_iff.1 hj).1
 simp at hlt
 cases j with
 | zero =>
  have : c[0]? = some v := by simpa using hj
  rw [h2] at this; cases this; rfl
 | succ j =>
  have : c[1 + j]? = some v := by rw [Nat.add_comm]; simpa using hj
  rw [h3 j (by omega)] at this; cases this; rfl
end Go.Proofs.YtfcfkhbkkfpehaaGreatDoor
end
section
/- Shadows: All. -/
namespace Go.Proofs.YtfcfkhbkkfpehaaGreatDoor
open Go Go.RowKit Go.X Go.XR
/-! ### The plain law: what is told -/
def one (g : Int → Int) (n : Int) (i : Nat) : List (Int × Int) := if pg g n i = 0 then [] else [(64 * n + i, pg g n i)]
/-! ### The walk -/
theorem ShadowAt.same {w w' : World} {b : Nat} {pages : Int} {g : Int → Int} {fp : List Nat} (h : ShadowAt w b pages g fp) (hs : Same w w' fp) : ShadowAt w' b pages g fp := by
 obtain ⟨r, l, h1, ⟨es, clk, m1, m2⟩, h3, h4, rfl⟩ := h.there
 refine ⟨⟨r, l, (hs b (by simp)).trans h1, ⟨es, clk, (hs r (by simp)).trans m1, m2⟩, fun x hx => ?_, h4, rfl⟩, h.nodup, h.pages1, h.pages2, h.each⟩
 obtain ⟨a1, a2, ⟨c, a3, a4⟩, a5⟩ := h3 x hx
 exact ⟨a1, a2, ⟨c, (hs x.2 (by simp; exact .inr (.inr ⟨x.1, hx⟩))).trans a3, a4⟩, a5⟩
end Go.Proofs.YtfcfkhbkkfpehaaGreatDoor
end
section
namespace Go.Proofs.YtfcfkhbkkfpehaaGreatDoor
open Go Go.X
end Go.Proofs.YtfcfkhbkkfpehaaGreatDoor
end
section
/- The document's shadow (pomanderref03): a list of sets. -/
namespace Go.Proofs.YtfcfkhbkkfpehaaGreatDoor
open Go Go.RowKit Go.X
section
variable {w : World} {p : Option Addr} {n c : Nat} {g : Int → Int} {pages : Int}
end
end Go.Proofs.YtfcfkhbkkfpehaaGreatDoor
end
section
/- Shadows: Pages, Private; All. -/
namespace Go.Proofs.YtfcfkhbkkfpehaaGreatDoor
open Go Go.RowKit Go.X Go.XR
end Go.Proofs.YtfcfkhbkkfpehaaGreatDoor
end
section
namespace Go.Proofs.YtfcfkhbkkfpehaaGreatDoor
open Go Go.X
end Go.Proofs.YtfcfkhbkkfpehaaGreatDoor
end
section
/- pomanderlaw03: is. -/
namespace Go.Proofs.YtfcfkhbkkfpehaaGreatDoor
open Go Go.RowKit Go.X Go.XR
end Go.Proofs.YtfcfkhbkkfpehaaGreatDoor
end
section
namespace Go.Proofs.YtfcfkhbkkfpehaaGreatDoor
open Go Go.X
/- (*pomander/flow.Flow).Copy -/
def W_flow_Flow_Copy (f1 : Option Addr) (w : World) (R : (Option Addr) → World → Prop) : Prop :=
 Calls Tryz.prog 36 #[.pointer f1] w fun e w1 => ∃ (r2 : Bool), e = .returned (.bool r2) ∧ ((r2 = true → R none w1) ∧ (r2 = false → ∀ (w2 : World), Chg [] w1 w2 → (∃ a1 : Addr, f1 = some a1 ∧ (∃ (t1 : Int) (t2 : Int), CellsAt w2 a1 0 [.int .i64 t1, .int .i64 t2] ∧ (∃ (t3 : Option Addr), w2.cell? (a1.add 2) = some (.pointer t3) ∧ (∃ (t4 : Option Addr), w2.cell? (a1.add 3) = some (.pointer t4) ∧ (∃ (t5 : Option Addr), w2.cell? (a1.add 4) = some (.pointer t5) ∧ (∃ (t6 : Option Nat), w2.cell? (a1.add 5) = some (.map t6) ∧ (Calls Tryz.prog 47 #[.pointer t3] w2 fun e w3 => ∃ (r3 : Option Addr), e = .returned (.pointer r3) ∧ ((CellsAt w3 a1 0 [.int .i64 t1, .int .i64 t2] ∧ w3.cell? (a1.add 2) = some (.pointer t3) ∧ w3.cell? (a1.add 3) = some (.pointer t4) ∧ w3.cell? (a1.add 4) = some (.pointer t5) ∧ w3.cell? (a1.add 5) = some (.map t6)) ∧ (Calls Tryz.prog 48 #[.pointer t4] w3 fun e w4 => ∃ (r4 : Option Addr), e = .returned (.pointer r4) ∧ ((CellsAt w4 a1 0 [.int .i64 t1, .int .i64 t2] ∧ w4.cell? (a1.add 2) = some (.pointer t3) ∧ w4.cell? (a1.add 3) = some (.pointer t4) ∧ w4.cell? (a1.add 4) = some (.pointer t5) ∧ w4.cell? (a1.add 5) = some (.map t6)) ∧ (Calls Tryz.prog 48 #[.pointer t5] w4 fun e w5 => ∃ (r5 : Option Addr), e = .returned (.pointer r5) ∧ ((CellsAt w5 a1 0 [.int .i64 t1, .int .i64 t2] ∧ w5.cell? (a1.add 2) = some (.pointer t3) ∧ w5.cell? (a1.add 3) = some (.pointer t4) ∧ w5.cell? (a1.add 4) = some (.pointer t5) ∧ w5.cell? (a1.add 5) = some (.map t6)) ∧ (Calls Tryz.prog 49 #[.map t6] w5 fun e w6 => ∃ (r6 : Option Nat), e = .returned (.map r6) ∧ ((CellsAt w6 a1 0 [.int .i64 t1, .int .i64 t2] ∧ w6.cell? (a1.add 2) = some (.pointer t3) ∧ w6.cell? (a1.add 3) = some (.pointer t4) ∧ w6.cell? (a1.add 4) = some (.pointer t5) ∧ w6.cell? (a1.add 5) = some (.map t6)) ∧ (∀ b1 : Nat, b1 = World.size w6 → ∀ w7 : World, w7 = World.alloc w6 (.cells #[.int .i64 t1, .int .i64 t2, .pointer r3, .pointer r4, .pointer r5, .map r6] 101) → (R (some (⟨b1, 0, none⟩ : Addr)) w7))))))))))))))))))
set_option maxRecDepth 100000 in
theorem go_flow_Flow_Copy (f1 : Option Addr) (w : World) (R : (Option Addr) → World → Prop) (h : W_flow_Flow_Copy f1 w R) : Calls Tryz.prog 27 #[.pointer f1] w (fun e w' => ∃ (r1 : Option Addr), e = .returned (.pointer r1) ∧ R r1 w') := by
 unfold W_flow_Flow_Copy at h
 refine enter (N := 31) Tryz.func27 rfl rfl ?_
 refine CW.seq ?_
 refine CW.region fun L hL => ?_
 refine LW.rd hL rfl (Wants.free rfl) rfl (Rd.assign (v := .pointer none) rfl) ?_
 refine LW.nil hL rfl ?_
 refine NW.then ?_
 refine CW.seq ?_
 refine CW.seq ?_
 refine CW.region fun L hL => ?_
 refine LW.rd hL rfl (Wants.free rfl) rfl (Rd.move (v := .pointer f1) rfl) ?_
 refine LW.call hL rfl (Wants.free rfl) rfl (Cl.fn (f := 36) rfl Tryz.func36 (by kernel_rfl) rfl) h (fun e w1 h_ => ?_)
 clear h
 obtain ⟨r2, rfl, h⟩ := h_
 refine ⟨_, rfl, ?_⟩
 refine LW.nil hL rfl ?_
 refine NW.then ?_
 refine CW.cond rfl (fun hb1 => ?_) (fun hb1 => ?_)
 ·replace h := h.1 hb1
  refine CW.seq ?_
  refine CW.region fun L hL => ?_
  refine LW.rd hL rfl (Wants.free rfl) rfl (Rd.assign (v := .pointer none) rfl) ?_
  refine LW.nil hL rfl ?_
  refine NW.then ?_
  refine CW.ret ?_
  refine RW.then ?_
  exact res1 rfl rfl ⟨none, rfl, h⟩
 ·replace h := h.2 hb1
  refine CW.skip ?_
  refine NW.then ?_
  refine CW.seq ?_
  obtain ⟨w2, hw_w2⟩ : ∃ x, x = World.drew w1 := ⟨_, rfl⟩
  have hc_w2 := sil_drew (Chg.refl [] w1) hw_w2
  replace h := h  w2  hc_w2
  obtain ⟨a1, ha1, h⟩ := h
  obtain ⟨t1, t2, hc1, h⟩ := h
  obtain ⟨t3, hc2, h⟩ := h
  obtain ⟨t4, hc3, h⟩ := h
  obtain ⟨t5, hc4, h⟩ := h
  obtain ⟨t6, hc5, h⟩ := h
  refine CW.drawn (fun w => CellsAt w a1 0 [.int .i64 t1, .int .i64 t2] ∧ w.cell? (a1.add 2) = some (.pointer t3) ∧ w.cell? (a1.add 3) = some (.pointer t4) ∧ w.cell? (a1.add 4) = some (.pointer t5) ∧ w.cell? (a1.add 5) = some (.map t6) ∧ True) 25 (by kernel_rfl) fun H hH => ?_
  rw [← hw_w2]
  have hS1 : CellsAt w2 a1 0 [.int .i64 t1, .int .i64 t2] ∧ w2.cell? (a1.add 2) = some (.pointer t3) ∧ w2.cell? (a1.add 3) = some (.pointer t4) ∧ w2.cell? (a1.add 4) = some (.pointer t5) ∧ w2.cell? (a1.add 5) = some (.map t6) ∧ True := ⟨hc1, hc2, hc3, hc4, hc5, trivial⟩
  refine HW.pure (i := 0) hH rfl (by kernel_rfl) (Wants.free rfl) rfl (fun _ => hS1) (Rd.move (v := .pointer f1) rfl) ?_
  refine HW.pure (i := 1) hH rfl (by kernel_rfl) (Wants.free rfl) rfl (fun _ => hS1) (Rd.nil (q := a1) (by rw [← ha1]; rfl)) ?_
  refine HW.pure (i := 2) hH rfl (by kernel_rfl) (Wants.free rfl) rfl (fun _ => hS1) (Rd.fa (v := .pointer (some a1)) rfl (fun _ => by kernel_rfl)) ?_
  refine HW.take (i := 3) hH rfl (by kernel_rfl) (by kernel_rfl) (Wants.free rfl) rfl (fun _ => hS1) (Rd.ldN (cs := [.int .i64 t1, .int .i64 t2]) rfl (by kernel_rfl) (by kernel_rfl) (fun w h => cellsAt_get h.1)) ?_
  refine HW.pure (i := 4) hH rfl (by kernel_rfl) (Wants.free rfl) rfl (fun _ => hS1) (Rd.move (v := .pointer f1) rfl) ?_
  refine HW.pure (i := 5) hH rfl (by kernel_rfl) (Wants.free rfl) rfl (fun _ => hS1) (Rd.nil (q := a1) (by rw [← ha1]; rfl)) ?_
  refine HW.pure (i := 6) hH rfl (by kernel_rfl) (Wants.free rfl) rfl (fun _ => hS1) (Rd.fa (v := .pointer (some (a1.add 2))) rfl (fun _ => by kernel_rfl)) ?_
  refine HW.take (i := 7) hH rfl (by kernel_rfl) (by kernel_rfl) (Wants.free rfl) rfl (fun _ => hS1) (Rd.ld (v := .pointer t3) rfl (by kernel_rfl) (fun w h => h.2.1)) ?_
  refine HW.pure (i := 9) hH rfl (by kernel_rfl) (Wants.free rfl) rfl (fun _ => hS1) (Rd.move (v := .pointer f1) rfl) ?_
  refine HW.pure (i := 10) hH rfl (by kernel_rfl) (Wants.free rfl) rfl (fun _ => hS1) (Rd.nil (q := a1) (by rw [← ha1]; rfl)) ?_
  refine HW.pure (i := 11) hH rfl (by kernel_rfl) (Wants.free rfl) rfl (fun _ => hS1) (Rd.fa (v := .pointer (some (a1.add 3))) rfl (fun _ => by kernel_rfl)) ?_
  refine HW.take (i := 12) hH rfl (by kernel_rfl) (by kernel_rfl) (Wants.free rfl) rfl (fun _ => hS1) (Rd.ld (v := .pointer t4) rfl (by kernel_rfl) (fun w h => h.2.2.1)) ?_
  refine HW.pure (i := 14) hH rfl (by kernel_rfl) (Wants.free rfl) rfl (fun _ => hS1) (Rd.move (v := .pointer f1) rfl) ?_
  refine HW.pure (i := 15) hH rfl (by kernel_rfl) (Wants.free rfl) rfl (fun _ => hS1) (Rd.nil (q := a1) (by rw [← ha1]; rfl)) ?_
  refine HW.pure (i := 16) hH rfl (by kernel_rfl) (Wants.free rfl) rfl (fun _ => hS1) (Rd.fa (v := .pointer (some (a1.add 4))) rfl (fun _ => by kernel_rfl)) ?_
  refine HW.take (i := 17) hH rfl (by kernel_rfl) (by kernel_rfl) (Wants.free rfl) rfl (fun _ => hS1) (Rd.ld (v := .pointer t5) rfl (by kernel_rfl) (fun w h => h.2.2.2.1)) ?_
  refine HW.pure (i := 19) hH rfl (by kernel_rfl) (Wants.free rfl) rfl (fun _ => hS1) (Rd.move (v := .pointer f1) rfl) ?_
  refine HW.pure (i := 20) hH rfl (by kernel_rfl) (Wants.free rfl) rfl (fun _ => hS1) (Rd.nil (q := a1) (by rw [← ha1]; rfl)) ?_
  refine HW.pure (i := 21) hH rfl (by kernel_rfl) (Wants.free rfl) rfl (fun _ => hS1) (Rd.fa (v := .pointer (some (a1.add 5))) rfl (fun _ => by kernel_rfl)) ?_
  refine HW.take (i := 22) hH rfl (by kernel_rfl) (by kernel_rfl) (Wants.free rfl) rfl (fun _ => hS1) (Rd.ld (v := .map t6) rfl (by kernel_rfl) (fun w h => h.2.2.2.2.1)) ?_
  refine HW.call (i := 8) hH (by kernel_rfl) rfl (Wants.free rfl) rfl (Cl.fn (f := 47) rfl Tryz.func47 (by kernel_rfl) rfl) h (fun e w3 h_ => ?_)
  clear h
  obtain ⟨r3, rfl, hS2, h⟩ := h_
  have hS3 := (⟨hS2.1, hS2.2.1, hS2.2.2.1, hS2.2.2.2.1, hS2.2.2.2.2, trivial⟩ : CellsAt w3 a1 0 [.int .i64 t1, .int .i64 t2] ∧ w3.cell? (a1.add 2) = some (.pointer t3) ∧ w3.cell? (a1.add 3) = some (.pointer t4) ∧ w3.cell? (a1.add 4) = some (.pointer t5) ∧ w3.cell? (a1.add 5) = some (.map t6) ∧ True)
  refine ⟨_, rfl, (fun _ => hS3), ?_⟩
  refine HW.call (i := 13) hH (by kernel_rfl) rfl (Wants.free rfl) rfl (Cl.fn (f := 48) rfl Tryz.func48 (by kernel_rfl) rfl) h (fun e w4 h_ => ?_)
  clear h
  obtain ⟨r4, rfl, hS4, h⟩ := h_
  have hS5 := (⟨hS4.1, hS4.2.1, hS4.2.2.1, hS4.2.2.2.1, hS4.2.2.2.2, trivial⟩ : CellsAt w4 a1 0 [.int .i64 t1, .int .i64 t2] ∧ w4.cell? (a1.add 2) = some (.pointer t3) ∧ w4.cell? (a1.add 3) = some (.pointer t4) ∧ w4.cell? (a1.add 4) = some (.pointer t5) ∧ w4.cell? (a1.add 5) = some (.map t6) ∧ True)
  refine ⟨_, rfl, (fun _ => hS5), ?_⟩
  refine HW.call (i := 18) hH (by kernel_rfl) rfl (Wants.free rfl) rfl (Cl.fn (f := 48) rfl Tryz.func48 (by kernel_rfl) rfl) h (fun e w5 h_ => ?_)
  clear h
  obtain ⟨r5, rfl, hS6, h⟩ := h_
  have hS7 := (⟨hS6.1, hS6.2.1, hS6.2.2.1, hS6.2.2.2.1, hS6.2.2.2.2, trivial⟩ : CellsAt w5 a1 0 [.int .i64 t1, .int .i64 t2] ∧ w5.cell? (a1.add 2) = some (.pointer t3) ∧ w5.cell? (a1.add 3) = some (.pointer t4) ∧ w5.cell? (a1.add 4) = some (.pointer t5) ∧ w5.cell? (a1.add 5) = some (.map t6) ∧ True)
  refine ⟨_, rfl, (fun _ => hS7), ?_⟩
  refine HW.call (i := 23) hH (by kernel_rfl) rfl (Wants.free rfl) rfl (Cl.fn (f := 49) rfl Tryz.func49 (by kernel_rfl) rfl) h (fun e w6 h_ => ?_)
  clear h
  obtain ⟨r6, rfl, hS8, h⟩ := h_
  have hS9 := (⟨hS8.1, hS8.2.1, hS8.2.2.1, hS8.2.2.2.1, hS8.2.2.2.2, trivial⟩ : CellsAt w6 a1 0 [.int .i64 t1, .int .i64 t2] ∧ w6.cell? (a1.add 2) = some (.pointer t3) ∧ w6.cell? (a1.add 3) = some (.pointer t4) ∧ w6.cell? (a1.add 4) = some (.pointer t5) ∧ w6.cell? (a1.add 5) = some (.map t6) ∧ True)
  refine ⟨_, rfl, (fun _ => hS9), ?_⟩
  refine HW.pure (i := 24) hH rfl (by kernel_rfl) (Wants.free rfl) rfl (fun _ => hS9) (Rd.build (v := .agg #[.int .i64 t1, .int .i64 t2, .pointer r3, .pointer r4, .pointer r5, .map r6]) rfl (fun _ => by kernel_rfl)) ?_
  obtain ⟨b1, hb_b1⟩ : ∃ b1, b1 = World.size w6 := ⟨_, rfl⟩
  obtain ⟨w7, hw_w7⟩ : ∃ w7, w7 = World.alloc w6 (.cells #[.int .i64 t1, .int .i64 t2, .pointer r3, .pointer r4, .pointer r5, .map r6] 101) := ⟨_, rfl⟩
  replace h := h b1 hb_b1 w7 hw_w7
  refine HW.val (i := 25) hH (by kernel_rfl) rfl (Wants.free rfl) rfl (boxE hb_b1 hw_w7 (Vl.box (v := .agg #[.int .i64 t1, .int .i64 t2, .pointer r3, .pointer r4, .pointer r5, .map r6]) rfl)) (fun hc => by cases hc) ?_
  refine HW.pure (i := 26) hH rfl (by kernel_rfl) (Wants.free rfl) rfl (fun hc => by cases hc) (Rd.assign (v := .pointer (some (⟨b1, 0, none⟩ : Addr))) rfl) ?_
  refine HW.done hH (by kernel_rfl) ?_
  refine NW.then ?_
  refine CW.ret ?_
  exact res1 rfl rfl ⟨some (⟨b1, 0, none⟩ : Addr), rfl, h⟩
end Go.Proofs.YtfcfkhbkkfpehaaGreatDoor
end
section
namespace Go.Proofs.YtfcfkhbkkfpehaaGreatDoor
open Go Go.X
end Go.Proofs.YtfcfkhbkkfpehaaGreatDoor
end
section
/- maps.Clone, slices.Clone; Copy of a table, of a flow. -/
namespace Go.Proofs.YtfcfkhbkkfpehaaGreatDoor
open Go Go.RowKit Go.X Go.XR
end Go.Proofs.YtfcfkhbkkfpehaaGreatDoor
end
section
namespace Go.Proofs.YtfcfkhbkkfpehaaGreatDoor
open Go Go.X
end Go.Proofs.YtfcfkhbkkfpehaaGreatDoor
end
section
/- Flows: the map of all places that have sets. -/
namespace Go.Proofs.YtfcfkhbkkfpehaaGreatDoor
open Go Go.RowKit Go.X Go.XR
structure AllIs (w : World) (m : Nat) (F : Fl) (L : List ((Int × Int) × Int)) : Prop where
 map : MapIs w m encP (fun n : Int => .int .u32 n) L
 look : ∀ p, lookK p L = if F.g p = 0 then none else some (F.g p)
 may : ∀ x ∈ L, mayP F.fr F.se x.1
end Go.Proofs.YtfcfkhbkkfpehaaGreatDoor
end
section
/- Regions that draw their order, in codes that call rounds. -/
namespace Go.XR
open Go Go.X Go.RowKit
section
variable {P : Program} {ops : Array Oper} {Q : Exit → Act → World → Prop} {S : World → Prop} {z : Nat} {ro : Option Nat}
def noDefer (ops : Array Oper) : Bool := ops.toList.all fun o => !isDefer o
theorem noDefer_at {j : Nat} {o : Oper} (h : noDefer ops = true) (hj : ops[j]? = some o) : isDefer o = false := by
 have := List.all_eq_true.1 h o (by rw [Array.getElem?_eq_some_iff] at hj; obtain ⟨hi, rfl⟩ := hj; simp)
 simpa using this
theorem YieldsIf.wpOpIn {i : Nat} {o : Oper} {v : Value} {a : Act} (hi : ops[i]? = some o) (hdf : isDefer o = false) (hy : YieldsIf P ops S o v a)
  {K : Act → World → Prop} {w : World} (hS : S w) (h : K (a.put o.dst v) w) : wpOpIn (FR ro) 0 P ops Q i K a w := by
 unfold Go.wpOpIn
 simp only [hi]
 rcases hy with ⟨hw, hv⟩ | ⟨hw, rfl⟩
 ·simp only [hw, if_true, Oper.wpIn]; rw [semAt_of hdf, hv w hS]; exact ⟨fun _ _ => trivial, h⟩
 ·simp only [hw, Bool.false_eq_true, if_false]; exact ⟨fun _ _ => trivial, h⟩
theorem wpOpIn_putIf {j : Nat} {oi oj : Oper} {v : Value} (hj : ops[j]? = some oj) (hdf : isDefer oj = false) (hap : oi.apart ops oj = true)
  (hsi : ∀ cs b, oi.op ≠ .select cs b) (hsj : ∀ cs b, oj.op ≠ .select cs b)
  (hQ : ∀ c a w, Q (.panic c) (a.put oi.dst v) w → Q (.panic c) a w) {K : Act → World → Prop} {a : Act} {w : World}
  (hy : YieldsIf P ops S oi v a) (h : wpOpIn (FR ro) 0 P ops Q j K (a.put oi.dst v) w) :
  wpOpIn (FR ro) 0 P ops Q j (fun a' w' => YieldsIf P ops S oi v a' ∧ K (a'.put oi.dst v) w') a w := by
 obtain ⟨h1, h2, h3⟩ := Oper.apart_spec hap
 have keep : ∀ (a : Act), YieldsIf P ops S oi v a → ∀ u, YieldsIf P ops S oi v (a.put oj.dst u) := fun a hy u =>
  hy.of_same (execOp_put oi hsi a oj.dst u h3) (wanted_put oi a oj.dst u h3)
 have keepD : ∀ d, YieldsIf P ops S oi v { a with defers := d :: a.defers } := fun d => hy.of_same rfl rfl
 unfold wpOpIn at *
 simp only [hj] at *
 rw [wanted_put oj a oi.dst v h1] at h
 split
 ·rename_i hw
  simp only [hw, if_true] at h
  unfold Oper.wpIn at *
  refine ⟨fun _ _ => trivial, ?_⟩
  have h := h.2
  rw [semAt_of hdf, execOp_put oj hsj a oi.dst v h1] at h
  rw [semAt_of hdf]
  generalize (execOp a.eval oj).run P w = r at *
  cases r with
  | ok x w' =>
   cases x <;> simp only [Oper.uponIn] at h ⊢
   case value u => exact ⟨keep a hy u, by rw [← Act.put_comm a v u h2]; exact h⟩
   case skip => exact ⟨keep a hy _, by rw [← Act.put_comm a v undef h2]; exact h⟩
   case defer d =>
    refine ⟨keep _ (keepD d) _, ?_⟩
    rw [← Act.put_comm _ v undef h2, ← Act.put_defers]
    exact h
   case enter f args =>
    refine ⟨h.1, CallsIn.mono h.2 fun e w'' he => ?_⟩
    cases e with
    | returned u => exact ⟨keep a hy u, by rw [← Act.put_comm a v u h2]; exact he⟩
    | panicked c => exact hQ _ _ _ he
    | outgrown => exact he
   case row row args => exact ⟨h.1, RowsIn.mono h.2 fun u w'' he => ⟨keep a hy u, by rw [← Act.put_comm a v u h2]; exact he⟩⟩
   case round l f tmps assign body =>
    refine ⟨h.1, RoundIn.mono h.2 fun e w'' he => ?_⟩
    cases e with
    | returned u => exact ⟨keep a hy u, by rw [← Act.put_comm a v u h2]; exact he⟩
    | panicked c => exact hQ _ _ _ he
    | outgrown => exact he
  | halt x w' =>
   cases x <;> simp only [Oper.uponIn] at h ⊢
   case panic u => exact hQ _ _ _ h
 ·rename_i hw
  simp only [hw] at h
  exact ⟨fun _ _ => trivial, keep a hy _, by rw [← Act.put_comm a v undef h2]; exact h.2⟩
def AH (ro : Option Nat) (P : Program) (ops : Array Oper) (Q : Exit → Act → World → Prop) (S : World → Prop) (z : Nat) : Nat → Array Bool → Act → World → Prop
 | 0, l, a, w => Region.ready .any ops l = [] ∧ Q .normal a w
 | n + 1, l, a, w => (Region.ready .any ops l = [] → Q .normal a w) ∧
  ∀ i ∈ Region.ready .any ops l, wpOpIn (FR ro) 0 P ops Q i (fun a' w' => ((l.setIfInBounds i true).getD z false = false → S w') ∧ AH ro P ops Q S z n (l.setIfInBounds i true) a' w') a w
theorem AH.any : ∀ (n : Nat) (l : Array Bool) (a : Act) (w : World), AH ro P ops Q S z n l a w → wpAnyIn (FR ro) 0 P .any ops Q n l a w
 | 0, _, _, _, h => h
 | n + 1, _, _, _, h => ⟨h.1, fun i hi => wpOpIn_mono (fun a' w' h' => AH.any n _ a' w' h'.2) (h.2 i hi)⟩
theorem AH.first {S₀ : World → Prop} {i : Nat} {oi : Oper} {v : Value} (hnd : noDefer ops = true) (hi : ops[i]? = some oi) (hsel : ∀ (j : Nat) (o : Oper) cs b, ops[j]? = some o → o.op ≠ .select cs b)
  (hQ : ∀ c a w, Q (.panic c) (a.put oi.dst v) w → Q (.panic c) a w) (hz : i ≠ z)
  (hS₀ : ∀ l w, Shut ops l → l.getD i true = false → (l.getD z false = false → S w) → S₀ w) :
  ∀ (n : Nat) (l : Array Bool) (a : Act) (w : World),
   (∀ j oj, ops[j]? = some oj → j ≠ i → l.getD j true = false → (∀ e ∈ oj.after, Region.binds .any e = true → e.on ≠ i) → oi.apart ops oj = true) →
   Shut ops l → i ∈ Region.ready .any ops l → YieldsIf P ops S₀ oi v a → (l.getD z false = false → S w) → AH ro P ops Q S z n (l.setIfInBounds i true) (a.put oi.dst v) w → AH ro P ops Q S z (n + 1) l a w := by
 intro n
 induction n with
 | zero =>
  intro l a w _ hsh hr hy hS H
  have hpend : l.getD i true = false := (mem_ready.1 hr).1
  refine ⟨fun h => (by rw [h] at hr; cases hr), fun j hj => ?_⟩
  by_cases hji : j = i
  ·subst hji; exact YieldsIf.wpOpIn hi (noDefer_at hnd hi) hy (hS₀ l w hsh hpend hS) ⟨fun h => hS (by rwa [getD_set_ne false hz] at h), H⟩
  ·have hm := ready_mono hj hji
   rw [H.1] at hm; cases hm
 | succ n ih =>
  intro l a w hfree hsh hr hy hS H
  have hpend : l.getD i true = false := (mem_ready.1 hr).1
  refine ⟨fun h => (by rw [h] at hr; cases hr), fun j hj => ?_⟩
  by_cases hji : j = i
  ·subst hji; exact YieldsIf.wpOpIn hi (noDefer_at hnd hi) hy (hS₀ l w hsh hpend hS) ⟨fun h => hS (by rwa [getD_set_ne false hz] at h), H⟩
  ·have h1 := H.2 j (ready_mono hj hji)
   obtain ⟨hjun, oj, hoj, hall⟩ := mem_ready.1 hj
   have hnot : ∀ e ∈ oj.after, Region.binds .any e = true → e.on ≠ i := fun e he hb heq => by
    have h2 := hall e he hb
    rw [heq, getD_both hpend] at h2; cases h2
   have h2 := wpOpIn_putIf hoj (noDefer_at hnd hoj) (hfree j oj hoj hji hjun hnot) (fun cs b => hsel i oi cs b hi) (fun cs b => hsel j oj cs b hoj) hQ hy h1
   refine wpOpIn_mono (fun a' w' h3 => ?_) h2
   obtain ⟨hy', hS', hA'⟩ := h3
   have hS'' : (l.setIfInBounds j true).getD z false = false → S w' := fun h => hS' (by rw [Array.setIfInBounds_comm _ _ (Ne.symm hji), getD_set_ne false hz]; exact h)
   refine ⟨hS'', ih (l.setIfInBounds j true) a' w' (fun k ok hk hki hun hno => hfree k ok hk hki ?_ hno) (hsh.set hj) (ready_mono hr (Ne.symm hji)) hy' hS'' ?_⟩
   ·by_cases hjk : j = k
    ·subst hjk; exact hjun
    ·rw [getD_set_ne true hjk] at hun; exact hun
   ·rw [Array.setIfInBounds_comm _ _ hji]; exact hA'
variable {N : Nat} {D : List Deferred} {E : Env} {w w' : World} {H : Nat → Array Bool → Env → World → Prop} {n : Nat} {l : Array Bool} {i : Nat} {o : Oper} {v : Value}
def HW (ro : Option Nat) (P : Program) (N : Nat) (D : List Deferred) (ops : Array Oper) (Q : Exit → Act → World → Prop) (S : World → Prop) (z : Nat) (n : Nat) (l : Array Bool) (E : Env) (w : World) : Prop :=
 ∀ a, Sat N D E a → Shut ops l → AH ro P ops (NP Q) S z n l a w
theorem CW.drawn {id : Nat} (S : World → Prop) (z : Nat) (hm : P.follows .mixedOrders = true) (h : ∀ H, H = HW ro P N D ops Q S z → H ops.size (Array.replicate ops.size false) E w.drew) :
  CW ro P N D (.region id ops true) Q E w := fun a ha =>
 wpIn_mono (wpIn_region_any hm (AH.any _ _ _ _ (h _ rfl a ha Shut.none))) fun e a w hq => by
  cases e with
  | normal => exact hq
  | _ => exact hq.elim
theorem HW.first {S₀ : World → Prop} (hH : H = HW ro P N D ops Q S z) (ho : ops[i]? = some o) (hc : chk ops z l i = true) (hd : okd N o.dst = true) (hS : l.getD z false = false → S w)
  (hS₀ : ∀ l w, Shut ops l → l.getD i true = false → (l.getD z false = false → S w) → S₀ w)
  (hy : ∀ a, Sat N D E a → YieldsIf P ops S₀ o v a) (k : H n (l.setIfInBounds i true) (putE o.dst v E) w) (hnd : noDefer ops = true := by kernel_rfl) : H (n + 1) l E w := by
 subst hH
 intro a ha hsh
 simp only [chk, Bool.and_eq_true] at hc
 have hr : i ∈ Region.ready .any ops l := by simpa using hc.2.2.1
 have hz : i ≠ z := fun e => by have := hc.2.2.2; subst e; simp at this
 exact AH.first hnd ho (Region.noSelect_spec hc.1) (fun _ _ _ h => h) hz hS₀ n l a w (Region.free_spec ho hc.2.1) hsh hr (hy a ha) hS (k _ (ha.put hd) (hsh.set hr))
theorem HW.take (hH : H = HW ro P N D ops Q S z) (ho : ops[i]? = some o) (hc : chk ops z l i = true) (hcr : chkR ops z i = true) (hw : Wants N ops E o) (hd : okd N o.dst = true) (hS : l.getD z false = false → S w)
  (hv : ∀ a, Sat N D E a → ∀ w, S w → (execOp a.eval o).run P w = .ok (.value v) w) (k : H n (l.setIfInBounds i true) (putE o.dst v E) w) (hnd : noDefer ops = true := by kernel_rfl) : H (n + 1) l E w :=
 HW.first hH ho hc hd hS (chkR_spec hcr) (fun a ha => .inl ⟨hw _ _ ha, hv a ha⟩) k hnd
theorem HW.pure (hH : H = HW ro P N D ops Q S z) (ho : ops[i]? = some o) (hc : chk ops z l i = true) (hw : Wants N ops E o) (hd : okd N o.dst = true) (hS : l.getD z false = false → S w)
  (hv : ∀ a, Sat N D E a → ∀ w, True → (execOp a.eval o).run P w = .ok (.value v) w) (k : H n (l.setIfInBounds i true) (putE o.dst v E) w) (hnd : noDefer ops = true := by kernel_rfl) : H (n + 1) l E w :=
 HW.first (S₀ := fun _ => True) hH ho hc hd hS (fun _ _ _ _ _ => trivial) (fun a ha => .inl ⟨hw _ _ ha, hv a ha⟩) k hnd
theorem HW.skip (hH : H = HW ro P N D ops Q S z) (ho : ops[i]? = some o) (hc : chk ops z l i = true) (hs : Skips N ops E o) (hd : okd N o.dst = true) (hS : l.getD z false = false → S w)
  (k : H n (l.setIfInBounds i true) (putE o.dst undef E) w) (hnd : noDefer ops = true := by kernel_rfl) : H (n + 1) l E w :=
 HW.first (S₀ := fun _ => True) hH ho hc hd hS (fun _ _ _ _ _ => trivial) (fun a ha => .inr ⟨hs _ _ ha, rfl⟩) k hnd
theorem HW.one (hH : H = HW ro P N D ops Q S z) (hr : Region.ready .any ops l = [i]) (ho : ops[i]? = some o) (hw : Wants N ops E o)
  (h : ∀ a, Sat N D E a → Shut ops l → o.wpIn (FR ro) 0 P a w (fun a' w' => ((l.setIfInBounds i true).getD z false = false → S w') ∧ AH ro P ops (NP Q) S z n (l.setIfInBounds i true) a' w') (NP Q)) : H (n + 1) l E w := by
 subst hH
 intro a ha hsh
 refine ⟨fun h0 => (by rw [hr] at h0; cases h0), fun j hj => ?_⟩
 rw [hr] at hj
 have hji : j = i := by simpa using hj
 subst hji
 unfold wpOpIn
 simp only [ho, hw _ _ ha, if_true]
 exact h a ha hsh
theorem HW.val (hH : H = HW ro P N D ops Q S z) (hr : Region.ready .any ops l = [i]) (ho : ops[i]? = some o) (hw : Wants N ops E o) (hd : okd N o.dst = true)
  (hv : ∀ a, Sat N D E a → (execOp a.eval o).run P w = .ok (.value v) w') (hS : (l.setIfInBounds i true).getD z false = false → S w') (k : H n (l.setIfInBounds i true) (putE o.dst v E) w') (hn : isDefer o = false := by rfl) : H (n + 1) l E w :=
 HW.one hH hr ho hw fun a ha hsh => by
  refine ⟨fun _ _ => trivial, ?_⟩
  rw [semAt_of hn, hv a ha, Oper.uponIn_value]
  rw [hH] at k; exact ⟨hS, k _ (ha.put hd) (hsh.set (by rw [hr]; simp))⟩
theorem HW.eff (hH : H = HW ro P N D ops Q S z) (hr : Region.ready .any ops l = [i]) (ho : ops[i]? = some o) (hw : Wants N ops E o) (hd : okd N o.dst = true)
  (hv : ∀ a, Sat N D E a → (execOp a.eval o).run P w = .ok .skip w') (hS : (l.setIfInBounds i true).getD z false = false → S w') (k : H n (l.setIfInBounds i true) (putE o.dst undef E) w') (hn : isDefer o = false := by rfl) : H (n + 1) l E w :=
 HW.one hH hr ho hw fun a ha hsh => by
  refine ⟨fun _ _ => trivial, ?_⟩
  rw [semAt_of hn, hv a ha, Oper.uponIn_skip]
  rw [hH] at k; exact ⟨hS, k _ (ha.put hd) (hsh.set (by rw [hr]; simp))⟩
theorem HW.call {f : Nat} {args : Array Value} {R : Ending → World → Prop} (hH : H = HW ro P N D ops Q S z) (hr : Region.ready .any ops l = [i]) (ho : ops[i]? = some o) (hw : Wants N ops E o) (hd : okd N o.dst = true)
  (hv : ∀ a, Sat N D E a → (execOp a.eval o).run P w = .ok (.enter f args) w') (hc : Calls P f args w' R)
  (k : ∀ e w'', R e w'' → ∃ v, e = .returned v ∧ ((l.setIfInBounds i true).getD z false = false → S w'') ∧ H n (l.setIfInBounds i true) (putE o.dst v E) w'') (hn : isDefer o = false := by rfl) : H (n + 1) l E w :=
 HW.one hH hr ho hw fun a ha hsh => by
  refine ⟨fun _ _ => trivial, ?_⟩
  rw [semAt_of hn, hv a ha, Oper.uponIn_enter]
  refine ⟨fun h => (by cases h), FR.callsIn (hc.mono fun e w'' hR => ?_)⟩
  obtain ⟨v, rfl, hS, hk⟩ := k e w'' hR
  rw [hH] at hk; exact ⟨hS, hk _ (ha.put hd) (hsh.set (by rw [hr]; simp))⟩
theorem HW.skip1 (hH : H = HW ro P N D ops Q S z) (hr : Region.ready .any ops l = [i]) (ho : ops[i]? = some o) (hs : Skips N ops E o) (hd : okd N o.dst = true) (hS : (l.setIfInBounds i true).getD z false = false → S w)
  (k : H n (l.setIfInBounds i true) (putE o.dst undef E) w) : H (n + 1) l E w := by
 subst hH
 intro a ha hsh
 refine ⟨fun h0 => (by rw [hr] at h0; cases h0), fun j hj => ?_⟩
 have hj' := hj
 rw [hr] at hj
 have hji : j = i := by simpa using hj
 subst hji
 unfold wpOpIn
 simp only [ho, hs _ _ ha, Bool.false_eq_true, if_false]
 exact ⟨fun _ _ => trivial, hS, k _ (ha.put hd) (hsh.set hj')⟩
theorem HW.callY {x : Operand} {args : Array Operand} {ts : Array TypeId} {d : Option Nat} {T : TypeId} {p : String} {af : Array Edge} {gd : Option (Nat × Bool)} {fv : Value} {vs : List Value} {R : Ending → World → Prop}
  (hH : H = HW ro P N D ops Q S z) (hr : Region.ready .any ops l = [i]) (ho : ops[i]? = some ⟨d, .call ⟨.value x, args, ts⟩, T, p, af, gd⟩) (hw : Wants N ops E ⟨d, .call ⟨.value x, args, ts⟩, T, p, af, gd⟩) (hd : okd N d = true)
  (hx : opd E x = some fv) (ha' : opdL E args.toList = some vs) (hc : CallsY P fv vs.toArray w R)
  (k : ∀ e w'', R e w'' → ∃ v, e = .returned v ∧ ((l.setIfInBounds i true).getD z false = false → S w'') ∧ H n (l.setIfInBounds i true) (putE d v E) w'') : H (n + 1) l E w := by
 rcases hc with ⟨f, cap, fn, rfl, h2, h3, h4, h5⟩ | ⟨lb, rfl, fn, tmps, as', bd, h2, h3⟩
 ·refine HW.one hH hr ho hw fun a ha hsh => ⟨fun _ _ => trivial, ?_⟩
  rw [semAt_of rfl, Cl.fv hx ha' h2 h3 h4 a ha, Oper.uponIn_enter]
  refine ⟨fun h => (by cases h), FR.callsIn (h5.mono fun e w'' hR => ?_)⟩
  obtain ⟨v, rfl, hS, hk⟩ := k e w'' hR
  rw [hH] at hk; exact ⟨hS, hk _ (ha.put hd) (hsh.set (by rw [hr]; simp))⟩
 ·refine HW.one hH hr ho hw fun a ha hsh => ⟨fun _ _ => trivial, ?_⟩
  have e1 : (execOp a.eval ⟨d, .call ⟨.value x, args, ts⟩, T, p, af, gd⟩).run P w = .ok (.round lb fn tmps as' bd) w := by
   have e2 : args.map a.eval = vs.toArray := opdL_map ha ha'
   simp [execOp, resolve, ha.eval hx, Deferred.ofValue, invoke, e2, h2]
  rw [semAt_of rfl, e1, Oper.uponIn_round]
  refine ⟨fun h => (by cases h), h3.mono fun e w'' hR => ?_⟩
  obtain ⟨v, rfl, hS, hk⟩ := k e w'' hR
  rw [hH] at hk; exact ⟨hS, hk _ (ha.put hd) (hsh.set (by rw [hr]; simp))⟩
def H1 (ro : Option Nat) (P : Program) (N : Nat) (D : List Deferred) (ops : Array Oper) (Q : Exit → Act → World → Prop) (S : World → Prop) (z : Nat) (n : Nat) (l : Array Bool) (i : Nat) (E : Env) (w : World) : Prop :=
 i ∈ Region.ready .any ops l → ∀ a, Sat N D E a → Shut ops l → wpOpIn (FR ro) 0 P ops (NP Q) i (fun a' w' => ((l.setIfInBounds i true).getD z false = false → S w') ∧ AH ro P ops (NP Q) S z n (l.setIfInBounds i true) a' w') a w
theorem HW.two {j : Nat} (hH : H = HW ro P N D ops Q S z) (hr : Region.ready .any ops l = [i, j]) (h1 : H1 ro P N D ops Q S z n l i E w) (h2 : H1 ro P N D ops Q S z n l j E w) : H (n + 1) l E w := by
 subst hH
 intro a ha hsh
 refine ⟨fun h0 => (by rw [hr] at h0; cases h0), fun k hk => ?_⟩
 have hk' := hk
 rw [hr] at hk
 rcases List.mem_cons.1 hk with rfl | hk
 ·exact h1 hk' a ha hsh
 ·have : k = j := by simpa using hk
  subst this
  exact h2 hk' a ha hsh
theorem H1.val (hH : H = HW ro P N D ops Q S z) (ho : ops[i]? = some o) (hw : Wants N ops E o) (hd : okd N o.dst = true)
  (hv : ∀ a, Sat N D E a → (execOp a.eval o).run P w = .ok (.value v) w') (hS : (l.setIfInBounds i true).getD z false = false → S w') (k : H n (l.setIfInBounds i true) (putE o.dst v E) w') (hn : isDefer o = false := by rfl) : H1 ro P N D ops Q S z n l i E w := by
 intro hr a ha hsh
 unfold wpOpIn
 simp only [ho, hw _ _ ha, if_true, Oper.wpIn]
 rw [semAt_of hn, hv a ha, Oper.uponIn_value]
 rw [hH] at k; exact ⟨fun _ _ => trivial, hS, k _ (ha.put hd) (hsh.set hr)⟩
theorem H1.call {f : Nat} {args : Array Value} {R : Ending → World → Prop} (hH : H = HW ro P N D ops Q S z) (ho : ops[i]? = some o) (hw : Wants N ops E o) (hd : okd N o.dst = true)
  (hv : ∀ a, Sat N D E a → (execOp a.eval o).run P w = .ok (.enter f args) w') (hc : Calls P f args w' R)
  (k : ∀ e w'', R e w'' → ∃ v, e = .returned v ∧ ((l.setIfInBounds i true).getD z false = false → S w'') ∧ H n (l.setIfInBounds i true) (putE o.dst v E) w'') (hn : isDefer o = false := by rfl) : H1 ro P N D ops Q S z n l i E w := by
 intro hr a ha hsh
 unfold wpOpIn
 simp only [ho, hw _ _ ha, if_true, Oper.wpIn]
 rw [semAt_of hn, hv a ha, Oper.uponIn_enter]
 refine ⟨fun _ _ => trivial, fun h => (by cases h), FR.callsIn (hc.mono fun e w'' hR => ?_)⟩
 obtain ⟨v, rfl, hS, hk⟩ := k e w'' hR
 rw [hH] at hk; exact ⟨hS, hk _ (ha.put hd) (hsh.set hr)⟩
theorem HW.done (hH : H = HW ro P N D ops Q S z) (hr : Region.ready .any ops l = []) (k : NW N D Q E w) : H n l E w := by
 subst hH
 intro a ha _
 cases n with
 | zero => exact ⟨hr, k a ha⟩
 | succ n => exact ⟨fun _ => k a ha, by rw [hr]; simp⟩
theorem HW.sub (hH : H = HW ro P N D ops Q S z) {F : Env} (s : Sub E F) (k : H n l E w) : H n l F w := by
 subst hH; exact fun a ha => k a (ha.sub s)
end
end Go.XR
end
section
namespace Go.Proofs.YtfcfkhbkkfpehaaGreatDoor
open Go Go.X
end Go.Proofs.YtfcfkhbkkfpehaaGreatDoor
end
section
/- Flows: All. -/
namespace Go.Proofs.YtfcfkhbkkfpehaaGreatDoor
open Go Go.RowKit Go.X Go.XR
end Go.Proofs.YtfcfkhbkkfpehaaGreatDoor
end
section
namespace Go.Proofs.YtfcfkhbkkfpehaaGreatDoor
open Go Go.X
end Go.Proofs.YtfcfkhbkkfpehaaGreatDoor
end
section
namespace Go.Proofs.YtfcfkhbkkfpehaaGreatDoor
open Go Go.X
end Go.Proofs.YtfcfkhbkkfpehaaGreatDoor
end
section
/- Flows that are the same: slices.Equal, labels.Same, maps.Equal, flow.Same. -/
namespace Go.Proofs.YtfcfkhbkkfpehaaGreatDoor
open Go Go.RowKit Go.X Go.XR
end Go.Proofs.YtfcfkhbkkfpehaaGreatDoor
end
section
/- The document's flows: New, May, Keep, Put, Mark. -/
namespace Go.Proofs.YtfcfkhbkkfpehaaGreatDoor
open Go Go.RowKit Go.X
/-! ### Rows of equal elements -/
theorem flat_length {α : Type} {enc : α → List Value} {size : Nat} (hs : ∀ x, (enc x).length = size) (l : List α) : (l.flatMap enc).length = l.length * size := by
 induction l with
 | nil => simp
 | cons a l ih => simp only [List.flatMap_cons, List.length_append, hs, ih, List.length_cons]; rw [Nat.add_mul]; omega
abbrev Pr := (Int × Int) × Int
def encPr (x : Pr) : List Value := [.int .i64 x.1.1, .int .i64 x.1.2, .int .u32 x.2]
structure Rf where
 fr : Int
 se : Int
 most : Int
 sets : List Int
 pairs : List Pr
structure RefAt (w : World) (R : Rf) (p4 : Option Addr) (n4 c4 : Nat) (p5 : Option Addr) (n5 c5 : Nat) : Prop where
 sets : RowAt w 43 1 p4 n4 c4 (R.sets.map (.int .u32))
 pairs : RowAt w 71 3 p5 n5 c5 (R.pairs.flatMap encPr)
theorem RefAt.chg {w w' : World} {R : Rf} {p4 p5 : Option Addr} {n4 c4 n5 c5 : Nat} {f : List Nat} (h : RefAt w R p4 n4 c4 p5 n5 c5) (hc : Chg f w w') (h4 : ∀ i ∈ rowB p4, i ∉ f) (h5 : ∀ i ∈ rowB p5, i ∉ f) : RefAt w' R p4 n4 c4 p5 n5 c5 :=
 ⟨h.sets.chg hc h4, h.pairs.chg hc h5⟩
theorem RefAt.n4 {w : World} {R : Rf} {p4 p5 : Option Addr} {n4 c4 n5 c5 : Nat} (h : RefAt w R p4 n4 c4 p5 n5 c5) : n4 = R.sets.length := by have := h.sets.length; simp at this; omega
theorem RefAt.n5 {w : World} {R : Rf} {p4 p5 : Option Addr} {n4 c4 n5 c5 : Nat} (h : RefAt w R p4 n4 c4 p5 n5 c5) : n5 = R.pairs.length := by
 have := h.pairs.length; rw [flat_length (size := 3) (fun _ => rfl)] at this; omega
end Go.Proofs.YtfcfkhbkkfpehaaGreatDoor
end
section
/- The document's flows: Keep, ahead, Put. -/
namespace Go.Proofs.YtfcfkhbkkfpehaaGreatDoor
open Go Go.RowKit Go.X
def aheadP (a b : Int × Int) : Prop := a.1 < b.1 ∨ a.1 = b.1 ∧ a.2 < b.2
instance (a b : Int × Int) : Decidable (aheadP a b) := by unfold aheadP; exact inferInstance
def stepPut (p : Int × Int) (set : Int) (s : List Pr × Bool) (x : Pr) : List Pr × Bool :=
 let s1 := if !s.2 && decide (aheadP p x.1) then (s.1 ++ [(p, set)], true) else s
 let o2 := if x.1 = p then s1.1 else s1.1 ++ [x]
 if x.1 = p ∧ s1.2 = false then (o2 ++ [(p, set)], true) else (o2, s1.2)
def foldPut (p : Int × Int) (set : Int) (l : List Pr) : List Pr × Bool := l.foldl (stepPut p set) ([], set == 0)
def refPut (p : Int × Int) (set : Int) (l : List Pr) : List Pr := let s := foldPut p set l; if s.2 then s.1 else s.1 ++ [(p, set)]
theorem foldPut_snoc (p : Int × Int) (set : Int) (l : List Pr) (x : Pr) : foldPut p set (l ++ [x]) = stepPut p set (foldPut p set l) x := by simp [foldPut]
end Go.Proofs.YtfcfkhbkkfpehaaGreatDoor
end
section
/- The document's flows: Put. -/
namespace Go.Proofs.YtfcfkhbkkfpehaaGreatDoor
open Go Go.RowKit Go.X
end Go.Proofs.YtfcfkhbkkfpehaaGreatDoor
end
section
/- The document's flows: New, Mark. -/
namespace Go.Proofs.YtfcfkhbkkfpehaaGreatDoor
open Go Go.RowKit Go.X
def refFill (p : Int × Int) (set : Int) (l : List Pr) : Nat → List Pr
 | 0 => l
 | n + 1 => refPut (p.1, p.2 + n) set (refFill p set l n)
def refMarkE (R : Rf) (p : Int × Int) (n set : Int) : Int :=
 if ¬ mayP R.fr R.se p ∨ 65536 ≤ set then 2 else if n < 0 ∨ 65536 < n ∨ (0 < n ∧ ¬ mayP R.fr R.se (p.1, p.2 + n - 1)) then 4 else keepE R.most R.sets set
def refMark (R : Rf) (p : Int × Int) (n set : Int) : Rf := if refMarkE R p n set = 0 then { R with sets := keepS R.most R.sets set, pairs := refFill p set R.pairs n.toNat } else R
end Go.Proofs.YtfcfkhbkkfpehaaGreatDoor
end
section
/- The program's flow and the document's one, as values: what they say alike behind marks and touches. -/
namespace Go.Proofs.YtfcfkhbkkfpehaaGreatDoor
open Go Go.RowKit Go.X
def lookPr (l : List Pr) (q : Int × Int) : Int := (lookK q l).getD 0
def PutInv (p : Int × Int) (set : Int) (l : List Pr) (s : List Pr × Bool) : Prop :=
 (∀ q, q ≠ p → lookK q s.1 = lookK q l) ∧ (s.2 = true → lookK p s.1 = if set = 0 then none else some set) ∧ (s.2 = false → lookK p s.1 = none ∧ set ≠ 0)
theorem putInv_step {p : Int × Int} {set : Int} {l : List Pr} {s : List Pr × Bool} (h : PutInv p set l s) (x : Pr) : PutInv p set (l ++ [x]) (stepPut p set s x) := by
 obtain ⟨out, put⟩ := s
 obtain ⟨h1, h2, h3⟩ := h
 simp only [] at h1 h2 h3
 have hone : ∀ (q : Int × Int) (y : Pr), lookK q [y] = if y.1 = q then some y.2 else none := fun q y => by rw [lookK_cons, lookK_nil]
 unfold stepPut
 cases put with
 | true =>
  simp only [Bool.not_true, Bool.false_and, Bool.false_eq_true, if_false, Bool.true_eq_false, and_false]
  have h2' := h2 rfl
  by_cases hx : x.1 = p
  ·simp only [hx, if_true]
   refine ⟨fun q hq => ?_, fun _ => h2', fun h => by simp at h⟩
   rw [h1 q hq, lookK_append, hone, hx, if_neg (Ne.symm hq), Option.or_none]
  ·simp only [hx, if_false]
   refine ⟨fun q hq => ?_, fun _ => ?_, fun h => by simp at h⟩
   ·rw [lookK_append, lookK_append, h1 q hq]
   ·rw [lookK_append, h2', hone, if_neg hx, Option.or_none]
 | false =>
  obtain ⟨h3', hs⟩ := h3 rfl
  by_cases ha : aheadP p x.1
  ·have hx : x.1 ≠ p := fun e => by rw [e] at ha; unfold aheadP at ha; omega
   simp only [Bool.not_false, Bool.true_and, ha, decide_true, if_true, hx, if_false, Bool.true_eq_false, and_false, false_and]
   refine ⟨fun q hq => ?_, fun _ => ?_, fun h => by simp at h⟩
   ·rw [lookK_append, lookK_append, lookK_append, hone, hone, h1 q hq]
    simp only [Ne.symm hq, if_false, Option.or_none]
   ·rw [lookK_append, lookK_append, h3', hone, hone]
    simp [hs]
  ·simp only [Bool.not_false, Bool.true_and, ha, decide_false, Bool.false_eq_true, if_false]
   by_cases hx : x.1 = p
   ·simp only [hx, if_true, and_self]
    refine ⟨fun q hq => ?_, fun _ => ?_, fun h => by simp at h⟩
    ·rw [lookK_append, lookK_append, hone, hone, h1 q hq, hx]; simp [Ne.symm hq]
    ·rw [lookK_append, h3', hone]
     simp [hs]
   ·simp only [hx, if_false, false_and]
    refine ⟨fun q hq => ?_, fun h => by simp at h, fun _ => ⟨?_, hs⟩⟩
    ·rw [lookK_append, lookK_append, h1 q hq]
    ·rw [lookK_append, h3', hone, if_neg hx]; rfl
theorem putInv_fold (p : Int × Int) (set : Int) (l : List Pr) : PutInv p set l (foldPut p set l) := by
 have : ∀ (l l0 : List Pr) (s : List Pr × Bool), PutInv p set l0 s → PutInv p set (l0 ++ l) (l.foldl (stepPut p set) s) := by
  intro l
  induction l with
  | nil => intro l0 s h; simpa using h
  | cons x l ih =>
   intro l0 s h
   have := ih (l0 ++ [x]) _ (putInv_step h x)
   simpa using this
 have := this l [] ([], set == 0) ⟨fun q _ => rfl, fun h => by simp at h; simp [h, lookK_nil], fun h => by simp at h; exact ⟨rfl, h⟩⟩
 simpa [foldPut] using this
theorem look_refPut (p : Int × Int) (set : Int) (l : List Pr) (q : Int × Int) : lookPr (refPut p set l) q = if q = p then set else lookPr l q := by
 obtain ⟨h1, h2, h3⟩ := putInv_fold p set l
 unfold refPut lookPr
 simp only []
 by_cases hs : (foldPut p set l).2 = true
 ·rw [if_pos hs]
  by_cases hq : q = p
  ·subst hq
   rw [h2 hs, if_pos rfl]
   by_cases h0 : set = 0
   ·simp [h0]
   ·simp [h0]
  ·rw [h1 q hq, if_neg hq]
 ·rw [if_neg hs]
  have hs' : (foldPut p set l).2 = false := by simpa using hs
  rw [lookK_append, lookK_cons, lookK_nil]
  by_cases hq : q = p
  ·subst hq
   rw [(h3 hs').1]; simp
  ·rw [h1 q hq, if_neg (Ne.symm hq), if_neg hq, Option.or_none]
structure RelF (F : Fl) (R : Rf) : Prop where
 fr : R.fr = F.fr
 se : R.se = F.se
 most : R.most = F.most
 sets : R.sets = F.sets
 look : ∀ q, lookPr R.pairs q = F.g q
theorem RelF.new (fr se most : Int) : RelF (flowNew fr se most) ⟨fr, se, most, [0], []⟩ := ⟨rfl, rfl, rfl, rfl, fun _ => rfl⟩
theorem look_refFill (p : Int × Int) (set : Int) (l : List Pr) (g : Int × Int → Int) (hg : ∀ q, lookPr l q = g q) (n : Nat) (q : Int × Int) : lookPr (refFill p set l n) q = fillP g p set n q := by
 induction n generalizing q with
 | zero => exact hg q
 | succ n ih =>
  simp only [refFill, fillP, putP]
  rw [look_refPut, ih]
theorem RelF.markE {F : Fl} {R : Rf} (h : RelF F R) (p : Int × Int) (n set : Int) : refMarkE R p n set = markE F p n set := by
 unfold refMarkE Proofs.YtfcfkhbkkfpehaaGreatDoor.markE
 rw [h.fr, h.se, h.most, h.sets]
theorem RelF.mark {F : Fl} {R : Rf} (h : RelF F R) (p : Int × Int) (n set : Int) : RelF (markF F p n set) (refMark R p n set) := by
 unfold markF refMark
 rw [h.markE]
 by_cases he : Proofs.YtfcfkhbkkfpehaaGreatDoor.markE F p n set = 0
 ·rw [if_pos he, if_pos he]
  refine ⟨h.fr, h.se, h.most, ?_, fun q => ?_⟩
  ·simp only [h.most, h.sets]
  ·exact look_refFill p set R.pairs F.g h.look _ q
 ·rw [if_neg he, if_neg he]; exact h
/-! ### Touches applied -/
def keepStep (most : Int) (g : Int × Int → Int) (s : List Int × List Pr × Int) (t : Tch) : List Int × List Pr × Int :=
 if s.2.2 ≠ 0 ∨ t.1 = (0, 0) then s else
  if keepE most s.1 (joinP g t.2) ≠ 0 then (s.1, s.2.1, keepE most s.1 (joinP g t.2)) else (keepS most s.1 (joinP g t.2), upd t.1 (joinP g t.2) s.2.1, 0)
def keepAll (most : Int) (g : Int × Int → Int) (ts : List Tch) (sets : List Int) : List Int × List Pr × Int := ts.foldl (keepStep most g) (sets, [], 0)
theorem keepAll_snoc (most : Int) (g : Int × Int → Int) (ts : List Tch) (sets : List Int) (t : Tch) : keepAll most g (ts ++ [t]) sets = keepStep most g (keepAll most g ts sets) t := by simp [keepAll]
theorem keepAll_bad {most : Int} {g : Int × Int → Int} {ts us : List Tch} {sets : List Int} (h : (keepAll most g ts sets).2.2 ≠ 0) : keepAll most g (ts ++ us) sets = keepAll most g ts sets := by
 have : ∀ (us : List Tch) (s : List Int × List Pr × Int), s.2.2 ≠ 0 → us.foldl (keepStep most g) s = s := by
  intro us
  induction us with
  | nil => intro s _; rfl
  | cons u us ih =>
   intro s hs
   have e : keepStep most g s u = s := by unfold keepStep; rw [if_pos (.inl hs)]
   rw [List.foldl_cons, e]; exact ih s hs
 unfold keepAll at h ⊢
 rw [List.foldl_append]; exact this us _ h
def rightAll (fr se : Int) (ts : List Tch) : Prop := ∀ t ∈ ts, rightT fr se t
instance (fr se : Int) (ts : List Tch) : Decidable (rightAll fr se ts) := by unfold rightAll; exact inferInstance
def overP (g : Int × Int → Int) (now : List Pr) : Int × Int → Int := fun q => (lookK q now).getD (g q)
def applyF (F : Fl) (ts : List Tch) : Fl :=
 if rightAll F.fr F.se ts then { F with sets := (keepAll F.most F.g ts F.sets).1, g := if (keepAll F.most F.g ts F.sets).2.2 = 0 then overP F.g (keepAll F.most F.g ts F.sets).2.1 else F.g } else F
theorem overP_nil (g : Int × Int → Int) : overP g [] = g := by funext q; simp [overP, lookK_nil]
theorem overP_upd (g : Int × Int → Int) (now : List Pr) (p : Int × Int) (set : Int) : overP g (upd p set now) = putP (overP g now) p set := by
 funext q
 unfold overP putP
 rw [lookK_upd]
 by_cases h : q = p <;> simp [h]
def putStep (g : Int × Int → Int) (l : List Pr) (t : Tch) : List Pr := if t.1 = (0, 0) then l else refPut t.1 (joinP g t.2) l
def putAll (g : Int × Int → Int) (ts : List Tch) (l : List Pr) : List Pr := ts.foldl (putStep g) l
def refApply (R : Rf) (ts : List Tch) : Rf :=
 if rightAll R.fr R.se ts then { R with sets := (keepAll R.most (lookPr R.pairs) ts R.sets).1, pairs := if (keepAll R.most (lookPr R.pairs) ts R.sets).2.2 = 0 then putAll (lookPr R.pairs) ts R.pairs else R.pairs } else R
theorem look_putAll (most : Int) (g : Int × Int → Int) (ts : List Tch) (sets : List Int) (l : List Pr) (hl : ∀ q, lookPr l q = g q) (h0 : (keepAll most g ts sets).2.2 = 0) (q : Int × Int) :
  lookPr (putAll g ts l) q = overP g (keepAll most g ts sets).2.1 q := by
 have : ∀ (ts us : List Tch) (l : List Pr), (keepAll most g (us ++ ts) sets).2.2 = 0 → (∀ q, lookPr l q = overP g (keepAll most g us sets).2.1 q) →
   ∀ q, lookPr (ts.foldl (putStep g) l) q = overP g (keepAll most g (us ++ ts) sets).2.1 q := by
  intro ts
  induction ts with
  | nil => intro us l h0 hl q; simpa using hl q
  | cons t ts ih =>
   intro us l h0 hl q
   have e : us ++ t :: ts = (us ++ [t]) ++ ts := by simp
   rw [e] at h0 ⊢
   have h1 : (keepAll most g (us ++ [t]) sets).2.2 = 0 := by
    by_cases hb : (keepAll most g (us ++ [t]) sets).2.2 = 0
    ·exact hb
    ·exfalso; rw [keepAll_bad hb] at h0; exact hb h0
   have h2 : (keepAll most g us sets).2.2 = 0 := by
    by_cases hb : (keepAll most g us sets).2.2 = 0
    ·exact hb
    ·exfalso; rw [keepAll_bad hb] at h1; exact hb h1
   rw [List.foldl_cons]
   refine ih (us ++ [t]) _ h0 (fun q => ?_) q
   rw [keepAll_snoc]
   rw [keepAll_snoc] at h1
   unfold keepStep at h1 ⊢
   unfold putStep
   by_cases ht : t.1 = (0, 0)
   ·rw [if_pos ht, if_pos (.inr ht)]; exact hl q
   ·have hn : ¬ ((keepAll most g us sets).2.2 ≠ 0 ∨ t.1 = (0, 0)) := by rintro (h | h); exact h h2; exact ht h
    rw [if_neg hn] at h1 ⊢
    rw [if_neg ht]
    by_cases hk : keepE most (keepAll most g us sets).1 (joinP g t.2) ≠ 0
    ·rw [if_pos hk] at h1; exact absurd h1 hk
    ·rw [if_neg hk]
     simp only []
     rw [overP_upd, look_refPut]
     unfold putP
     rw [hl q]
 exact this ts [] l h0 (fun q => by rw [show (keepAll most g [] sets).2.1 = [] from rfl, overP_nil]; exact hl q) q
theorem RelF.g {F : Fl} {R : Rf} (h : RelF F R) : lookPr R.pairs = F.g := funext h.look
theorem RelF.apply {F : Fl} {R : Rf} (h : RelF F R) (ts : List Tch) : RelF (applyF F ts) (refApply R ts) := by
 unfold applyF refApply
 rw [h.fr, h.se, h.most, h.sets, h.g]
 by_cases hr : rightAll F.fr F.se ts
 ·rw [if_pos hr, if_pos hr]
  refine ⟨rfl, rfl, rfl, rfl, fun q => ?_⟩
  simp only []
  by_cases h0 : (keepAll F.most F.g ts F.sets).2.2 = 0
  ·rw [if_pos h0, if_pos h0]
   exact look_putAll F.most F.g ts F.sets R.pairs h.look h0 q
  ·rw [if_neg h0, if_neg h0]; exact h.look q
 ·rw [if_neg hr, if_neg hr]; exact h
end Go.Proofs.YtfcfkhbkkfpehaaGreatDoor
end
section
/- Arguments that came in, opened: slices of structs as lists. -/
namespace Go.X
open Go Go.RowKit Go.ChangeShapes Go.WideShapes
theorem list_of {α : Type} {n : Nat} {Q : Nat → α → Prop} (h : ∀ i, i < n → ∃ x, Q i x) : ∃ l : List α, l.length = n ∧ ∀ (i : Nat) (x : α), l[i]? = some x → Q i x := by
 induction n with
 | zero => exact ⟨[], rfl, by simp⟩
 | succ n ih =>
  obtain ⟨l, hl, hq⟩ := ih (fun i hi => h i (by omega))
  obtain ⟨x, hx⟩ := h n (by omega)
  refine ⟨l ++ [x], by simp [hl], fun i y hy => ?_⟩
  by_cases hi : i < l.length
  ·rw [List.getElem?_append_left hi] at hy; exact hq i y hy
  ·rw [List.getElem?_append_right (by omega)] at hy
   have hi' : i - l.length = 0 := by
    have := (List.getElem?_eq_some_iff.1 hy).1
    simp at this; omega
   rw [hi'] at hy; simp at hy; subst hy
   have : i = n := by omega
   rw [this]; exact hx
section
variable {H : Type} {enc : TypeId × Value → H} {P : Program} {w : World} {base : Nat} {spare : Nat → Bool} {held : Bool}
theorem cellsAt_cells? {a : Addr} {n : Nat} {cs : List Value} (h : w.cells? base a n = some cs) : CellsAt w a 0 cs ∧ cs.length = n := by
 obtain ⟨_, h2, h3⟩ := World.cells?_some h
 refine ⟨?_, h2⟩
 have : ∀ (l : List Value) (i : Nat), (∀ k v, l[k]? = some v → w.cell? (a.add (i + k)) = some v) → CellsAt w a i l := by
  intro l
  induction l with
  | nil => intro i _; trivial
  | cons v l ih => intro i h; exact ⟨by simpa using h 0 v rfl, ih (i + 1) (fun k u hu => by rw [show i + 1 + k = i + (k + 1) by omega]; exact h (k + 1) u (by simpa using hu))⟩
 refine this cs 0 fun k v hk => ?_
 have hlt : k < n := by rw [← h2]; exact (List.getElem?_eq_some_iff.1 hk).1
 rw [Nat.zero_add, h3 k hlt, hk]
theorem open_slice {t e : TypeId} {fuel : Nat} {cs : List Value} {x : DataW H × List MemPlace} (ht : P.underlying t = some (.slice e)) (h : DataW.trod enc P w base spare held fuel t cs = some x) :
  ∃ (p : Option Addr) (len cap : Nat), cs = [.slice p len cap] ∧ len ≤ maxLen ∧ ∀ i, i < len → ∃ (a : Addr) (cs' : List Value) (n : Nat) (y : DataW H × List MemPlace), p = some a ∧ CellsAt w (a.add (i * P.cellsOf e)) 0 cs' ∧ cs'.length = P.cellsOf e ∧ DataW.trod enc P w base spare held n e cs' = some y := by
 rcases DataW.trod_slice ht h with ⟨h0, _⟩ | ⟨a, len, cap, elems, rest, n, _, rfl, rfl, hb, hl, hm, hlen, hel, _, _⟩
 ·exact ⟨none, 0, 0, h0, by simp [maxLen], fun i hi => absurd hi (by omega)⟩
 ·refine ⟨some a, len, cap, rfl, by omega, fun i hi => ?_⟩
  have h1 := hel i hi
  rw [List.getElem?_eq_getElem (by omega)] at h1
  obtain ⟨cs', hcs, hy⟩ := Option.bind_eq_some_iff.1 h1
  obtain ⟨k1, k2⟩ := cellsAt_cells? hcs
  exact ⟨a, cs', n, _, rfl, k1, k2, hy⟩
theorem wf_i64 {n : Int} (h : (Lit.int .i64 n).wf = true) : -9223372036854775808 ≤ n ∧ n ≤ 9223372036854775807 := by
 simp [Lit.wf, IntKind.min, IntKind.max, IntKind.bits, IntKind.signed] at h
 omega
theorem all_below (hl : laidOutB P = true) {W W' : World} (hb : Below W.heap.size W W') : ∀ (ts : List TypeId) (vs : List Value) (ds : List (DataW H)) (ps : List MemPlace), (∀ t ∈ ts, P.readableRec t = true ∧ t < P.types.size) →
  DataW.TrodAll enc P W 0 (fun _ => true) true ts vs ds ps → (∀ x ∈ ps, x.block < W.heap.size) → DataW.TrodAll enc P W' 0 (fun b => decide (b < W.heap.size)) true ts vs ds ps
 | [], [], [], ps, _, h, _ => h
 | t :: ts, v :: vs, d :: ds, ps, ht, h, hlt => by
  obtain ⟨p, q, h1, h2, rfl⟩ := h
  exact ⟨p, q, Below.trod hl (ht t (.head _)).1 (ht t (.head _)).2 h1 hb (fun x hx => hlt x (List.mem_append.2 (.inl hx))), all_below hl hb ts vs ds q (fun t h => ht t (.tail _ h)) h2 (fun x hx => hlt x (List.mem_append.2 (.inr hx))), rfl⟩
 | [], [], _ :: _, _, _, h, _ => h.elim
 | [], _ :: _, _, _, _, h, _ => h.elim
 | _ :: _, [], _, _, _, h, _ => h.elim
 | _ :: _, _ :: _, [], _, _, h, _ => h.elim
end
end Go.X
end
section
/- Arguments that came in, opened: places, touches, marks. -/
namespace Go.Proofs.YtfcfkhbkkfpehaaGreatDoor
open Go Go.RowKit Go.X
theorem len1 {α : Type} {l : List α} (h : l.length = 1) : ∃ a, l = [a] := by
 cases l with
 | nil => simp at h
 | cons a l => exact ⟨a, by rw [List.eq_nil_of_length_eq_zero (l := l) (by simpa using h)]⟩
theorem len2 {α : Type} {l : List α} (h : l.length = 2) : ∃ a b, l = [a, b] := by
 cases l with
 | nil => simp at h
 | cons a l => obtain ⟨b, rfl⟩ := len1 (l := l) (by simpa using h); exact ⟨a, b, rfl⟩
theorem len3 {α : Type} {l : List α} (h : l.length = 3) : ∃ a b c, l = [a, b, c] := by
 cases l with
 | nil => simp at h
 | cons a l => obtain ⟨b, c, rfl⟩ := len2 (l := l) (by simpa using h); exact ⟨a, b, c, rfl⟩
section
variable {H : Type} {enc : TypeId × Value → H} {w : World} {base : Nat} {spare : Nat → Bool} {held : Bool} {fuel : Nat} {x : DataW H × List MemPlace} {cs : List Value}
theorem cells56 : Tryz.prog.cellsOf 25 = 2 := by kernel_rfl
theorem cells81 : Tryz.prog.cellsOf 36 = 3 := by kernel_rfl
theorem cells3 : Tryz.prog.cellsOf 3 = 1 := by kernel_rfl
theorem cells54 : Tryz.prog.cellsOf 23 = 1 := by kernel_rfl
theorem cells47 : Tryz.prog.cellsOf 34 = 1 := by kernel_rfl
theorem un54 : Tryz.prog.underlying 23 = some (.int .i64) := by kernel_rfl
theorem un3 : Tryz.prog.underlying 3 = some (.int .i64) := by kernel_rfl
theorem open_place (h : DataW.trod enc Tryz.prog w base spare held fuel 25 cs = some x) : ∃ p : Int × Int, cs = [.int .i64 p.1, .int .i64 p.2] ∧ i64s p.1 ∧ i64s p.2 := by
 obtain ⟨xs, n, _, _, hl, hlen, hf⟩ := DataW.trod_struct Tryz.underlying25 h
 have h0 : DataW.trod enc Tryz.prog w base spare held n 23 ((cs.drop 0).take (Tryz.prog.cellsOf 23)) = xs[0]? := hf 0 _ rfl
 have h1 : DataW.trod enc Tryz.prog w base spare held n 3 ((cs.drop 1).take (Tryz.prog.cellsOf 3)) = xs[1]? := hf 1 _ rfl
 simp only [cells54, cells3] at h0 h1
 rw [cells56] at hl
 rw [List.getElem?_eq_getElem (by rw [hlen]; decide)] at h0 h1
 obtain ⟨a, e0, _, w0⟩ := DataW.trod_int un54 h0
 obtain ⟨b, e1, _, w1⟩ := DataW.trod_int un3 h1
 obtain ⟨c0, c1, rfl⟩ := len2 hl
 simp at e0 e1
 subst e0 e1
 exact ⟨(a, b), rfl, wf_i64 w0, wf_i64 w1⟩
def oldS (w : World) (i : Nat) : Prop := i < w.heap.size
theorem cellsAt_lt {a : Addr} {i : Nat} {c : Value} {cs : List Value} (h : CellsAt w a i (c :: cs)) : a.block < w.heap.size := by
 have := World.block_lt_of_cell? w _ h.1
 rwa [add_block] at this
theorem open_places (h : DataW.trod enc Tryz.prog w base spare held fuel 34 cs = some x) : ∃ p n c ps, cs = [.slice p n c] ∧ n ≤ maxLen ∧ PlacesAt w (oldS w) p n ps := by
 obtain ⟨p, n, c, rfl, hn, hel⟩ := open_slice Tryz.underlying34 h
 obtain ⟨l, hl, hq⟩ := list_of (Q := fun j (x : Int × Int) => i64s x.1 ∧ i64s x.2 ∧ ∃ a, p = some a ∧ oldS w a.block ∧ CellsAt w (a.add (j * 2)) 0 [.int .i64 x.1, .int .i64 x.2]) (n := n) (fun i hi => by
  obtain ⟨a, cs', m, y, ha, hc, _, hy⟩ := hel i hi
  obtain ⟨q, rfl, k1, k2⟩ := open_place hy
  rw [cells56] at hc
  exact ⟨q, k1, k2, a, ha, by have := cellsAt_lt hc; rwa [add_block] at this, hc⟩)
 exact ⟨p, n, c, l, rfl, hn, hl, hq⟩
theorem open_touch (h : DataW.trod enc Tryz.prog w base spare held fuel 36 cs = some x) : ∃ (t : Tch) (q : Option Addr) (qn qc : Nat), cs = [.int .i64 t.1.1, .int .i64 t.1.2, .slice q qn qc] ∧ i64s t.1.1 ∧ i64s t.1.2 ∧ qn ≤ maxLen ∧ PlacesAt w (oldS w) q qn t.2 := by
 obtain ⟨xs, n, _, _, hl, hlen, hf⟩ := DataW.trod_struct Tryz.underlying36 h
 have h0 : DataW.trod enc Tryz.prog w base spare held n 25 ((cs.drop 0).take (Tryz.prog.cellsOf 25)) = xs[0]? := hf 0 _ rfl
 have h1 : DataW.trod enc Tryz.prog w base spare held n 34 ((cs.drop 2).take (Tryz.prog.cellsOf 34)) = xs[1]? := hf 1 _ rfl
 simp only [cells56, cells47] at h0 h1
 rw [cells81] at hl
 rw [List.getElem?_eq_getElem (by rw [hlen]; decide)] at h0 h1
 obtain ⟨p, e0, k1, k2⟩ := open_place h0
 obtain ⟨q, qn, qc, ps, e1, hq, hps⟩ := open_places h1
 obtain ⟨c0, c1, c2, rfl⟩ := len3 hl
 simp at e0 e1
 obtain ⟨rfl, rfl⟩ := e0
 subst e1
 exact ⟨(p, ps), q, qn, qc, rfl, k1, k2, hq, hps⟩
theorem open_touches (h : DataW.trod enc Tryz.prog w base spare held fuel 75 cs = some x) : ∃ p n c ts, cs = [.slice p n c] ∧ n ≤ maxLen ∧ TouchesAt w (oldS w) p n ts ∧ ∀ t ∈ ts, t.2.length ≤ maxLen := by
 obtain ⟨p, n, c, rfl, hn, hel⟩ := open_slice Tryz.underlying75 h
 obtain ⟨l, hl, hq⟩ := list_of (Q := fun j (t : Tch) => (i64s t.1.1 ∧ i64s t.1.2 ∧ ∃ a q qn qc, p = some a ∧ oldS w a.block ∧ CellsAt w (a.add (j * 3)) 0 [.int .i64 t.1.1, .int .i64 t.1.2, .slice q qn qc] ∧ PlacesAt w (oldS w) q qn t.2) ∧ t.2.length ≤ maxLen) (n := n) (fun i hi => by
  obtain ⟨a, cs', m, y, ha, hc, _, hy⟩ := hel i hi
  obtain ⟨t, q, qn, qc, rfl, k1, k2, k3, k4⟩ := open_touch hy
  rw [cells81] at hc
  exact ⟨t, ⟨k1, k2, a, q, qn, qc, ha, by have := cellsAt_lt hc; rwa [add_block] at this, hc, k4⟩, by rw [k4.length]; exact k3⟩)
 refine ⟨p, n, c, l, rfl, hn, ⟨hl, fun j t ht => (hq j t ht).1⟩, fun t ht => ?_⟩
 obtain ⟨j, hj⟩ := List.getElem?_of_mem ht
 exact (hq j t hj).2
structure MarksAt (w : World) (S : Nat → Prop) (p : Option Addr) (n : Nat) (ms : List Pr) : Prop where
 length : ms.length = n
 each : ∀ (j : Nat) (x : Pr), ms[j]? = some x → i64s x.1.2 ∧ 0 ≤ x.2 ∧ x.2 < 4294967296 ∧ ∃ a, p = some a ∧ S a.block ∧ CellsAt w (a.add (j * 3)) 0 [.int .i64 x.1.1, .int .i64 x.1.2, .int .u32 x.2]
theorem MarksAt.chg {w w' : World} {S : Nat → Prop} {p : Option Addr} {n : Nat} {ps : List Pr} {f : List Nat} (h : MarksAt w S p n ps) (hc : Chg f w w') (hf : ∀ i ∈ f, ¬ S i) : MarksAt w' S p n ps :=
 ⟨h.length, fun j x hx => let ⟨h1, h2, h3, a, h4, h5, h6⟩ := h.each j x hx; ⟨h1, h2, h3, a, h4, h5, hc.cells (by rw [add_block]; exact fun hm => hf _ hm h5) h6⟩⟩
end
end Go.Proofs.YtfcfkhbkkfpehaaGreatDoor
end
section
/- Policies: New, none, Strict, Stops; the laws' helpers known, broad, made. -/
namespace Go.Proofs.YtfcfkhbkkfpehaaGreatDoor
open Go Go.RowKit Go.X
end Go.Proofs.YtfcfkhbkkfpehaaGreatDoor
end
section
namespace Go.Proofs.YtfcfkhbkkfpehaaGreatDoor
open Go Go.X
end Go.Proofs.YtfcfkhbkkfpehaaGreatDoor
end
section
/- Flows: Apply. -/
namespace Go.Proofs.YtfcfkhbkkfpehaaGreatDoor
open Go Go.RowKit Go.X
end Go.Proofs.YtfcfkhbkkfpehaaGreatDoor
end
section
/- The laws' helpers: broad, made. -/
namespace Go.Proofs.YtfcfkhbkkfpehaaGreatDoor
open Go Go.RowKit Go.X
def broadP (m : Nat) (ts : List Tch) : Prop := 30 < m ∨ 20 < ts.length ∨ ∃ t ∈ ts, 20 < t.2.length
instance (m : Nat) (ts : List Tch) : Decidable (broadP m ts) := by unfold broadP; exact inferInstance
end Go.Proofs.YtfcfkhbkkfpehaaGreatDoor
end
