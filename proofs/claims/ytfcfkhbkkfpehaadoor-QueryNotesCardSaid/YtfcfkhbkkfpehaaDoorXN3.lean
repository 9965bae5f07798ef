/- Texts of the claim, merged: XQ2 XQ4 XKnown14 XMade14 XPlain14 XQ3 XRefQ1 XBytes14 XHnotes XNotesW XNotesW2 XRef1. -/
import Derived.Test.YtfcfkhbkkfpehaaDoorXN2
import Derived.Test.YtfcfkhbkkfpehaaDoorProg
set_option linter.unusedSimpArgs false
set_option linter.unusedVariables false
section
namespace Go.Proofs.YtfcfkhbkkfpehaaDoor
open Go Go.X
/- pomander/pomanderlaw14.known -/
def W_pomanderlaw14_known  (w : World) (R : Bool → World → Prop) : Prop :=
 Calls Tryd.prog 8 #[] w fun e w1 => ∃ (r2 : Option Addr), e = .returned (.pointer r2) ∧ (∀ (b3 b2 b1 : Nat) (w7 : World), (w1.heap.size ≤ b3 ∧ b3 < w7.heap.size) → (w1.heap.size ≤ b2 ∧ b2 < w7.heap.size) → (w1.heap.size ≤ b1 ∧ b1 < w7.heap.size) → Chg [] w1 w7 → (∀ b4 : Nat, b4 = World.size w7 → ∀ w8 : World, w8 = World.alloc w7 (.cells #[.int .i64 13, .int .i64 0] 27) → (∀ b5 : Nat, b5 = World.size w8 → ∀ w9 : World, w9 = World.alloc w8 (.cells #[.int .i64 1, .int .i64 1, .slice (some (⟨b4, 0, none⟩ : Addr)) 1 1] 33) → (Calls Tryd.prog 9 #[.pointer r2, .int .i64 1, .slice (some (⟨b5, 0, none⟩ : Addr)) 1 1] w9 fun e w10 => ∃ (r3 : Int), e = .returned (.int .i64 r3) ∧ (Same w9 w10 [b3, b2, b1] ∧ (∀ b6 : Nat, b6 = World.size w10 → ∀ w11 : World, w11 = World.alloc w10 (.cells #[.int .i64 1, .int .i64 1] 27) → (∀ b7 : Nat, b7 = World.size w11 → ∀ w12 : World, w12 = World.alloc w11 (.cells #[.int .i64 10, .int .i64 5, .slice (some (⟨b6, 0, none⟩ : Addr)) 1 1] 33) → (Calls Tryd.prog 9 #[.pointer r2, .int .i64 2, .slice (some (⟨b7, 0, none⟩ : Addr)) 1 1] w12 fun e w13 => ∃ (r4 : Int), e = .returned (.int .i64 r4) ∧ (Same w12 w13 [b3, b1] ∧ (Calls Tryd.prog 10 #[.pointer r2, .agg #[.int .i64 10, .int .i64 5], .int .i64 9] w13 fun e w14 => ∃ (r5 : Option Addr) (r5n : Nat) (r5c : Nat), e = .returned (.slice r5 r5n r5c) ∧ (Same w13 w14 [b3, b1] ∧ (∀ (w15 : World), Chg [] w14 w15 → (∃ J1 : Bool → World → Prop, (∀ (b8 : Bool) (w16 : World), J1 b8 w16 → ∃ J2 : Bool → World → Prop, (∀ (b9 : Bool) (w17 : World), J2 b9 w17 → R b9 w17) ∧ ((b8 = true → Calls Tryd.prog 19 #[.agg #[.int .i64 10, .int .i64 5]] w16 fun e w18 => ∃ (r6 : ByteArray), e = .returned (.string r6) ∧ (∃ (t3 : Bool), (∀ w : World, ((do eqGuard .eql 9 (.tmp 49) (.const (.string ⟨#[109, 101, 109, 32, 53]⟩)) (.string r6) (.string ⟨#[109, 101, 109, 32, 53]⟩); binOp .eql 9 (.string r6) (.string ⟨#[109, 101, 109, 32, 53]⟩) : Sem Value)).run Tryd.prog w = .ok (.bool t3) w) ∧ (J2 t3 w18))) ∧ (b8 = false → J2 false w16))) ∧ ((((r3 == 0 && r4 == 0) && (r5n : Int) == 1) = true → ∃ a1 : Addr, r5 = some a1 ∧ (0 : Int) ≤ 0 ∧ 0 < (r5n : Int) ∧ (∃ (t1 : Int) (t2 : Int), CellsAt w15 (a1.add (Int.toNat 0 * 2)) 0 [.int .i64 t1, .int .i64 t2] ∧ (J1 ((t1 == 13) && (t2 == 0)) w15))) ∧ (((r3 == 0 && r4 == 0) && (r5n : Int) == 1) = false → J1 false w15)))))))))))))))
set_option maxRecDepth 100000 in
theorem go_pomanderlaw14_known  (w : World) (R : Bool → World → Prop) (h : W_pomanderlaw14_known  w R) : Calls Tryd.prog 7 #[] w (fun e w' => ∃ (r1 : Bool), e = .returned (.bool r1) ∧ R r1 w') := by
 unfold W_pomanderlaw14_known at h
 refine enter (N := 52) Tryd.func7 rfl rfl ?_
 refine CW.seq ?_
 refine CW.region fun L hL => ?_
 refine LW.rd hL rfl (Wants.free rfl) rfl (Rd.assign (v := .bool false) rfl) ?_
 refine LW.nil hL rfl ?_
 refine NW.then ?_
 refine CW.seq ?_
 refine CW.region fun L hL => ?_
 refine LW.call hL rfl (Wants.free rfl) rfl (Cl.fn (f := 8) rfl Tryd.func8 (by kernel_rfl) rfl) h (fun e w1 h_ => ?_)
 clear h
 obtain ⟨r2, rfl, h⟩ := h_
 refine ⟨_, rfl, ?_⟩
 refine LW.rd hL rfl (Wants.free rfl) rfl (Rd.assign (v := .pointer r2) rfl) ?_
 refine LW.nil hL rfl ?_
 refine NW.then ?_
 refine CW.seq ?_
 refine CW.region fun L hL => ?_
 refine LW.rd hL rfl (Wants.free rfl) rfl (Rd.build (v := .agg #[.int .i64 13, .int .i64 0]) rfl (fun _ => by kernel_rfl)) ?_
 refine LW.rd hL rfl (Wants.free rfl) rfl (Rd.build (v := .agg #[.int .i64 1, .int .i64 1]) rfl (fun _ => by kernel_rfl)) ?_
 refine LW.rd hL rfl (Wants.free rfl) rfl (Rd.build (v := .agg #[.int .i64 10, .int .i64 5]) rfl (fun _ => by kernel_rfl)) ?_
 obtain ⟨b1, hb_b1⟩ : ∃ b1, b1 = World.size w1 := ⟨_, rfl⟩
 obtain ⟨w2, hw_w2⟩ : ∃ w2, w2 = World.alloc w1 (.cells #[.int .i64 0, .int .i64 0] 27) := ⟨_, rfl⟩
 refine LW.val hL rfl (Wants.free rfl) rfl (boxE hb_b1 hw_w2 (Vl.alloc (z := .agg #[.int .i64 0, .int .i64 0]) (by kernel_rfl))) ?_
 have hB := Boxes.alloc (cs := [.int .i64 0, .int .i64 0]) (T := 27) (Boxes.nil w1) hb_b1 hw_w2
 have hlo_b1 := sil_lo (Chg.refl [] w1) hb_b1
 have hc_w2 := sil_alloc (Chg.refl [] w1) hw_w2
 obtain ⟨b2, hb_b2⟩ : ∃ b2, b2 = World.size w2 := ⟨_, rfl⟩
 obtain ⟨w3, hw_w3⟩ : ∃ w3, w3 = World.alloc w2 (.cells #[.int .i64 0, .int .i64 0] 27) := ⟨_, rfl⟩
 refine LW.val hL rfl (Wants.free rfl) rfl (boxE hb_b2 hw_w3 (Vl.alloc (z := .agg #[.int .i64 0, .int .i64 0]) (by kernel_rfl))) ?_
 replace hB := Boxes.alloc (cs := [.int .i64 0, .int .i64 0]) (T := 27) hB hb_b2 hw_w3
 have hlo_b2 := sil_lo hc_w2 hb_b2
 have hc_w3 := sil_alloc hc_w2 hw_w3
 obtain ⟨b3, hb_b3⟩ : ∃ b3, b3 = World.size w3 := ⟨_, rfl⟩
 obtain ⟨w4, hw_w4⟩ : ∃ w4, w4 = World.alloc w3 (.cells #[.int .i64 0, .int .i64 0] 27) := ⟨_, rfl⟩
 refine LW.val hL rfl (Wants.free rfl) rfl (boxE hb_b3 hw_w4 (Vl.alloc (z := .agg #[.int .i64 0, .int .i64 0]) (by kernel_rfl))) ?_
 replace hB := Boxes.alloc (cs := [.int .i64 0, .int .i64 0]) (T := 27) hB hb_b3 hw_w4
 have hlo_b3 := sil_lo hc_w3 hb_b3
 have hc_w4 := sil_alloc hc_w3 hw_w4
 obtain ⟨w5, hw_w5⟩ : ∃ x, x = setCells w4 (⟨b1, 0, none⟩ : Addr) 0 [.int .i64 13, .int .i64 0] := ⟨_, rfl⟩
 refine LW.eff hL rfl (Wants.free rfl) rfl (stNE hw_w5 (Ef.stN (cs := [.int .i64 13, .int .i64 0]) rfl rfl (by kernel_rfl) (List.forall_mem_cons.2 ⟨rfl, (List.forall_mem_cons.2 ⟨rfl, (List.forall_mem_nil _)⟩)⟩) (has_of (hB.at (i := 2) rfl) (by simp)) (free_of' (hB.at (i := 2) rfl)))) ?_
 replace hB : Boxes w5 [(b3, [.int .i64 0, .int .i64 0], 27), (b2, [.int .i64 0, .int .i64 0], 27), (b1, [.int .i64 13, .int .i64 0], 27)] := Boxes.store (vs := [.int .i64 13, .int .i64 0]) (i := 2) (o := 0) hB rfl rfl rfl rfl hw_w5
 have hc_w5 := sil_new hc_w4 (sil_cN hw_w5) hlo_b1
 obtain ⟨w6, hw_w6⟩ : ∃ x, x = setCells w5 (⟨b2, 0, none⟩ : Addr) 0 [.int .i64 1, .int .i64 1] := ⟨_, rfl⟩
 refine LW.eff hL rfl (Wants.free rfl) rfl (stNE hw_w6 (Ef.stN (cs := [.int .i64 1, .int .i64 1]) rfl rfl (by kernel_rfl) (List.forall_mem_cons.2 ⟨rfl, (List.forall_mem_cons.2 ⟨rfl, (List.forall_mem_nil _)⟩)⟩) (has_of (hB.at (i := 1) rfl) (by simp)) (free_of' (hB.at (i := 1) rfl)))) ?_
 replace hB : Boxes w6 [(b3, [.int .i64 0, .int .i64 0], 27), (b2, [.int .i64 1, .int .i64 1], 27), (b1, [.int .i64 13, .int .i64 0], 27)] := Boxes.store (vs := [.int .i64 1, .int .i64 1]) (i := 1) (o := 0) hB rfl rfl rfl rfl hw_w6
 have hc_w6 := sil_new hc_w5 (sil_cN hw_w6) hlo_b2
 obtain ⟨w7, hw_w7⟩ : ∃ x, x = setCells w6 (⟨b3, 0, none⟩ : Addr) 0 [.int .i64 10, .int .i64 5] := ⟨_, rfl⟩
 refine LW.eff hL rfl (Wants.free rfl) rfl (stNE hw_w7 (Ef.stN (cs := [.int .i64 10, .int .i64 5]) rfl rfl (by kernel_rfl) (List.forall_mem_cons.2 ⟨rfl, (List.forall_mem_cons.2 ⟨rfl, (List.forall_mem_nil _)⟩)⟩) (has_of (hB.at (i := 0) rfl) (by simp)) (free_of' (hB.at (i := 0) rfl)))) ?_
 replace hB : Boxes w7 [(b3, [.int .i64 10, .int .i64 5], 27), (b2, [.int .i64 1, .int .i64 1], 27), (b1, [.int .i64 13, .int .i64 0], 27)] := Boxes.store (vs := [.int .i64 10, .int .i64 5]) (i := 0) (o := 0) hB rfl rfl rfl rfl hw_w7
 have hc_w7 := sil_new hc_w6 (sil_cN hw_w7) hlo_b3
 refine LW.nil hL rfl ?_
 refine NW.then ?_
 refine CW.seq ?_
 refine CW.region fun L hL => ?_
 refine LW.rd hL rfl (Wants.free rfl) rfl (Rd.move (v := .pointer r2) rfl) ?_
 refine LW.rd hL rfl (Wants.free rfl) rfl (Rd.ldN (cs := [.int .i64 1, .int .i64 1]) rfl (by kernel_rfl) (by kernel_rfl) (cellsS (box_cells (hB.at (i := 1) rfl) rfl))) ?_
 refine LW.rd hL rfl (Wants.free rfl) rfl (Rd.ldN (cs := [.int .i64 13, .int .i64 0]) rfl (by kernel_rfl) (by kernel_rfl) (cellsS (box_cells (hB.at (i := 2) rfl) rfl))) ?_
 replace h := h b3 b2 b1 w7 ⟨hlo_b3, lt_of_heap (hB.at (i := 0) rfl)⟩ ⟨hlo_b2, lt_of_heap (hB.at (i := 1) rfl)⟩ ⟨hlo_b1, lt_of_heap (hB.at (i := 2) rfl)⟩ hc_w7
 obtain ⟨b4, hb_b4⟩ : ∃ b4, b4 = World.size w7 := ⟨_, rfl⟩
 obtain ⟨w8, hw_w8⟩ : ∃ w8, w8 = World.alloc w7 (.cells #[.int .i64 13, .int .i64 0] 27) := ⟨_, rfl⟩
 replace h := h b4 hb_b4 w8 hw_w8
 refine LW.val hL rfl (Wants.free rfl) rfl (sliceE (n := 1) hb_b4 hw_w8 (fun w => Vl.buildSlice (vs := [(0, .agg #[.int .i64 13, .int .i64 0])]) rfl (by kernel_rfl))) ?_
 replace hB := hB.grow hw_w8
 refine LW.rd hL rfl (Wants.free rfl) rfl (Rd.build (v := .agg #[.int .i64 1, .int .i64 1, .slice (some (⟨b4, 0, none⟩ : Addr)) 1 1]) rfl (fun _ => by kernel_rfl)) ?_
 obtain ⟨b5, hb_b5⟩ : ∃ b5, b5 = World.size w8 := ⟨_, rfl⟩
 obtain ⟨w9, hw_w9⟩ : ∃ w9, w9 = World.alloc w8 (.cells #[.int .i64 1, .int .i64 1, .slice (some (⟨b4, 0, none⟩ : Addr)) 1 1] 33) := ⟨_, rfl⟩
 replace h := h b5 hb_b5 w9 hw_w9
 refine LW.val hL rfl (Wants.free rfl) rfl (sliceE (n := 1) hb_b5 hw_w9 (fun w => Vl.buildSlice (vs := [(0, .agg #[.int .i64 1, .int .i64 1, .slice (some (⟨b4, 0, none⟩ : Addr)) 1 1])]) rfl (by kernel_rfl))) ?_
 replace hB := hB.grow hw_w9
 refine LW.call hL rfl (Wants.free rfl) rfl (Cl.fn (f := 9) rfl Tryd.func9 (by kernel_rfl) rfl) h (fun e w10 h_ => ?_)
 clear h
 obtain ⟨r3, rfl, h⟩ := h_
 obtain ⟨hsm1, h⟩ := h
 replace hB := Boxes.sameS hB hsm1 (by simp)
 refine ⟨_, rfl, ?_⟩
 refine LW.rd hL rfl (Wants.free rfl) rfl (Rd.assign (v := .int .i64 r3) rfl) ?_
 refine LW.nil hL rfl ?_
 refine NW.then ?_
 refine CW.seq ?_
 refine CW.region fun L hL => ?_
 refine LW.rd hL rfl (Wants.free rfl) rfl (Rd.move (v := .pointer r2) rfl) ?_
 refine LW.rd hL rfl (Wants.free rfl) rfl (Rd.ldN (cs := [.int .i64 10, .int .i64 5]) rfl (by kernel_rfl) (by kernel_rfl) (cellsS (box_cells (hB.at (i := 0) rfl) rfl))) ?_
 refine LW.rd hL rfl (Wants.free rfl) rfl (Rd.ldN (cs := [.int .i64 1, .int .i64 1]) rfl (by kernel_rfl) (by kernel_rfl) (cellsS (box_cells (hB.at (i := 1) rfl) rfl))) ?_
 obtain ⟨b6, hb_b6⟩ : ∃ b6, b6 = World.size w10 := ⟨_, rfl⟩
 obtain ⟨w11, hw_w11⟩ : ∃ w11, w11 = World.alloc w10 (.cells #[.int .i64 1, .int .i64 1] 27) := ⟨_, rfl⟩
 replace h := h b6 hb_b6 w11 hw_w11
 refine LW.val hL rfl (Wants.free rfl) rfl (sliceE (n := 1) hb_b6 hw_w11 (fun w => Vl.buildSlice (vs := [(0, .agg #[.int .i64 1, .int .i64 1])]) rfl (by kernel_rfl))) ?_
 replace hB := hB.grow hw_w11
 refine LW.rd hL rfl (Wants.free rfl) rfl (Rd.build (v := .agg #[.int .i64 10, .int .i64 5, .slice (some (⟨b6, 0, none⟩ : Addr)) 1 1]) rfl (fun _ => by kernel_rfl)) ?_
 obtain ⟨b7, hb_b7⟩ : ∃ b7, b7 = World.size w11 := ⟨_, rfl⟩
 obtain ⟨w12, hw_w12⟩ : ∃ w12, w12 = World.alloc w11 (.cells #[.int .i64 10, .int .i64 5, .slice (some (⟨b6, 0, none⟩ : Addr)) 1 1] 33) := ⟨_, rfl⟩
 replace h := h b7 hb_b7 w12 hw_w12
 refine LW.val hL rfl (Wants.free rfl) rfl (sliceE (n := 1) hb_b7 hw_w12 (fun w => Vl.buildSlice (vs := [(0, .agg #[.int .i64 10, .int .i64 5, .slice (some (⟨b6, 0, none⟩ : Addr)) 1 1])]) rfl (by kernel_rfl))) ?_
 replace hB := hB.grow hw_w12
 refine LW.call hL rfl (Wants.free rfl) rfl (Cl.fn (f := 9) rfl Tryd.func9 (by kernel_rfl) rfl) h (fun e w13 h_ => ?_)
 clear h
 obtain ⟨r4, rfl, h⟩ := h_
 obtain ⟨hsm2, h⟩ := h
 replace hB := Boxes.sameS (hB.sel [0, 2] (by decide) rfl) hsm2 (by simp)
 refine ⟨_, rfl, ?_⟩
 refine LW.rd hL rfl (Wants.free rfl) rfl (Rd.assign (v := .int .i64 r4) rfl) ?_
 refine LW.nil hL rfl ?_
 refine NW.then ?_
 refine CW.seq ?_
 refine CW.region fun L hL => ?_
 refine LW.rd hL rfl (Wants.free rfl) rfl (Rd.move (v := .pointer r2) rfl) ?_
 refine LW.rd hL rfl (Wants.free rfl) rfl (Rd.ldN (cs := [.int .i64 10, .int .i64 5]) rfl (by kernel_rfl) (by kernel_rfl) (cellsS (box_cells (hB.at (i := 0) rfl) rfl))) ?_
 refine LW.call hL rfl (Wants.free rfl) rfl (Cl.fn (f := 10) rfl Tryd.func10 (by kernel_rfl) rfl) h (fun e w14 h_ => ?_)
 clear h
 obtain ⟨r5, r5n, r5c, rfl, h⟩ := h_
 obtain ⟨hsm3, h⟩ := h
 replace hB := Boxes.sameS hB hsm3 (by simp)
 refine ⟨_, rfl, ?_⟩
 refine LW.rd hL rfl (Wants.free rfl) rfl (Rd.assign (v := .slice r5 r5n r5c) rfl) ?_
 refine LW.nil hL rfl ?_
 refine NW.then ?_
 refine CW.seq ?_
 obtain ⟨w15, hw_w15⟩ : ∃ x, x = World.drew w14 := ⟨_, rfl⟩
 have hc_w15 := sil_drew (Chg.refl [] w14) hw_w15
 replace hB := hB.drew hw_w15
 refine CW.drawn (fun w => w = w15) 20 (by kernel_rfl) fun H hH => ?_
 rw [← hw_w15]
 refine HW.pure (i := 0) hH rfl (by kernel_rfl) (Wants.free rfl) rfl (fun _ => rfl) (Rd.move (v := .int .i64 r3) rfl) ?_
 refine HW.pure (i := 1) hH rfl (by kernel_rfl) (Wants.free rfl) rfl (fun _ => rfl) (Rd.bin (v := .bool (r3 == 0)) rfl rfl (fun w => by kernel_rfl)) ?_
 refine HW.pure (i := 2) hH rfl (by kernel_rfl) (Wants.free rfl) rfl (fun _ => rfl) (Rd.move (v := .bool (r3 == 0)) rfl) ?_
 suffices K1 : H 18 #[true, true, true, true, true, true, false, false, false, false, false, false, false, false, false, false, false, false, false, false, false, false, false, false] [(0, .bool false), (2, .pointer (some (⟨b1, 0, none⟩ : Addr))), (4, .pointer (some (⟨b3, 0, none⟩ : Addr))), (7, .slice r5 r5n r5c), (34, .bool (r3 == 0 && r4 == 0))] w15 by
  rcases Bool.eq_false_or_eq_true (r3 == 0) with hb2 | hb2
  ·skip
   refine HW.pure (i := 3) hH rfl (by kernel_rfl) (Wants.on rfl rfl rfl rfl rfl hb2) rfl (fun _ => rfl) (Rd.move (v := .int .i64 r4) rfl) ?_
   refine HW.pure (i := 4) hH rfl (by kernel_rfl) (Wants.on rfl rfl rfl rfl rfl hb2) rfl (fun _ => rfl) (Rd.bin (v := .bool (r4 == 0)) rfl rfl (fun w => by kernel_rfl)) ?_
   refine HW.pure (i := 5) hH rfl (by kernel_rfl) (Wants.free rfl) rfl (fun _ => rfl) (Rd.pickT rfl hb2 rfl) ?_
   exact HW.sub hH (by exact ⟨rfl, rfl, rfl, rfl, (by rw [hb2]; rfl), trivial⟩) K1
  ·skip
   refine HW.skip (i := 3) hH rfl (by kernel_rfl) (Skips.on rfl rfl rfl rfl rfl hb2) rfl (fun _ => rfl) ?_
   refine HW.skip (i := 4) hH rfl (by kernel_rfl) (Skips.on rfl rfl rfl rfl rfl hb2) rfl (fun _ => rfl) ?_
   refine HW.pure (i := 5) hH rfl (by kernel_rfl) (Wants.free rfl) rfl (fun _ => rfl) (Rd.pickF rfl hb2 rfl) ?_
   exact HW.sub hH (by exact ⟨rfl, rfl, rfl, rfl, (by rw [hb2]; rfl), trivial⟩) K1
 refine HW.pure (i := 6) hH rfl (by kernel_rfl) (Wants.free rfl) rfl (fun _ => rfl) (Rd.move (v := .bool (r3 == 0 && r4 == 0)) rfl) ?_
 suffices K2 : H 13 #[true, true, true, true, true, true, true, true, true, true, true, false, false, false, false, false, false, false, false, false, false, false, false, false] [(0, .bool false), (2, .pointer (some (⟨b1, 0, none⟩ : Addr))), (4, .pointer (some (⟨b3, 0, none⟩ : Addr))), (7, .slice r5 r5n r5c), (39, .bool ((r3 == 0 && r4 == 0) && (r5n : Int) == 1))] w15 by
  rcases Bool.eq_false_or_eq_true (r3 == 0 && r4 == 0) with hb4 | hb4
  ·skip
   refine HW.pure (i := 7) hH rfl (by kernel_rfl) (Wants.on rfl rfl rfl rfl rfl hb4) rfl (fun _ => rfl) (Rd.move (v := .slice r5 r5n r5c) rfl) ?_
   refine HW.pure (i := 8) hH rfl (by kernel_rfl) (Wants.on rfl rfl rfl rfl rfl hb4) rfl (fun _ => rfl) (Rd.builtin (v := .int .i64 (r5n : Int)) rfl (fun _ _ => by kernel_rfl)) ?_
   refine HW.pure (i := 9) hH rfl (by kernel_rfl) (Wants.on rfl rfl rfl rfl rfl hb4) rfl (fun _ => rfl) (Rd.bin (v := .bool ((r5n : Int) == 1)) rfl rfl (fun w => by kernel_rfl)) ?_
   refine HW.pure (i := 10) hH rfl (by kernel_rfl) (Wants.free rfl) rfl (fun _ => rfl) (Rd.pickT rfl hb4 rfl) ?_
   exact HW.sub hH (by exact ⟨rfl, rfl, rfl, rfl, (by rw [hb4]; rfl), trivial⟩) K2
  ·skip
   refine HW.skip (i := 7) hH rfl (by kernel_rfl) (Skips.on rfl rfl rfl rfl rfl hb4) rfl (fun _ => rfl) ?_
   refine HW.skip (i := 8) hH rfl (by kernel_rfl) (Skips.on rfl rfl rfl rfl rfl hb4) rfl (fun _ => rfl) ?_
   refine HW.skip (i := 9) hH rfl (by kernel_rfl) (Skips.on rfl rfl rfl rfl rfl hb4) rfl (fun _ => rfl) ?_
   refine HW.pure (i := 10) hH rfl (by kernel_rfl) (Wants.free rfl) rfl (fun _ => rfl) (Rd.pickF rfl hb4 rfl) ?_
   exact HW.sub hH (by exact ⟨rfl, rfl, rfl, rfl, (by rw [hb4]; rfl), trivial⟩) K2
 refine HW.pure (i := 11) hH rfl (by kernel_rfl) (Wants.free rfl) rfl (fun _ => rfl) (Rd.move (v := .bool ((r3 == 0 && r4 == 0) && (r5n : Int) == 1)) rfl) ?_
 replace h := h  w15  hc_w15
 obtain ⟨J1, hJ1, h1_J1, h0_J1⟩ := h
 suffices K3 : ∀ (b8 : Bool) (w16 : World), (w16 = w15) → Boxes w16 [(b3, [.int .i64 10, .int .i64 5], 27)] → J1 b8 w16 → H 6 #[true, true, true, true, true, true, true, true, true, true, true, true, true, true, true, true, true, true, false, false, false, false, false, false] [(0, .bool false), (4, .pointer (some (⟨b3, 0, none⟩ : Addr))), (46, .bool b8)] w16 by
  rcases Bool.eq_false_or_eq_true ((r3 == 0 && r4 == 0) && (r5n : Int) == 1) with hb5 | hb5
  ·have h := h1_J1 hb5
   refine HW.pure (i := 12) hH rfl (by kernel_rfl) (Wants.on rfl rfl rfl rfl rfl hb5) rfl (fun _ => rfl) (Rd.move (v := .slice r5 r5n r5c) rfl) ?_
   obtain ⟨a1, he1, hi1, hi2, h⟩ := h
   refine HW.pure (i := 13) hH rfl (by kernel_rfl) (Wants.on rfl rfl rfl rfl rfl hb5) rfl (fun _ => rfl) (Rd.iaS (q := a1) (sz := 2) (by rw [← he1]; rfl) rfl Tryd.underlying22 (by kernel_rfl) hi1 hi2) ?_
   obtain ⟨t1, t2, hc1, h⟩ := h
   refine HW.take (i := 14) hH rfl (by kernel_rfl) (by kernel_rfl) (Wants.on rfl rfl rfl rfl rfl hb5) rfl (fun _ => rfl) (Rd.ldN (cs := [.int .i64 t1, .int .i64 t2]) rfl (by kernel_rfl) (by kernel_rfl) (cellsS hc1)) ?_
   refine HW.take (i := 15) hH rfl (by kernel_rfl) (by kernel_rfl) (Wants.on rfl rfl rfl rfl rfl hb5) rfl (fun _ => rfl) (Rd.ldN (cs := [.int .i64 13, .int .i64 0]) rfl (by kernel_rfl) (by kernel_rfl) (cellsS (box_cells (hB.at (i := 1) rfl) rfl))) ?_
   refine HW.pure (i := 16) hH rfl (by kernel_rfl) (Wants.on rfl rfl rfl rfl rfl hb5) rfl (fun _ => rfl) (Rd.bin (v := .bool ((t1 == 13) && (t2 == 0))) rfl rfl (fun w => eqS_27 _ _ _ _ w)) ?_
   refine HW.pure (i := 17) hH rfl (by kernel_rfl) (Wants.free rfl) rfl (fun _ => rfl) (Rd.pickT rfl hb5 rfl) ?_
   exact HW.sub hH (by exact ⟨rfl, rfl, rfl, trivial⟩) (K3 ((t1 == 13) && (t2 == 0)) w15 rfl (by exact (hB.sel [0] (by decide) rfl)) h)
  ·have h := h0_J1 hb5
   refine HW.skip (i := 12) hH rfl (by kernel_rfl) (Skips.on rfl rfl rfl rfl rfl hb5) rfl (fun _ => rfl) ?_
   refine HW.skip (i := 13) hH rfl (by kernel_rfl) (Skips.on rfl rfl rfl rfl rfl hb5) rfl (fun _ => rfl) ?_
   refine HW.skip (i := 14) hH rfl (by kernel_rfl) (Skips.on rfl rfl rfl rfl rfl hb5) rfl (fun _ => rfl) ?_
   refine HW.skip (i := 15) hH rfl (by kernel_rfl) (Skips.on rfl rfl rfl rfl rfl hb5) rfl (fun _ => rfl) ?_
   refine HW.skip (i := 16) hH rfl (by kernel_rfl) (Skips.on rfl rfl rfl rfl rfl hb5) rfl (fun _ => rfl) ?_
   refine HW.pure (i := 17) hH rfl (by kernel_rfl) (Wants.free rfl) rfl (fun _ => rfl) (Rd.pickF rfl hb5 rfl) ?_
   exact HW.sub hH (by exact ⟨rfl, rfl, rfl, trivial⟩) (K3 false w15 rfl (by exact (hB.sel [0] (by decide) rfl)) h)
 clear hB
 intro b8 w16 hS1 hB h_
 subst hS1
 have h := hJ1 b8 _ h_; clear h_
 refine HW.pure (i := 18) hH rfl (by kernel_rfl) (Wants.free rfl) rfl (fun _ => rfl) (Rd.move (v := .bool b8) rfl) ?_
 obtain ⟨J2, hJ2, h1_J2, h0_J2⟩ := h
 suffices K4 : ∀ (b9 : Bool) (w17 : World), J2 b9 w17 → H 1 #[true, true, true, true, true, true, true, true, true, true, true, true, true, true, true, true, true, true, true, true, true, true, true, false] [(0, .bool false), (51, .bool b9)] w17 by
  rcases Bool.eq_false_or_eq_true b8 with hb6 | hb6
  ·have h := h1_J2 hb6
   refine HW.take (i := 19) hH rfl (by kernel_rfl) (by kernel_rfl) (Wants.on rfl rfl rfl rfl rfl hb6) rfl (fun _ => rfl) (Rd.ldN (cs := [.int .i64 10, .int .i64 5]) rfl (by kernel_rfl) (by kernel_rfl) (cellsS (box_cells (hB.at (i := 0) rfl) rfl))) ?_
   refine HW.call (i := 20) hH (by kernel_rfl) rfl (Wants.on rfl rfl rfl rfl rfl hb6) rfl (Cl.fn (f := 19) rfl Tryd.func19 (by kernel_rfl) rfl) h (fun e w18 h_ => ?_)
   clear h
   obtain ⟨r6, rfl, h⟩ := h_
   refine ⟨_, rfl, (fun hc => by cases hc), ?_⟩
   obtain ⟨t3, hx1, h⟩ := h
   refine HW.pure (i := 21) hH rfl (by kernel_rfl) (Wants.on rfl rfl rfl rfl rfl hb6) rfl (fun hc => by cases hc) (Rd.bin (v := .bool t3) rfl rfl hx1) ?_
   refine HW.pure (i := 22) hH rfl (by kernel_rfl) (Wants.free rfl) rfl (fun hc => by cases hc) (Rd.pickT rfl hb6 rfl) ?_
   exact HW.sub hH (by exact ⟨rfl, rfl, trivial⟩) (K4 t3 w18 h)
  ·have h := h0_J2 hb6
   refine HW.skip (i := 19) hH rfl (by kernel_rfl) (Skips.on rfl rfl rfl rfl rfl hb6) rfl (fun _ => rfl) ?_
   refine HW.skip1 (i := 20) hH (by kernel_rfl) rfl (Skips.on rfl rfl rfl rfl rfl hb6) rfl (fun hc => by cases hc) ?_
   refine HW.skip (i := 21) hH rfl (by kernel_rfl) (Skips.on rfl rfl rfl rfl rfl hb6) rfl (fun hc => by cases hc) ?_
   refine HW.pure (i := 22) hH rfl (by kernel_rfl) (Wants.free rfl) rfl (fun hc => by cases hc) (Rd.pickF rfl hb6 rfl) ?_
   exact HW.sub hH (by exact ⟨rfl, rfl, trivial⟩) (K4 false w16 h)
 intro b9 w17 h_
 have h := hJ2 b9 w17 h_; clear h_
 refine HW.pure (i := 23) hH rfl (by kernel_rfl) (Wants.free rfl) rfl (fun hc => by cases hc) (Rd.assign (v := .bool b9) rfl) ?_
 refine HW.done hH (by kernel_rfl) ?_
 refine NW.then ?_
 refine CW.ret ?_
 exact res1 rfl rfl ⟨b9, rfl, h⟩
/- pomander/pomanderlaw14.vast -/
def W_pomanderlaw14_vast (l1 : Option Addr) (l1n : Nat) (l1c : Nat) (w : World) (R : Bool → World → Prop) : Prop :=
 ((decide ((l1n : Int) > 30)) = true → R true w) ∧ ((decide ((l1n : Int) > 30)) = false → ∃ (I1 : Bool → Int → World → Prop) (m1 : Bool → Int → World → Nat), I1 false 0 w ∧ ∀ (x1 : Bool) (i1 : Int) (w1 : World), I1 x1 i1 w1 → ((decide (i1 < (l1n : Int))) = true → ∃ a1 : Addr, l1 = some a1 ∧ (0 : Int) ≤ i1 ∧ i1 < (l1n : Int) ∧ (∃ (t1 : Option Addr) (t1n : Nat) (t1c : Nat), w1.cell? ((a1.add (Int.toNat i1 * 2)).add 1) = some (.slice t1 t1n t1c) ∧ (((decide ((t1n : Int) > 10)) = true → R true w1) ∧ ((decide ((t1n : Int) > 10)) = false → ∃ (I2 : Bool → Int → World → Prop) (m2 : Bool → Int → World → Nat), I2 x1 0 w1 ∧ ∀ (x2 : Bool) (k1 : Int) (w2 : World), I2 x2 k1 w2 → ∃ (t2 : Option Addr) (t2n : Nat) (t2c : Nat), w2.cell? ((a1.add (Int.toNat i1 * 2)).add 1) = some (.slice t2 t2n t2c) ∧ (((decide (k1 < (t2n : Int))) = true → ∃ a2 : Addr, t2 = some a2 ∧ (0 : Int) ≤ k1 ∧ k1 < (t2n : Int) ∧ (∃ (t3 : Option Addr) (t3n : Nat) (t3c : Nat), w2.cell? ((a2.add (Int.toNat k1 * 3)).add 2) = some (.slice t3 t3n t3c) ∧ (((decide ((t3n : Int) > 6)) = true → R true w2) ∧ ((decide ((t3n : Int) > 6)) = false → (I2 x2 (IntKind.wrap .i64 (k1 + 1)) w2 ∧ m2 x2 (IntKind.wrap .i64 (k1 + 1)) w2 < m2 x2 k1 w2))))) ∧ ((decide (k1 < (t2n : Int))) = false → (I1 x2 (IntKind.wrap .i64 (i1 + 1)) w2 ∧ m1 x2 (IntKind.wrap .i64 (i1 + 1)) w2 < m1 x1 i1 w1))))))) ∧ ((decide (i1 < (l1n : Int))) = false → R false w1))
set_option maxRecDepth 100000 in
theorem go_pomanderlaw14_vast (l1 : Option Addr) (l1n : Nat) (l1c : Nat) (w : World) (R : Bool → World → Prop) (h : W_pomanderlaw14_vast l1 l1n l1c w R) : Calls Tryd.prog 11 #[.slice l1 l1n l1c] w (fun e w' => ∃ (r1 : Bool), e = .returned (.bool r1) ∧ R r1 w') := by
 unfold W_pomanderlaw14_vast at h
 refine enter (N := 42) Tryd.func11 rfl rfl ?_
 refine CW.seq ?_
 refine CW.region fun L hL => ?_
 refine LW.rd hL rfl (Wants.free rfl) rfl (Rd.assign (v := .bool false) rfl) ?_
 refine LW.nil hL rfl ?_
 refine NW.then ?_
 refine CW.seq ?_
 refine CW.seq ?_
 refine CW.region fun L hL => ?_
 refine LW.rd hL rfl (Wants.free rfl) rfl (Rd.move (v := .slice l1 l1n l1c) rfl) ?_
 refine LW.rd hL rfl (Wants.free rfl) rfl (Rd.builtin (v := .int .i64 (l1n : Int)) rfl (fun _ _ => by kernel_rfl)) ?_
 refine LW.rd hL rfl (Wants.free rfl) rfl (Rd.bin (v := .bool (decide ((l1n : Int) > 30))) rfl rfl (fun w => by kernel_rfl)) ?_
 refine LW.nil hL rfl ?_
 refine NW.then ?_
 refine CW.cond rfl (fun hb1 => ?_) (fun hb1 => ?_)
 ·replace h := h.1 hb1
  refine CW.seq ?_
  refine CW.region fun L hL => ?_
  refine LW.rd hL rfl (Wants.free rfl) rfl (Rd.assign (v := .bool true) rfl) ?_
  refine LW.nil hL rfl ?_
  refine NW.then ?_
  refine CW.ret ?_
  refine RW.then ?_
  exact res1 rfl rfl ⟨true, rfl, h⟩
 ·replace h := h.2 hb1
  refine CW.skip ?_
  refine NW.then ?_
  refine CW.seq ?_
  refine CW.seq ?_
  refine CW.region fun L hL => ?_
  refine LW.rd hL rfl (Wants.free rfl) rfl (Rd.assign (v := .int .i64 0) rfl) ?_
  refine LW.nil hL rfl ?_
  refine NW.then ?_
  refine CW.block ?_
  obtain ⟨I1, m1, hI1, h⟩ := h
  refine CW.loop (S := Bool × Int) (fun s1 => [(0, .slice l1 l1n l1c), (2, .bool s1.1), (3, .int .i64 s1.2)]) (fun s1 w1 => I1 s1.1 s1.2 w1) (fun s1 w1 => m1 s1.1 s1.2 w1) (false, 0) (by exact ⟨rfl, rfl, rfl, trivial⟩) hI1 (fun s1 w1 hI1 => ?_)
  obtain ⟨x1, i1⟩ := s1; replace h := h x1 i1 w1 hI1
  refine CW.seq ?_
  refine CW.seq ?_
  refine CW.region fun L hL => ?_
  refine LW.rd hL rfl (Wants.free rfl) rfl (Rd.move (v := .int .i64 i1) rfl) ?_
  refine LW.rd hL rfl (Wants.free rfl) rfl (Rd.move (v := .slice l1 l1n l1c) rfl) ?_
  refine LW.rd hL rfl (Wants.free rfl) rfl (Rd.builtin (v := .int .i64 (l1n : Int)) rfl (fun _ _ => by kernel_rfl)) ?_
  refine LW.rd hL rfl (Wants.free rfl) rfl (Rd.bin (v := .bool (decide (i1 < (l1n : Int)))) rfl rfl (fun w => by kernel_rfl)) ?_
  refine LW.nil hL rfl ?_
  refine NW.then ?_
  refine CW.cond rfl (fun hb2 => ?_) (fun hb2 => ?_)
  ·replace h := h.1 hb2
   refine CW.skip ?_
   refine NW.then ?_
   refine CW.seq ?_
   refine CW.block ?_
   refine CW.seq ?_
   refine CW.seq ?_
   refine CW.region fun L hL => ?_
   refine LW.rd hL rfl (Wants.free rfl) rfl (Rd.move (v := .slice l1 l1n l1c) rfl) ?_
   refine LW.rd hL rfl (Wants.free rfl) rfl (Rd.move (v := .int .i64 i1) rfl) ?_
   obtain ⟨a1, he1, hi1, hi2, h⟩ := h
   refine LW.rd hL rfl (Wants.free rfl) rfl (Rd.iaS (q := a1) (sz := 2) (by rw [← he1]; rfl) rfl Tryd.underlying36 (by kernel_rfl) hi1 hi2) ?_
   refine LW.rd hL rfl (Wants.free rfl) rfl (Rd.fa (v := .pointer (some ((a1.add (Int.toNat i1 * 2)).add 1))) rfl (fun _ => by kernel_rfl)) ?_
   obtain ⟨t1, t1n, t1c, hc1, h⟩ := h
   refine LW.rd hL rfl (Wants.free rfl) rfl (Rd.ld (v := .slice t1 t1n t1c) rfl (by kernel_rfl) (eqs hc1)) ?_
   refine LW.rd hL rfl (Wants.free rfl) rfl (Rd.builtin (v := .int .i64 (t1n : Int)) rfl (fun _ _ => by kernel_rfl)) ?_
   refine LW.rd hL rfl (Wants.free rfl) rfl (Rd.bin (v := .bool (decide ((t1n : Int) > 10))) rfl rfl (fun w => by kernel_rfl)) ?_
   refine LW.nil hL rfl ?_
   refine NW.then ?_
   refine CW.cond rfl (fun hb3 => ?_) (fun hb3 => ?_)
   ·replace h := h.1 hb3
    refine CW.seq ?_
    refine CW.region fun L hL => ?_
    refine LW.rd hL rfl (Wants.free rfl) rfl (Rd.assign (v := .bool true) rfl) ?_
    refine LW.nil hL rfl ?_
    refine NW.then ?_
    refine CW.ret ?_
    refine RW.then ?_
    refine RW.block ?_
    refine RW.then ?_
    refine RW.then ?_
    refine RW.block ?_
    refine RW.then ?_
    exact res1 rfl rfl ⟨true, rfl, h⟩
   ·replace h := h.2 hb3
    refine CW.skip ?_
    refine NW.then ?_
    refine CW.seq ?_
    refine CW.region fun L hL => ?_
    refine LW.rd hL rfl (Wants.free rfl) rfl (Rd.assign (v := .int .i64 0) rfl) ?_
    refine LW.nil hL rfl ?_
    refine NW.then ?_
    refine CW.block ?_
    obtain ⟨I2, m2, hI2, h⟩ := h
    refine CW.loop (S := Bool × Int) (fun s2 => [(0, .slice l1 l1n l1c), (3, .int .i64 i1), (2, .bool s2.1), (4, .int .i64 s2.2)]) (fun s2 w2 => I2 s2.1 s2.2 w2) (fun s2 w2 => m2 s2.1 s2.2 w2) (x1, 0) (by exact ⟨rfl, rfl, rfl, rfl, trivial⟩) hI2 (fun s2 w2 hI2 => ?_)
    obtain ⟨x2, k1⟩ := s2; replace h := h x2 k1 w2 hI2
    refine CW.seq ?_
    refine CW.seq ?_
    refine CW.region fun L hL => ?_
    refine LW.rd hL rfl (Wants.free rfl) rfl (Rd.move (v := .int .i64 k1) rfl) ?_
    refine LW.rd hL rfl (Wants.free rfl) rfl (Rd.move (v := .slice l1 l1n l1c) rfl) ?_
    refine LW.rd hL rfl (Wants.free rfl) rfl (Rd.move (v := .int .i64 i1) rfl) ?_
    refine LW.rd hL rfl (Wants.free rfl) rfl (Rd.iaS (q := a1) (sz := 2) (by rw [← he1]; rfl) rfl Tryd.underlying36 (by kernel_rfl) hi1 hi2) ?_
    refine LW.rd hL rfl (Wants.free rfl) rfl (Rd.fa (v := .pointer (some ((a1.add (Int.toNat i1 * 2)).add 1))) rfl (fun _ => by kernel_rfl)) ?_
    obtain ⟨t2, t2n, t2c, hc2, h⟩ := h
    refine LW.rd hL rfl (Wants.free rfl) rfl (Rd.ld (v := .slice t2 t2n t2c) rfl (by kernel_rfl) (eqs hc2)) ?_
    refine LW.rd hL rfl (Wants.free rfl) rfl (Rd.builtin (v := .int .i64 (t2n : Int)) rfl (fun _ _ => by kernel_rfl)) ?_
    refine LW.rd hL rfl (Wants.free rfl) rfl (Rd.bin (v := .bool (decide (k1 < (t2n : Int)))) rfl rfl (fun w => by kernel_rfl)) ?_
    refine LW.nil hL rfl ?_
    refine NW.then ?_
    refine CW.cond rfl (fun hb4 => ?_) (fun hb4 => ?_)
    ·replace h := h.1 hb4
     refine CW.skip ?_
     refine NW.then ?_
     refine CW.seq ?_
     refine CW.block ?_
     refine CW.seq ?_
     refine CW.region fun L hL => ?_
     refine LW.rd hL rfl (Wants.free rfl) rfl (Rd.move (v := .slice l1 l1n l1c) rfl) ?_
     refine LW.rd hL rfl (Wants.free rfl) rfl (Rd.move (v := .int .i64 i1) rfl) ?_
     refine LW.rd hL rfl (Wants.free rfl) rfl (Rd.iaS (q := a1) (sz := 2) (by rw [← he1]; rfl) rfl Tryd.underlying36 (by kernel_rfl) hi1 hi2) ?_
     refine LW.rd hL rfl (Wants.free rfl) rfl (Rd.fa (v := .pointer (some ((a1.add (Int.toNat i1 * 2)).add 1))) rfl (fun _ => by kernel_rfl)) ?_
     refine LW.rd hL rfl (Wants.free rfl) rfl (Rd.ld (v := .slice t2 t2n t2c) rfl (by kernel_rfl) (eqs hc2)) ?_
     refine LW.rd hL rfl (Wants.free rfl) rfl (Rd.move (v := .int .i64 k1) rfl) ?_
     obtain ⟨a2, he2, hi7, hi8, h⟩ := h
     refine LW.rd hL rfl (Wants.free rfl) rfl (Rd.iaS (q := a2) (sz := 3) (by rw [← he2]; rfl) rfl Tryd.underlying45 (by kernel_rfl) hi7 hi8) ?_
     refine LW.rd hL rfl (Wants.free rfl) rfl (Rd.fa (v := .pointer (some ((a2.add (Int.toNat k1 * 3)).add 2))) rfl (fun _ => by kernel_rfl)) ?_
     obtain ⟨t3, t3n, t3c, hc3, h⟩ := h
     refine LW.rd hL rfl (Wants.free rfl) rfl (Rd.ld (v := .slice t3 t3n t3c) rfl (by kernel_rfl) (eqs hc3)) ?_
     refine LW.rd hL rfl (Wants.free rfl) rfl (Rd.builtin (v := .int .i64 (t3n : Int)) rfl (fun _ _ => by kernel_rfl)) ?_
     refine LW.rd hL rfl (Wants.free rfl) rfl (Rd.bin (v := .bool (decide ((t3n : Int) > 6))) rfl rfl (fun w => by kernel_rfl)) ?_
     refine LW.nil hL rfl ?_
     refine NW.then ?_
     refine CW.cond rfl (fun hb5 => ?_) (fun hb5 => ?_)
     ·replace h := h.1 hb5
      refine CW.seq ?_
      refine CW.region fun L hL => ?_
      refine LW.rd hL rfl (Wants.free rfl) rfl (Rd.assign (v := .bool true) rfl) ?_
      refine LW.nil hL rfl ?_
      refine NW.then ?_
      refine CW.ret ?_
      refine RW.block ?_
      refine RW.then ?_
      refine RW.then ?_
      refine RW.block ?_
      refine RW.block ?_
      refine RW.then ?_
      refine RW.then ?_
      refine RW.block ?_
      refine RW.then ?_
      exact res1 rfl rfl ⟨true, rfl, h⟩
     ·replace h := h.2 hb5
      refine CW.skip ?_
      refine NW.block ?_
      refine NW.then ?_
      refine CW.region fun L hL => ?_
      refine LW.rd hL rfl (Wants.free rfl) rfl (Rd.move (v := .int .i64 k1) rfl) ?_
      refine LW.rd hL rfl (Wants.free rfl) rfl (Rd.bin (v := .int .i64 (IntKind.wrap .i64 (k1 + 1))) rfl rfl (fun w => by kernel_rfl)) ?_
      refine LW.rd hL rfl (Wants.free rfl) rfl (Rd.assign (v := .int .i64 (IntKind.wrap .i64 (k1 + 1))) rfl) ?_
      refine LW.nil hL rfl ?_
      exact NW.loop (S := Bool × Int) (Ek := fun s2 => [(0, .slice l1 l1n l1c), (3, .int .i64 i1), (2, .bool s2.1), (4, .int .i64 s2.2)]) (x2, IntKind.wrap .i64 (k1 + 1)) (by exact ⟨rfl, rfl, rfl, rfl, trivial⟩) h
    ·replace h := h.2 hb4
     refine CW.exit ?_
     refine XW.then ?_
     refine XW.then ?_
     refine XW.hit ?_
     refine NW.block ?_
     refine NW.then ?_
     refine CW.region fun L hL => ?_
     refine LW.rd hL rfl (Wants.free rfl) rfl (Rd.move (v := .int .i64 i1) rfl) ?_
     refine LW.rd hL rfl (Wants.free rfl) rfl (Rd.bin (v := .int .i64 (IntKind.wrap .i64 (i1 + 1))) rfl rfl (fun w => by kernel_rfl)) ?_
     refine LW.rd hL rfl (Wants.free rfl) rfl (Rd.assign (v := .int .i64 (IntKind.wrap .i64 (i1 + 1))) rfl) ?_
     refine LW.nil hL rfl ?_
     exact NW.loop (S := Bool × Int) (Ek := fun s1 => [(0, .slice l1 l1n l1c), (2, .bool s1.1), (3, .int .i64 s1.2)]) (x2, IntKind.wrap .i64 (i1 + 1)) (by exact ⟨rfl, rfl, rfl, trivial⟩) h
  ·replace h := h.2 hb2
   refine CW.exit ?_
   refine XW.then ?_
   refine XW.then ?_
   refine XW.hit ?_
   refine NW.then ?_
   refine CW.seq ?_
   refine CW.region fun L hL => ?_
   refine LW.rd hL rfl (Wants.free rfl) rfl (Rd.assign (v := .bool false) rfl) ?_
   refine LW.nil hL rfl ?_
   refine NW.then ?_
   refine CW.ret ?_
   exact res1 rfl rfl ⟨false, rfl, h⟩
/- pomander/pomanderlaw14.made -/
def W_pomanderlaw14_made (l1 : Option Addr) (l1n : Nat) (l1c : Nat) (w : World) (R : (Option Addr) → (Option Addr) → Nat → Nat → Bool → World → Prop) : Prop :=
 Calls Tryd.prog 8 #[] w fun e w1 => ∃ (r4 : Option Addr), e = .returned (.pointer r4) ∧ (∃ (I1 : (Option Addr) → (Option Addr) → Nat → Nat → Bool → (Option Addr) → Nat → Nat → Int → Int → World → Prop) (m1 : (Option Addr) → (Option Addr) → Nat → Nat → Bool → (Option Addr) → Nat → Nat → Int → Int → World → Nat), I1 none none 0 0 false none 0 0 0 0 w1 ∧ ∀ (x1 : Option Addr) (x2 : Option Addr) (x2n : Nat) (x2c : Nat) (x3 : Bool) (notes1 : Option Addr) (notes1n : Nat) (notes1c : Nat) (last1 : Int) (i1 : Int) (w2 : World), I1 x1 x2 x2n x2c x3 notes1 notes1n notes1c last1 i1 w2 → ((decide (i1 < (l1n : Int))) = true → ∃ J1 : (Option Addr) → (Option Addr) → Nat → Nat → Bool → (Option Addr) → Nat → Nat → Int → World → Prop, (∀ (x4 : Option Addr) (x5 : Option Addr) (x5n : Nat) (x5c : Nat) (x6 : Bool) (notes2 : Option Addr) (notes2n : Nat) (notes2c : Nat) (last2 : Int) (w3 : World), J1 x4 x5 x5n x5c x6 notes2 notes2n notes2c last2 w3 → (I1 x4 x5 x5n x5c x6 notes2 notes2n notes2c last2 (IntKind.wrap .i64 (i1 + 1)) w3 ∧ m1 x4 x5 x5n x5c x6 notes2 notes2n notes2c last2 (IntKind.wrap .i64 (i1 + 1)) w3 < m1 x1 x2 x2n x2c x3 notes1 notes1n notes1c last1 i1 w2)) ∧ (∃ J2 : Int → World → Prop, (∀ (want1 : Int) (w4 : World), J2 want1 w4 → ∃ a1 : Addr, l1 = some a1 ∧ (0 : Int) ≤ i1 ∧ i1 < (l1n : Int) ∧ (∀ (w5 : World), Chg [] w4 w5 → (∃ (t1 : Int), w5.cell? (a1.add (Int.toNat i1 * 2)) = some (.int .i64 t1) ∧ (∃ (t2 : Option Addr) (t2n : Nat) (t2c : Nat), w5.cell? ((a1.add (Int.toNat i1 * 2)).add 1) = some (.slice t2 t2n t2c) ∧ (Calls Tryd.prog 9 #[.pointer r4, .int .i64 t1, .slice t2 t2n t2c] w5 fun e w6 => ∃ (r5 : Int), e = .returned (.int .i64 r5) ∧ (((!(r5 == want1)) = true → R r4 notes1 notes1n notes1c false w6) ∧ ((!(r5 == want1)) = false → ((!(want1 == 0)) = true → J1 x1 x2 x2n x2c x3 notes1 notes1n notes1c last1 w6) ∧ ((!(want1 == 0)) = false → ∃ (I2 : (Option Addr) → Nat → Nat → Int → Int → World → Prop) (m2 : (Option Addr) → Nat → Nat → Int → Int → World → Nat), I2 notes1 notes1n notes1c last1 0 w6 ∧ ∀ (notes3 : Option Addr) (notes3n : Nat) (notes3c : Nat) (last3 : Int) (k1 : Int) (w7 : World), I2 notes3 notes3n notes3c last3 k1 w7 → ∃ (t3 : Option Addr) (t3n : Nat) (t3c : Nat), w7.cell? ((a1.add (Int.toNat i1 * 2)).add 1) = some (.slice t3 t3n t3c) ∧ (((decide (k1 < (t3n : Int))) = true → ∃ J3 : (Option Addr) → Nat → Nat → Int → World → Prop, (∀ (notes4 : Option Addr) (notes4n : Nat) (notes4c : Nat) (last4 : Int) (w8 : World), J3 notes4 notes4n notes4c last4 w8 → (I2 notes4 notes4n notes4c last4 (IntKind.wrap .i64 (k1 + 1)) w8 ∧ m2 notes4 notes4n notes4c last4 (IntKind.wrap .i64 (k1 + 1)) w8 < m2 notes3 notes3n notes3c last3 k1 w7)) ∧ (∃ a2 : Addr, t3 = some a2 ∧ (0 : Int) ≤ k1 ∧ k1 < (t3n : Int) ∧ (∃ (t4 : Int) (t5 : Int) (t6 : Option Addr) (t6n : Nat) (t6c : Nat), CellsAt w7 (a2.add (Int.toNat k1 * 3)) 0 [.int .i64 t4, .int .i64 t5, .slice t6 t6n t6c] ∧ (∀ (b1 : Nat) (w10 : World), (w7.heap.size ≤ b1 ∧ b1 < w10.heap.size) → Chg [] w7 w10 → (((!((t4 == 0) && (t5 == 0))) = true → ∀ (w11 : World), Chg [] w10 w11 → (∃ (t7 : Int), w11.cell? (a1.add (Int.toNat i1 * 2)) = some (.int .i64 t7) ∧ (∀ b2 : Nat, b2 = World.size w11 → ∀ w12 : World, w12 = World.alloc w11 (.cells #[.int .i64 t7, .int .i64 t4, .int .i64 t5, .slice t6 t6n t6c] 50) → (∃ (l2 : Option Addr) (l2n : Nat) (l2c : Nat) (w13 : World), (Builtin.append_ #[39, 39] 39 #[.slice notes3 notes3n notes3c, .slice (some (⟨b2, 0, none⟩ : Addr)) 1 1]).run Tryd.prog w12 = .ok (.slice l2 l2n l2c) w13 ∧ (∃ (t8 : Int), w13.cell? (a1.add (Int.toNat i1 * 2)) = some (.int .i64 t8) ∧ (J3 l2 l2n l2c t8 w13)))))) ∧ ((!((t4 == 0) && (t5 == 0))) = false → J3 notes3 notes3n notes3c last3 w10)))))) ∧ ((decide (k1 < (t3n : Int))) = false → J1 x1 x2 x2n x2c x3 notes3 notes3n notes3c last3 w7)))))))))) ∧ (∃ a3 : Addr, l1 = some a3 ∧ (0 : Int) ≤ i1 ∧ i1 < (l1n : Int) ∧ (∃ (t9 : Int), w2.cell? (a3.add (Int.toNat i1 * 2)) = some (.int .i64 t9) ∧ (∃ J4 : Bool → World → Prop, (∀ (b3 : Bool) (w14 : World), J4 b3 w14 → (b3 = true → J2 2 w14) ∧ (b3 = false → J2 0 w14)) ∧ (((decide (t9 < 0)) = false → J4 (decide (t9 < last1)) w2) ∧ ((decide (t9 < 0)) = true → J4 true w2))))))) ∧ ((decide (i1 < (l1n : Int))) = false → Calls Tryd.prog 27 #[.pointer r4] w2 fun e w15 => ∃ (r6 : Int), e = .returned (.int .i64 r6) ∧ (R r4 notes1 notes1n notes1c (r6 == (notes1n : Int)) w15)))
set_option maxRecDepth 100000 in
theorem go_pomanderlaw14_made (l1 : Option Addr) (l1n : Nat) (l1c : Nat) (w : World) (R : (Option Addr) → (Option Addr) → Nat → Nat → Bool → World → Prop) (h : W_pomanderlaw14_made l1 l1n l1c w R) : Calls Tryd.prog 12 #[.slice l1 l1n l1c] w (fun e w' => ∃ (r1 : Option Addr) (r2 : Option Addr) (r2n : Nat) (r2c : Nat) (r3 : Bool), e = .returned (.tuple #[.pointer r1, .slice r2 r2n r2c, .bool r3]) ∧ R r1 r2 r2n r2c r3 w') := by
 unfold W_pomanderlaw14_made at h
 refine enter (N := 99) Tryd.func12 rfl rfl ?_
 refine CW.seq ?_
 refine CW.region fun L hL => ?_
 refine LW.rd hL rfl (Wants.free rfl) rfl (Rd.assign (v := .pointer none) rfl) ?_
 refine LW.rd hL rfl (Wants.free rfl) rfl (Rd.assign (v := .slice none 0 0) rfl) ?_
 refine LW.rd hL rfl (Wants.free rfl) rfl (Rd.assign (v := .bool false) rfl) ?_
 refine LW.nil hL rfl ?_
 refine NW.then ?_
 refine CW.seq ?_
 refine CW.region fun L hL => ?_
 refine LW.call hL rfl (Wants.free rfl) rfl (Cl.fn (f := 8) rfl Tryd.func8 (by kernel_rfl) rfl) h (fun e w1 h_ => ?_)
 clear h
 obtain ⟨r4, rfl, h⟩ := h_
 refine ⟨_, rfl, ?_⟩
 refine LW.rd hL rfl (Wants.free rfl) rfl (Rd.assign (v := .pointer r4) rfl) ?_
 refine LW.nil hL rfl ?_
 refine NW.then ?_
 refine CW.seq ?_
 refine CW.region fun L hL => ?_
 refine LW.rd hL rfl (Wants.free rfl) rfl (Rd.assign (v := .slice none 0 0) rfl) ?_
 refine LW.nil hL rfl ?_
 refine NW.then ?_
 refine CW.seq ?_
 refine CW.region fun L hL => ?_
 refine LW.rd hL rfl (Wants.free rfl) rfl (Rd.assign (v := .int .i64 0) rfl) ?_
 refine LW.nil hL rfl ?_
 refine NW.then ?_
 refine CW.seq ?_
 refine CW.seq ?_
 refine CW.region fun L hL => ?_
 refine LW.rd hL rfl (Wants.free rfl) rfl (Rd.assign (v := .int .i64 0) rfl) ?_
 refine LW.nil hL rfl ?_
 refine NW.then ?_
 refine CW.block ?_
 obtain ⟨I1, m1, hI1, h⟩ := h
 refine CW.loop (S := (Option Addr) × (Option Addr) × Nat × Nat × Bool × (Option Addr) × Nat × Nat × Int × Int) (fun s1 => [(0, .slice l1 l1n l1c), (5, .pointer r4), (2, .pointer s1.1), (3, .slice s1.2.1 s1.2.2.1 s1.2.2.2.1), (4, .bool s1.2.2.2.2.1), (6, .slice s1.2.2.2.2.2.1 s1.2.2.2.2.2.2.1 s1.2.2.2.2.2.2.2.1), (7, .int .i64 s1.2.2.2.2.2.2.2.2.1), (8, .int .i64 s1.2.2.2.2.2.2.2.2.2)]) (fun s1 w2 => I1 s1.1 s1.2.1 s1.2.2.1 s1.2.2.2.1 s1.2.2.2.2.1 s1.2.2.2.2.2.1 s1.2.2.2.2.2.2.1 s1.2.2.2.2.2.2.2.1 s1.2.2.2.2.2.2.2.2.1 s1.2.2.2.2.2.2.2.2.2 w2) (fun s1 w2 => m1 s1.1 s1.2.1 s1.2.2.1 s1.2.2.2.1 s1.2.2.2.2.1 s1.2.2.2.2.2.1 s1.2.2.2.2.2.2.1 s1.2.2.2.2.2.2.2.1 s1.2.2.2.2.2.2.2.2.1 s1.2.2.2.2.2.2.2.2.2 w2) (none, none, 0, 0, false, none, 0, 0, 0, 0) (by exact ⟨rfl, rfl, rfl, rfl, rfl, rfl, rfl, rfl, trivial⟩) hI1 (fun s1 w2 hI1 => ?_)
 obtain ⟨x1, x2, x2n, x2c, x3, notes1, notes1n, notes1c, last1, i1⟩ := s1; replace h := h x1 x2 x2n x2c x3 notes1 notes1n notes1c last1 i1 w2 hI1
 refine CW.seq ?_
 refine CW.seq ?_
 refine CW.region fun L hL => ?_
 refine LW.rd hL rfl (Wants.free rfl) rfl (Rd.move (v := .int .i64 i1) rfl) ?_
 refine LW.rd hL rfl (Wants.free rfl) rfl (Rd.move (v := .slice l1 l1n l1c) rfl) ?_
 refine LW.rd hL rfl (Wants.free rfl) rfl (Rd.builtin (v := .int .i64 (l1n : Int)) rfl (fun _ _ => by kernel_rfl)) ?_
 refine LW.rd hL rfl (Wants.free rfl) rfl (Rd.bin (v := .bool (decide (i1 < (l1n : Int)))) rfl rfl (fun w => by kernel_rfl)) ?_
 refine LW.nil hL rfl ?_
 refine NW.then ?_
 refine CW.cond rfl (fun hb1 => ?_) (fun hb1 => ?_)
 ·replace h := h.1 hb1
  refine CW.skip ?_
  refine NW.then ?_
  obtain ⟨J1, hJ1, h⟩ := h
  refine CW.cut (S := (Option Addr) × (Option Addr) × Nat × Nat × Bool × (Option Addr) × Nat × Nat × Int) (fun s2 => [(0, .slice l1 l1n l1c), (5, .pointer r4), (8, .int .i64 i1), (2, .pointer s2.1), (3, .slice s2.2.1 s2.2.2.1 s2.2.2.2.1), (4, .bool s2.2.2.2.2.1), (6, .slice s2.2.2.2.2.2.1 s2.2.2.2.2.2.2.1 s2.2.2.2.2.2.2.2.1), (7, .int .i64 s2.2.2.2.2.2.2.2.2)]) (fun s2 w3 => J1 s2.1 s2.2.1 s2.2.2.1 s2.2.2.2.1 s2.2.2.2.2.1 s2.2.2.2.2.2.1 s2.2.2.2.2.2.2.1 s2.2.2.2.2.2.2.2.1 s2.2.2.2.2.2.2.2.2 w3) (fun s2 w3 h_ => ?_) ?_
  ·obtain ⟨x4, x5, x5n, x5c, x6, notes2, notes2n, notes2c, last2⟩ := s2; replace h := hJ1 x4 x5 x5n x5c x6 notes2 notes2n notes2c last2 w3 h_; clear h_
   refine CW.region fun L hL => ?_
   refine LW.rd hL rfl (Wants.free rfl) rfl (Rd.move (v := .int .i64 i1) rfl) ?_
   refine LW.rd hL rfl (Wants.free rfl) rfl (Rd.bin (v := .int .i64 (IntKind.wrap .i64 (i1 + 1))) rfl rfl (fun w => by kernel_rfl)) ?_
   refine LW.rd hL rfl (Wants.free rfl) rfl (Rd.assign (v := .int .i64 (IntKind.wrap .i64 (i1 + 1))) rfl) ?_
   refine LW.nil hL rfl ?_
   exact NW.loop (S := (Option Addr) × (Option Addr) × Nat × Nat × Bool × (Option Addr) × Nat × Nat × Int × Int) (Ek := fun s1 => [(0, .slice l1 l1n l1c), (5, .pointer r4), (2, .pointer s1.1), (3, .slice s1.2.1 s1.2.2.1 s1.2.2.2.1), (4, .bool s1.2.2.2.2.1), (6, .slice s1.2.2.2.2.2.1 s1.2.2.2.2.2.2.1 s1.2.2.2.2.2.2.2.1), (7, .int .i64 s1.2.2.2.2.2.2.2.2.1), (8, .int .i64 s1.2.2.2.2.2.2.2.2.2)]) (x4, x5, x5n, x5c, x6, notes2, notes2n, notes2c, last2, IntKind.wrap .i64 (i1 + 1)) (by exact ⟨rfl, rfl, rfl, rfl, rfl, rfl, rfl, rfl, trivial⟩) h
  ·skip
   refine CW.block ?_
   refine CW.seq ?_
   refine CW.region fun L hL => ?_
   refine LW.rd hL rfl (Wants.free rfl) rfl (Rd.assign (v := .int .i64 0) rfl) ?_
   refine LW.nil hL rfl ?_
   refine NW.then ?_
   obtain ⟨J2, hJ2, h⟩ := h
   refine CW.cut (S := Int) (fun want1 => [(0, .slice l1 l1n l1c), (2, .pointer x1), (3, .slice x2 x2n x2c), (4, .bool x3), (5, .pointer r4), (6, .slice notes1 notes1n notes1c), (7, .int .i64 last1), (8, .int .i64 i1), (9, .int .i64 want1)]) (fun want1 w4 => J2 want1 w4) (fun want1 w4 h_ => ?_) ?_
   ·replace h := hJ2 want1 w4 h_; clear h_
    refine CW.seq ?_
    refine CW.seq ?_
    obtain ⟨w5, hw_w5⟩ : ∃ x, x = World.drew w4 := ⟨_, rfl⟩
    have hc_w5 := sil_drew (Chg.refl [] w4) hw_w5
    refine CW.drawn (fun w => w = w5) 11 (by kernel_rfl) fun H hH => ?_
    rw [← hw_w5]
    refine HW.pure (i := 0) hH rfl (by kernel_rfl) (Wants.free rfl) rfl (fun _ => rfl) (Rd.move (v := .pointer r4) rfl) ?_
    refine HW.pure (i := 1) hH rfl (by kernel_rfl) (Wants.free rfl) rfl (fun _ => rfl) (Rd.move (v := .slice l1 l1n l1c) rfl) ?_
    refine HW.pure (i := 2) hH rfl (by kernel_rfl) (Wants.free rfl) rfl (fun _ => rfl) (Rd.move (v := .int .i64 i1) rfl) ?_
    obtain ⟨a1, he1, hi1, hi2, h⟩ := h
    refine HW.pure (i := 3) hH rfl (by kernel_rfl) (Wants.free rfl) rfl (fun _ => rfl) (Rd.iaS (q := a1) (sz := 2) (by rw [← he1]; rfl) rfl Tryd.underlying36 (by kernel_rfl) hi1 hi2) ?_
    refine HW.pure (i := 4) hH rfl (by kernel_rfl) (Wants.free rfl) rfl (fun _ => rfl) (Rd.fa (v := .pointer (some (a1.add (Int.toNat i1 * 2)))) rfl (fun _ => by kernel_rfl)) ?_
    replace h := h  w5  hc_w5
    obtain ⟨t1, hc1, h⟩ := h
    refine HW.take (i := 5) hH rfl (by kernel_rfl) (by kernel_rfl) (Wants.free rfl) rfl (fun _ => rfl) (Rd.ld (v := .int .i64 t1) rfl (by kernel_rfl) (eqs hc1)) ?_
    refine HW.pure (i := 6) hH rfl (by kernel_rfl) (Wants.free rfl) rfl (fun _ => rfl) (Rd.move (v := .slice l1 l1n l1c) rfl) ?_
    refine HW.pure (i := 7) hH rfl (by kernel_rfl) (Wants.free rfl) rfl (fun _ => rfl) (Rd.move (v := .int .i64 i1) rfl) ?_
    refine HW.pure (i := 8) hH rfl (by kernel_rfl) (Wants.free rfl) rfl (fun _ => rfl) (Rd.iaS (q := a1) (sz := 2) (by rw [← he1]; rfl) rfl Tryd.underlying36 (by kernel_rfl) hi1 hi2) ?_
    refine HW.pure (i := 9) hH rfl (by kernel_rfl) (Wants.free rfl) rfl (fun _ => rfl) (Rd.fa (v := .pointer (some ((a1.add (Int.toNat i1 * 2)).add 1))) rfl (fun _ => by kernel_rfl)) ?_
    obtain ⟨t2, t2n, t2c, hc2, h⟩ := h
    refine HW.take (i := 10) hH rfl (by kernel_rfl) (by kernel_rfl) (Wants.free rfl) rfl (fun _ => rfl) (Rd.ld (v := .slice t2 t2n t2c) rfl (by kernel_rfl) (eqs hc2)) ?_
    refine HW.pure (i := 12) hH rfl (by kernel_rfl) (Wants.free rfl) rfl (fun _ => rfl) (Rd.move (v := .int .i64 want1) rfl) ?_
    refine HW.call (i := 11) hH (by kernel_rfl) rfl (Wants.free rfl) rfl (Cl.fn (f := 9) rfl Tryd.func9 (by kernel_rfl) rfl) h (fun e w6 h_ => ?_)
    clear h
    obtain ⟨r5, rfl, h⟩ := h_
    refine ⟨_, rfl, (fun hc => by cases hc), ?_⟩
    refine HW.pure (i := 13) hH rfl (by kernel_rfl) (Wants.free rfl) rfl (fun hc => by cases hc) (Rd.bin (v := .bool (!(r5 == want1))) rfl rfl (fun w => by kernel_rfl)) ?_
    refine HW.done hH (by kernel_rfl) ?_
    refine NW.then ?_
    refine CW.cond rfl (fun hb2 => ?_) (fun hb2 => ?_)
    ·replace h := h.1 hb2
     refine CW.seq ?_
     refine CW.region fun L hL => ?_
     refine LW.rd hL rfl (Wants.free rfl) rfl (Rd.move (v := .pointer r4) rfl) ?_
     refine LW.rd hL rfl (Wants.free rfl) rfl (Rd.move (v := .slice notes1 notes1n notes1c) rfl) ?_
     refine LW.rd hL rfl (Wants.free rfl) rfl (Rd.assign (v := .pointer r4) rfl) ?_
     refine LW.rd hL rfl (Wants.free rfl) rfl (Rd.assign (v := .slice notes1 notes1n notes1c) rfl) ?_
     refine LW.rd hL rfl (Wants.free rfl) rfl (Rd.assign (v := .bool false) rfl) ?_
     refine LW.nil hL rfl ?_
     refine NW.then ?_
     refine CW.ret ?_
     refine RW.then ?_
     refine RW.block ?_
     refine RW.then ?_
     refine RW.then ?_
     refine RW.block ?_
     refine RW.then ?_
     exact res3 rfl rfl rfl rfl ⟨r4, notes1, notes1n, notes1c, false, rfl, h⟩
    ·replace h := h.2 hb2
     refine CW.skip ?_
     refine NW.then ?_
     refine CW.seq ?_
     refine CW.seq ?_
     refine CW.region fun L hL => ?_
     refine LW.rd hL rfl (Wants.free rfl) rfl (Rd.move (v := .int .i64 want1) rfl) ?_
     refine LW.rd hL rfl (Wants.free rfl) rfl (Rd.bin (v := .bool (!(want1 == 0))) rfl rfl (fun w => by kernel_rfl)) ?_
     refine LW.nil hL rfl ?_
     refine NW.then ?_
     refine CW.cond rfl (fun hb3 => ?_) (fun hb3 => ?_)
     ·replace h := h.1 hb3
      refine CW.exit ?_
      refine XW.then ?_
      refine XW.hit ?_
      exact NW.cut (S := (Option Addr) × (Option Addr) × Nat × Nat × Bool × (Option Addr) × Nat × Nat × Int) (Ek := fun s2 => [(0, .slice l1 l1n l1c), (5, .pointer r4), (8, .int .i64 i1), (2, .pointer s2.1), (3, .slice s2.2.1 s2.2.2.1 s2.2.2.2.1), (4, .bool s2.2.2.2.2.1), (6, .slice s2.2.2.2.2.2.1 s2.2.2.2.2.2.2.1 s2.2.2.2.2.2.2.2.1), (7, .int .i64 s2.2.2.2.2.2.2.2.2)]) (x1, x2, x2n, x2c, x3, notes1, notes1n, notes1c, last1) (by exact ⟨rfl, rfl, rfl, rfl, rfl, rfl, rfl, rfl, trivial⟩) h
     ·replace h := h.2 hb3
      refine CW.skip ?_
      refine NW.then ?_
      refine CW.seq ?_
      refine CW.region fun L hL => ?_
      refine LW.rd hL rfl (Wants.free rfl) rfl (Rd.assign (v := .int .i64 0) rfl) ?_
      refine LW.nil hL rfl ?_
      refine NW.then ?_
      refine CW.block ?_
      obtain ⟨I2, m2, hI2, h⟩ := h
      refine CW.loop (S := (Option Addr) × Nat × Nat × Int × Int) (fun s3 => [(0, .slice l1 l1n l1c), (2, .pointer x1), (3, .slice x2 x2n x2c), (4, .bool x3), (5, .pointer r4), (8, .int .i64 i1), (6, .slice s3.1 s3.2.1 s3.2.2.1), (7, .int .i64 s3.2.2.2.1), (10, .int .i64 s3.2.2.2.2)]) (fun s3 w7 => I2 s3.1 s3.2.1 s3.2.2.1 s3.2.2.2.1 s3.2.2.2.2 w7) (fun s3 w7 => m2 s3.1 s3.2.1 s3.2.2.1 s3.2.2.2.1 s3.2.2.2.2 w7) (notes1, notes1n, notes1c, last1, 0) (by exact ⟨rfl, rfl, rfl, rfl, rfl, rfl, rfl, rfl, rfl, trivial⟩) hI2 (fun s3 w7 hI2 => ?_)
      obtain ⟨notes3, notes3n, notes3c, last3, k1⟩ := s3; replace h := h notes3 notes3n notes3c last3 k1 w7 hI2
      refine CW.seq ?_
      refine CW.seq ?_
      refine CW.region fun L hL => ?_
      refine LW.rd hL rfl (Wants.free rfl) rfl (Rd.move (v := .int .i64 k1) rfl) ?_
      refine LW.rd hL rfl (Wants.free rfl) rfl (Rd.move (v := .slice l1 l1n l1c) rfl) ?_
      refine LW.rd hL rfl (Wants.free rfl) rfl (Rd.move (v := .int .i64 i1) rfl) ?_
      refine LW.rd hL rfl (Wants.free rfl) rfl (Rd.iaS (q := a1) (sz := 2) (by rw [← he1]; rfl) rfl Tryd.underlying36 (by kernel_rfl) hi1 hi2) ?_
      refine LW.rd hL rfl (Wants.free rfl) rfl (Rd.fa (v := .pointer (some ((a1.add (Int.toNat i1 * 2)).add 1))) rfl (fun _ => by kernel_rfl)) ?_
      obtain ⟨t3, t3n, t3c, hc3, h⟩ := h
      refine LW.rd hL rfl (Wants.free rfl) rfl (Rd.ld (v := .slice t3 t3n t3c) rfl (by kernel_rfl) (eqs hc3)) ?_
      refine LW.rd hL rfl (Wants.free rfl) rfl (Rd.builtin (v := .int .i64 (t3n : Int)) rfl (fun _ _ => by kernel_rfl)) ?_
      refine LW.rd hL rfl (Wants.free rfl) rfl (Rd.bin (v := .bool (decide (k1 < (t3n : Int)))) rfl rfl (fun w => by kernel_rfl)) ?_
      refine LW.nil hL rfl ?_
      refine NW.then ?_
      refine CW.cond rfl (fun hb4 => ?_) (fun hb4 => ?_)
      ·replace h := h.1 hb4
       refine CW.skip ?_
       refine NW.then ?_
       obtain ⟨J3, hJ3, h⟩ := h
       refine CW.cut (S := (Option Addr) × Nat × Nat × Int) (fun s4 => [(0, .slice l1 l1n l1c), (2, .pointer x1), (3, .slice x2 x2n x2c), (4, .bool x3), (5, .pointer r4), (8, .int .i64 i1), (10, .int .i64 k1), (6, .slice s4.1 s4.2.1 s4.2.2.1), (7, .int .i64 s4.2.2.2)]) (fun s4 w8 => J3 s4.1 s4.2.1 s4.2.2.1 s4.2.2.2 w8) (fun s4 w8 h_ => ?_) ?_
       ·obtain ⟨notes4, notes4n, notes4c, last4⟩ := s4; replace h := hJ3 notes4 notes4n notes4c last4 w8 h_; clear h_
        refine CW.region fun L hL => ?_
        refine LW.rd hL rfl (Wants.free rfl) rfl (Rd.move (v := .int .i64 k1) rfl) ?_
        refine LW.rd hL rfl (Wants.free rfl) rfl (Rd.bin (v := .int .i64 (IntKind.wrap .i64 (k1 + 1))) rfl rfl (fun w => by kernel_rfl)) ?_
        refine LW.rd hL rfl (Wants.free rfl) rfl (Rd.assign (v := .int .i64 (IntKind.wrap .i64 (k1 + 1))) rfl) ?_
        refine LW.nil hL rfl ?_
        exact NW.loop (S := (Option Addr) × Nat × Nat × Int × Int) (Ek := fun s3 => [(0, .slice l1 l1n l1c), (2, .pointer x1), (3, .slice x2 x2n x2c), (4, .bool x3), (5, .pointer r4), (8, .int .i64 i1), (6, .slice s3.1 s3.2.1 s3.2.2.1), (7, .int .i64 s3.2.2.2.1), (10, .int .i64 s3.2.2.2.2)]) (notes4, notes4n, notes4c, last4, IntKind.wrap .i64 (k1 + 1)) (by exact ⟨rfl, rfl, rfl, rfl, rfl, rfl, rfl, rfl, rfl, trivial⟩) h
       ·skip
        refine CW.block ?_
        refine CW.seq ?_
        refine CW.region fun L hL => ?_
        refine LW.rd hL rfl (Wants.free rfl) rfl (Rd.move (v := .slice l1 l1n l1c) rfl) ?_
        refine LW.rd hL rfl (Wants.free rfl) rfl (Rd.move (v := .int .i64 i1) rfl) ?_
        refine LW.rd hL rfl (Wants.free rfl) rfl (Rd.iaS (q := a1) (sz := 2) (by rw [← he1]; rfl) rfl Tryd.underlying36 (by kernel_rfl) hi1 hi2) ?_
        refine LW.rd hL rfl (Wants.free rfl) rfl (Rd.fa (v := .pointer (some ((a1.add (Int.toNat i1 * 2)).add 1))) rfl (fun _ => by kernel_rfl)) ?_
        refine LW.rd hL rfl (Wants.free rfl) rfl (Rd.ld (v := .slice t3 t3n t3c) rfl (by kernel_rfl) (eqs hc3)) ?_
        refine LW.rd hL rfl (Wants.free rfl) rfl (Rd.move (v := .int .i64 k1) rfl) ?_
        obtain ⟨a2, he2, hi9, hi10, h⟩ := h
        refine LW.rd hL rfl (Wants.free rfl) rfl (Rd.iaS (q := a2) (sz := 3) (by rw [← he2]; rfl) rfl Tryd.underlying45 (by kernel_rfl) hi9 hi10) ?_
        obtain ⟨t4, t5, t6, t6n, t6c, hc4, h⟩ := h
        refine LW.rd hL rfl (Wants.free rfl) rfl (Rd.ldN (cs := [.int .i64 t4, .int .i64 t5, .slice t6 t6n t6c]) rfl (by kernel_rfl) (by kernel_rfl) (cellsS hc4)) ?_
        obtain ⟨b1, hb_b1⟩ : ∃ b1, b1 = World.size w7 := ⟨_, rfl⟩
        obtain ⟨w9, hw_w9⟩ : ∃ w9, w9 = World.alloc w7 (.cells #[.int .i64 0, .int .i64 0, .slice none 0 0] 33) := ⟨_, rfl⟩
        refine LW.val hL rfl (Wants.free rfl) rfl (boxE hb_b1 hw_w9 (Vl.alloc (z := .agg #[.int .i64 0, .int .i64 0, .slice none 0 0]) (by kernel_rfl))) ?_
        have hB := Boxes.alloc (cs := [.int .i64 0, .int .i64 0, .slice none 0 0]) (T := 33) (Boxes.nil w7) hb_b1 hw_w9
        have hlo_b1 := sil_lo (Chg.refl [] w7) hb_b1
        have hc_w9 := sil_alloc (Chg.refl [] w7) hw_w9
        obtain ⟨w10, hw_w10⟩ : ∃ x, x = setCells w9 (⟨b1, 0, none⟩ : Addr) 0 [.int .i64 t4, .int .i64 t5, .slice t6 t6n t6c] := ⟨_, rfl⟩
        refine LW.eff hL rfl (Wants.free rfl) rfl (stNE hw_w10 (Ef.stN (cs := [.int .i64 t4, .int .i64 t5, .slice t6 t6n t6c]) rfl rfl (by kernel_rfl) (List.forall_mem_cons.2 ⟨rfl, (List.forall_mem_cons.2 ⟨rfl, (List.forall_mem_cons.2 ⟨rfl, (List.forall_mem_nil _)⟩)⟩)⟩) (has_of (hB.at (i := 0) rfl) (by simp)) (free_of' (hB.at (i := 0) rfl)))) ?_
        replace hB : Boxes w10 [(b1, [.int .i64 t4, .int .i64 t5, .slice t6 t6n t6c], 33)] := Boxes.store (vs := [.int .i64 t4, .int .i64 t5, .slice t6 t6n t6c]) (i := 0) (o := 0) hB rfl rfl rfl rfl hw_w10
        have hc_w10 := sil_new hc_w9 (sil_cN hw_w10) hlo_b1
        refine LW.nil hL rfl ?_
        refine NW.then ?_
        refine CW.seq ?_
        refine CW.region fun L hL => ?_
        refine LW.rd hL rfl (Wants.free rfl) rfl (Rd.fa (v := .pointer (some (⟨b1, 0, none⟩ : Addr))) rfl (fun _ => by kernel_rfl)) ?_
        refine LW.rd hL rfl (Wants.free rfl) rfl (Rd.ldN (cs := [.int .i64 t4, .int .i64 t5]) rfl (by kernel_rfl) (by kernel_rfl) (cellsS (box_cells (hB.at (i := 0) rfl) rfl))) ?_
        refine LW.rd hL rfl (Wants.free rfl) rfl (Rd.build (v := .agg #[.int .i64 0, .int .i64 0]) rfl (fun _ => by kernel_rfl)) ?_
        refine LW.rd hL rfl (Wants.free rfl) rfl (Rd.bin (v := .bool (!((t4 == 0) && (t5 == 0)))) rfl rfl (fun w => neS_27 _ _ _ _ w)) ?_
        refine LW.nil hL rfl ?_
        refine NW.then ?_
        replace h := h b1 w10 ⟨hlo_b1, lt_of_heap (hB.at (i := 0) rfl)⟩ hc_w10
        refine CW.cond rfl (fun hb5 => ?_) (fun hb5 => ?_)
        ·replace h := h.1 hb5
         refine CW.seq ?_
         obtain ⟨w11, hw_w11⟩ : ∃ x, x = World.drew w10 := ⟨_, rfl⟩
         have hc_w11 := sil_drew (Chg.refl [] w10) hw_w11
         replace hB := hB.drew hw_w11
         replace h := h  w11  hc_w11
         obtain ⟨t7, hc5, h⟩ := h
         refine CW.drawn (fun w => w.cell? (a1.add (Int.toNat i1 * 2)) = some (.int .i64 t7) ∧ Boxes w [(b1, [.int .i64 t4, .int .i64 t5, .slice t6 t6n t6c], 33)]) 12 (by kernel_rfl) fun H hH => ?_
         rw [← hw_w11]
         have hS1 : w11.cell? (a1.add (Int.toNat i1 * 2)) = some (.int .i64 t7) ∧ Boxes w11 [(b1, [.int .i64 t4, .int .i64 t5, .slice t6 t6n t6c], 33)] := ⟨hc5, hB⟩
         refine HW.pure (i := 0) hH rfl (by kernel_rfl) (Wants.free rfl) rfl (fun _ => hS1) (Rd.move (v := .slice notes3 notes3n notes3c) rfl) ?_
         refine HW.pure (i := 1) hH rfl (by kernel_rfl) (Wants.free rfl) rfl (fun _ => hS1) (Rd.move (v := .slice l1 l1n l1c) rfl) ?_
         refine HW.pure (i := 2) hH rfl (by kernel_rfl) (Wants.free rfl) rfl (fun _ => hS1) (Rd.move (v := .int .i64 i1) rfl) ?_
         refine HW.pure (i := 3) hH rfl (by kernel_rfl) (Wants.free rfl) rfl (fun _ => hS1) (Rd.iaS (q := a1) (sz := 2) (by rw [← he1]; rfl) rfl Tryd.underlying36 (by kernel_rfl) hi1 hi2) ?_
         refine HW.pure (i := 4) hH rfl (by kernel_rfl) (Wants.free rfl) rfl (fun _ => hS1) (Rd.fa (v := .pointer (some (a1.add (Int.toNat i1 * 2)))) rfl (fun _ => by kernel_rfl)) ?_
         refine HW.take (i := 5) hH rfl (by kernel_rfl) (by kernel_rfl) (Wants.free rfl) rfl (fun _ => hS1) (Rd.ld (v := .int .i64 t7) rfl (by kernel_rfl) (fun w h => h.1)) ?_
         refine HW.pure (i := 6) hH rfl (by kernel_rfl) (Wants.free rfl) rfl (fun _ => hS1) (Rd.fa (v := .pointer (some (⟨b1, 0, none⟩ : Addr))) rfl (fun _ => by kernel_rfl)) ?_
         refine HW.take (i := 7) hH rfl (by kernel_rfl) (by kernel_rfl) (Wants.free rfl) rfl (fun _ => hS1) (Rd.ldN (cs := [.int .i64 t4, .int .i64 t5]) rfl (by kernel_rfl) (by kernel_rfl) (fun w h => cellsAt_get (box_cells (Boxes.at (i := 0) h.2 rfl) rfl))) ?_
         refine HW.pure (i := 8) hH rfl (by kernel_rfl) (Wants.free rfl) rfl (fun _ => hS1) (Rd.fa (v := .pointer (some (⟨b1, 2, none⟩ : Addr))) rfl (fun _ => by kernel_rfl)) ?_
         refine HW.take (i := 9) hH rfl (by kernel_rfl) (by kernel_rfl) (Wants.free rfl) rfl (fun _ => hS1) (Rd.ld (v := .slice t6 t6n t6c) rfl (by kernel_rfl) (fun w h => box_cell (Boxes.at (i := 0) h.2 rfl) rfl)) ?_
         refine HW.pure (i := 10) hH rfl (by kernel_rfl) (Wants.free rfl) rfl (fun _ => hS1) (Rd.build (v := .agg #[.int .i64 t7, .int .i64 t4, .int .i64 t5, .slice t6 t6n t6c]) rfl (fun _ => by kernel_rfl)) ?_
         obtain ⟨b2, hb_b2⟩ : ∃ b2, b2 = World.size w11 := ⟨_, rfl⟩
         obtain ⟨w12, hw_w12⟩ : ∃ w12, w12 = World.alloc w11 (.cells #[.int .i64 t7, .int .i64 t4, .int .i64 t5, .slice t6 t6n t6c] 50) := ⟨_, rfl⟩
         replace h := h b2 hb_b2 w12 hw_w12
         have hS2 := (⟨cellAlloc hw_w12 hS1.1, ((hS1.2).grow hw_w12)⟩ : w12.cell? (a1.add (Int.toNat i1 * 2)) = some (.int .i64 t7) ∧ Boxes w12 [(b1, [.int .i64 t4, .int .i64 t5, .slice t6 t6n t6c], 33)])
         refine HW.val (i := 11) hH (by kernel_rfl) rfl (Wants.free rfl) rfl (sliceE (n := 1) hb_b2 hw_w12 (fun w => Vl.buildSlice (vs := [(0, .agg #[.int .i64 t7, .int .i64 t4, .int .i64 t5, .slice t6 t6n t6c])]) rfl (by kernel_rfl))) (fun _ => hS2) ?_
         replace hB := hB.grow hw_w12
         obtain ⟨l2, l2n, l2c, w13, ha1, h⟩ := h
         refine HW.val (i := 12) hH (by kernel_rfl) rfl (Wants.free rfl) rfl (Vl.builtin (v := .slice l2 l2n l2c) rfl (valB ha1)) (fun hc => by cases hc) ?_
         refine HW.pure (i := 13) hH rfl (by kernel_rfl) (Wants.free rfl) rfl (fun hc => by cases hc) (Rd.assign (v := .slice l2 l2n l2c) rfl) ?_
         refine HW.done hH (by kernel_rfl) ?_
         refine NW.then ?_
         refine CW.region fun L hL => ?_
         refine LW.rd hL rfl (Wants.free rfl) rfl (Rd.move (v := .slice l1 l1n l1c) rfl) ?_
         refine LW.rd hL rfl (Wants.free rfl) rfl (Rd.move (v := .int .i64 i1) rfl) ?_
         refine LW.rd hL rfl (Wants.free rfl) rfl (Rd.iaS (q := a1) (sz := 2) (by rw [← he1]; rfl) rfl Tryd.underlying36 (by kernel_rfl) hi1 hi2) ?_
         refine LW.rd hL rfl (Wants.free rfl) rfl (Rd.fa (v := .pointer (some (a1.add (Int.toNat i1 * 2)))) rfl (fun _ => by kernel_rfl)) ?_
         obtain ⟨t8, hc6, h⟩ := h
         refine LW.rd hL rfl (Wants.free rfl) rfl (Rd.ld (v := .int .i64 t8) rfl (by kernel_rfl) (eqs hc6)) ?_
         refine LW.rd hL rfl (Wants.free rfl) rfl (Rd.assign (v := .int .i64 t8) rfl) ?_
         refine LW.nil hL rfl ?_
         refine NW.block ?_
         exact NW.cut (S := (Option Addr) × Nat × Nat × Int) (Ek := fun s4 => [(0, .slice l1 l1n l1c), (2, .pointer x1), (3, .slice x2 x2n x2c), (4, .bool x3), (5, .pointer r4), (8, .int .i64 i1), (10, .int .i64 k1), (6, .slice s4.1 s4.2.1 s4.2.2.1), (7, .int .i64 s4.2.2.2)]) (l2, l2n, l2c, t8) (by exact ⟨rfl, rfl, rfl, rfl, rfl, rfl, rfl, rfl, rfl, trivial⟩) h
        ·replace h := h.2 hb5
         refine CW.skip ?_
         refine NW.block ?_
         exact NW.cut (S := (Option Addr) × Nat × Nat × Int) (Ek := fun s4 => [(0, .slice l1 l1n l1c), (2, .pointer x1), (3, .slice x2 x2n x2c), (4, .bool x3), (5, .pointer r4), (8, .int .i64 i1), (10, .int .i64 k1), (6, .slice s4.1 s4.2.1 s4.2.2.1), (7, .int .i64 s4.2.2.2)]) (notes3, notes3n, notes3c, last3) (by exact ⟨rfl, rfl, rfl, rfl, rfl, rfl, rfl, rfl, rfl, trivial⟩) h
      ·replace h := h.2 hb4
       refine CW.exit ?_
       refine XW.then ?_
       refine XW.then ?_
       refine XW.hit ?_
       refine NW.block ?_
       exact NW.cut (S := (Option Addr) × (Option Addr) × Nat × Nat × Bool × (Option Addr) × Nat × Nat × Int) (Ek := fun s2 => [(0, .slice l1 l1n l1c), (5, .pointer r4), (8, .int .i64 i1), (2, .pointer s2.1), (3, .slice s2.2.1 s2.2.2.1 s2.2.2.2.1), (4, .bool s2.2.2.2.2.1), (6, .slice s2.2.2.2.2.2.1 s2.2.2.2.2.2.2.1 s2.2.2.2.2.2.2.2.1), (7, .int .i64 s2.2.2.2.2.2.2.2.2)]) (x1, x2, x2n, x2c, x3, notes3, notes3n, notes3c, last3) (by exact ⟨rfl, rfl, rfl, rfl, rfl, rfl, rfl, rfl, trivial⟩) h
   ·skip
    refine CW.seq ?_
    refine CW.region fun L hL => ?_
    refine LW.rd hL rfl (Wants.free rfl) rfl (Rd.move (v := .slice l1 l1n l1c) rfl) ?_
    refine LW.rd hL rfl (Wants.free rfl) rfl (Rd.move (v := .int .i64 i1) rfl) ?_
    obtain ⟨a3, he3, hi15, hi16, h⟩ := h
    refine LW.rd hL rfl (Wants.free rfl) rfl (Rd.iaS (q := a3) (sz := 2) (by rw [← he3]; rfl) rfl Tryd.underlying36 (by kernel_rfl) hi15 hi16) ?_
    refine LW.rd hL rfl (Wants.free rfl) rfl (Rd.fa (v := .pointer (some (a3.add (Int.toNat i1 * 2)))) rfl (fun _ => by kernel_rfl)) ?_
    obtain ⟨t9, hc7, h⟩ := h
    refine LW.rd hL rfl (Wants.free rfl) rfl (Rd.ld (v := .int .i64 t9) rfl (by kernel_rfl) (eqs hc7)) ?_
    refine LW.rd hL rfl (Wants.free rfl) rfl (Rd.bin (v := .bool (decide (t9 < 0))) rfl rfl (fun w => by kernel_rfl)) ?_
    refine LW.rd hL rfl (Wants.free rfl) rfl (Rd.move (v := .bool (decide (t9 < 0))) rfl) ?_
    obtain ⟨J4, hJ4, h1_J4, h0_J4⟩ := h
    suffices K1 : ∀ (b3 : Bool) (w14 : World), J4 b3 w14 → L 15 [(0, .slice l1 l1n l1c), (2, .pointer x1), (3, .slice x2 x2n x2c), (4, .bool x3), (5, .pointer r4), (6, .slice notes1 notes1n notes1c), (7, .int .i64 last1), (8, .int .i64 i1), (9, .int .i64 0), (33, .bool b3)] w14 by
     rcases Bool.eq_false_or_eq_true (decide (t9 < 0)) with hb6 | hb6
     ·have h := h0_J4 hb6
      refine LW.skip hL rfl (Skips.on rfl rfl rfl rfl rfl hb6) rfl ?_
      refine LW.skip hL rfl (Skips.on rfl rfl rfl rfl rfl hb6) rfl ?_
      refine LW.skip hL rfl (Skips.on rfl rfl rfl rfl rfl hb6) rfl ?_
      refine LW.skip hL rfl (Skips.on rfl rfl rfl rfl rfl hb6) rfl ?_
      refine LW.skip hL rfl (Skips.on rfl rfl rfl rfl rfl hb6) rfl ?_
      refine LW.skip hL rfl (Skips.on rfl rfl rfl rfl rfl hb6) rfl ?_
      refine LW.skip hL rfl (Skips.on rfl rfl rfl rfl rfl hb6) rfl ?_
      refine LW.rd hL rfl (Wants.free rfl) rfl (Rd.pickT rfl hb6 rfl) ?_
      exact LW.sub hL (by exact ⟨rfl, rfl, rfl, rfl, rfl, rfl, rfl, rfl, rfl, rfl, trivial⟩) (K1 true w2 h)
     ·have h := h1_J4 hb6
      refine LW.rd hL rfl (Wants.on rfl rfl rfl rfl rfl hb6) rfl (Rd.move (v := .slice l1 l1n l1c) rfl) ?_
      refine LW.rd hL rfl (Wants.on rfl rfl rfl rfl rfl hb6) rfl (Rd.move (v := .int .i64 i1) rfl) ?_
      refine LW.rd hL rfl (Wants.on rfl rfl rfl rfl rfl hb6) rfl (Rd.iaS (q := a3) (sz := 2) (by rw [← he3]; rfl) rfl Tryd.underlying36 (by kernel_rfl) hi15 hi16) ?_
      refine LW.rd hL rfl (Wants.on rfl rfl rfl rfl rfl hb6) rfl (Rd.fa (v := .pointer (some (a3.add (Int.toNat i1 * 2)))) rfl (fun _ => by kernel_rfl)) ?_
      refine LW.rd hL rfl (Wants.on rfl rfl rfl rfl rfl hb6) rfl (Rd.ld (v := .int .i64 t9) rfl (by kernel_rfl) (eqs hc7)) ?_
      refine LW.rd hL rfl (Wants.on rfl rfl rfl rfl rfl hb6) rfl (Rd.move (v := .int .i64 last1) rfl) ?_
      refine LW.rd hL rfl (Wants.on rfl rfl rfl rfl rfl hb6) rfl (Rd.bin (v := .bool (decide (t9 < last1))) rfl rfl (fun w => by kernel_rfl)) ?_
      refine LW.rd hL rfl (Wants.free rfl) rfl (Rd.pickF rfl hb6 rfl) ?_
      exact LW.sub hL (by exact ⟨rfl, rfl, rfl, rfl, rfl, rfl, rfl, rfl, rfl, rfl, trivial⟩) (K1 (decide (t9 < last1)) w2 h)
    intro b3 w14 h_
    have h := hJ4 b3 w14 h_; clear h_
    refine LW.nil hL rfl ?_
    refine NW.then ?_
    refine CW.cond rfl (fun hb7 => ?_) (fun hb7 => ?_)
    ·replace h := h.1 hb7
     refine CW.region fun L hL => ?_
     refine LW.rd hL rfl (Wants.free rfl) rfl (Rd.assign (v := .int .i64 2) rfl) ?_
     refine LW.nil hL rfl ?_
     exact NW.cut (S := Int) (Ek := fun want1 => [(0, .slice l1 l1n l1c), (2, .pointer x1), (3, .slice x2 x2n x2c), (4, .bool x3), (5, .pointer r4), (6, .slice notes1 notes1n notes1c), (7, .int .i64 last1), (8, .int .i64 i1), (9, .int .i64 want1)]) 2 (by exact ⟨rfl, rfl, rfl, rfl, rfl, rfl, rfl, rfl, rfl, trivial⟩) h
    ·replace h := h.2 hb7
     refine CW.skip ?_
     exact NW.cut (S := Int) (Ek := fun want1 => [(0, .slice l1 l1n l1c), (2, .pointer x1), (3, .slice x2 x2n x2c), (4, .bool x3), (5, .pointer r4), (6, .slice notes1 notes1n notes1c), (7, .int .i64 last1), (8, .int .i64 i1), (9, .int .i64 want1)]) 0 (by exact ⟨rfl, rfl, rfl, rfl, rfl, rfl, rfl, rfl, rfl, trivial⟩) h
 ·replace h := h.2 hb1
  refine CW.exit ?_
  refine XW.then ?_
  refine XW.then ?_
  refine XW.hit ?_
  refine NW.then ?_
  refine CW.seq ?_
  refine CW.region fun L hL => ?_
  refine LW.rd hL rfl (Wants.free rfl) rfl (Rd.move (v := .pointer r4) rfl) ?_
  refine LW.rd hL rfl (Wants.free rfl) rfl (Rd.move (v := .slice notes1 notes1n notes1c) rfl) ?_
  refine LW.rd hL rfl (Wants.free rfl) rfl (Rd.move (v := .pointer r4) rfl) ?_
  refine LW.call hL rfl (Wants.free rfl) rfl (Cl.fn (f := 27) rfl Tryd.func27 (by kernel_rfl) rfl) h (fun e w15 h_ => ?_)
  clear h
  obtain ⟨r6, rfl, h⟩ := h_
  refine ⟨_, rfl, ?_⟩
  refine LW.rd hL rfl (Wants.free rfl) rfl (Rd.move (v := .slice notes1 notes1n notes1c) rfl) ?_
  refine LW.rd hL rfl (Wants.free rfl) rfl (Rd.builtin (v := .int .i64 (notes1n : Int)) rfl (fun _ _ => by kernel_rfl)) ?_
  refine LW.rd hL rfl (Wants.free rfl) rfl (Rd.bin (v := .bool (r6 == (notes1n : Int))) rfl rfl (fun w => by kernel_rfl)) ?_
  refine LW.rd hL rfl (Wants.free rfl) rfl (Rd.assign (v := .pointer r4) rfl) ?_
  refine LW.rd hL rfl (Wants.free rfl) rfl (Rd.assign (v := .slice notes1 notes1n notes1c) rfl) ?_
  refine LW.rd hL rfl (Wants.free rfl) rfl (Rd.assign (v := .bool (r6 == (notes1n : Int))) rfl) ?_
  refine LW.nil hL rfl ?_
  refine NW.then ?_
  refine CW.ret ?_
  exact res3 rfl rfl rfl rfl ⟨r4, notes1, notes1n, notes1c, r6 == (notes1n : Int), rfl, h⟩
/- pomander/pomanderref10.SamePlaces -/
def W_pomanderref10_SamePlaces (a1 : Option Addr) (a1n : Nat) (a1c : Nat) (b1 : Option Addr) (b1n : Nat) (b1c : Nat) (w : World) (R : Bool → World → Prop) : Prop :=
 ((!((a1n : Int) == (b1n : Int))) = true → R false w) ∧ ((!((a1n : Int) == (b1n : Int))) = false → ∃ (I1 : Bool → Int → World → Prop) (m1 : Bool → Int → World → Nat), I1 false 0 w ∧ ∀ (x1 : Bool) (i1 : Int) (w1 : World), I1 x1 i1 w1 → ((decide (i1 < (a1n : Int))) = true → ∃ a2 : Addr, a1 = some a2 ∧ (0 : Int) ≤ i1 ∧ i1 < (a1n : Int) ∧ (∀ (w2 : World), Chg [] w1 w2 → (∃ (t1 : Int) (t2 : Int), CellsAt w2 (a2.add (Int.toNat i1 * 2)) 0 [.int .i64 t1, .int .i64 t2] ∧ (∃ a3 : Addr, b1 = some a3 ∧ (0 : Int) ≤ i1 ∧ i1 < (b1n : Int) ∧ (∃ (t3 : Int) (t4 : Int), CellsAt w2 (a3.add (Int.toNat i1 * 2)) 0 [.int .i64 t3, .int .i64 t4] ∧ (((!((t1 == t3) && (t2 == t4))) = true → R false w2) ∧ ((!((t1 == t3) && (t2 == t4))) = false → (I1 x1 (IntKind.wrap .i64 (i1 + 1)) w2 ∧ m1 x1 (IntKind.wrap .i64 (i1 + 1)) w2 < m1 x1 i1 w1)))))))) ∧ ((decide (i1 < (a1n : Int))) = false → R true w1))
set_option maxRecDepth 100000 in
theorem go_pomanderref10_SamePlaces (a1 : Option Addr) (a1n : Nat) (a1c : Nat) (b1 : Option Addr) (b1n : Nat) (b1c : Nat) (w : World) (R : Bool → World → Prop) (h : W_pomanderref10_SamePlaces a1 a1n a1c b1 b1n b1c w R) : Calls Tryd.prog 13 #[.slice a1 a1n a1c, .slice b1 b1n b1c] w (fun e w' => ∃ (r1 : Bool), e = .returned (.bool r1) ∧ R r1 w') := by
 unfold W_pomanderref10_SamePlaces at h
 refine enter (N := 26) Tryd.func13 rfl rfl ?_
 refine CW.seq ?_
 refine CW.region fun L hL => ?_
 refine LW.rd hL rfl (Wants.free rfl) rfl (Rd.assign (v := .bool false) rfl) ?_
 refine LW.nil hL rfl ?_
 refine NW.then ?_
 refine CW.seq ?_
 refine CW.seq ?_
 refine CW.region fun L hL => ?_
 refine LW.rd hL rfl (Wants.free rfl) rfl (Rd.move (v := .slice a1 a1n a1c) rfl) ?_
 refine LW.rd hL rfl (Wants.free rfl) rfl (Rd.builtin (v := .int .i64 (a1n : Int)) rfl (fun _ _ => by kernel_rfl)) ?_
 refine LW.rd hL rfl (Wants.free rfl) rfl (Rd.move (v := .slice b1 b1n b1c) rfl) ?_
 refine LW.rd hL rfl (Wants.free rfl) rfl (Rd.builtin (v := .int .i64 (b1n : Int)) rfl (fun _ _ => by kernel_rfl)) ?_
 refine LW.rd hL rfl (Wants.free rfl) rfl (Rd.bin (v := .bool (!((a1n : Int) == (b1n : Int)))) rfl rfl (fun w => by kernel_rfl)) ?_
 refine LW.nil hL rfl ?_
 refine NW.then ?_
 refine CW.cond rfl (fun hb1 => ?_) (fun hb1 => ?_)
 ·replace h := h.1 hb1
  refine CW.seq ?_
  refine CW.region fun L hL => ?_
  refine LW.rd hL rfl (Wants.free rfl) rfl (Rd.assign (v := .bool false) rfl) ?_
  refine LW.nil hL rfl ?_
  refine NW.then ?_
  refine CW.ret ?_
  refine RW.then ?_
  exact res1 rfl rfl ⟨false, rfl, h⟩
 ·replace h := h.2 hb1
  refine CW.skip ?_
  refine NW.then ?_
  refine CW.seq ?_
  refine CW.seq ?_
  refine CW.region fun L hL => ?_
  refine LW.rd hL rfl (Wants.free rfl) rfl (Rd.assign (v := .int .i64 0) rfl) ?_
  refine LW.nil hL rfl ?_
  refine NW.then ?_
  refine CW.block ?_
  obtain ⟨I1, m1, hI1, h⟩ := h
  refine CW.loop (S := Bool × Int) (fun s1 => [(0, .slice a1 a1n a1c), (1, .slice b1 b1n b1c), (4, .bool s1.1), (5, .int .i64 s1.2)]) (fun s1 w1 => I1 s1.1 s1.2 w1) (fun s1 w1 => m1 s1.1 s1.2 w1) (false, 0) (by exact ⟨rfl, rfl, rfl, rfl, trivial⟩) hI1 (fun s1 w1 hI1 => ?_)
  obtain ⟨x1, i1⟩ := s1; replace h := h x1 i1 w1 hI1
  refine CW.seq ?_
  refine CW.seq ?_
  refine CW.region fun L hL => ?_
  refine LW.rd hL rfl (Wants.free rfl) rfl (Rd.move (v := .int .i64 i1) rfl) ?_
  refine LW.rd hL rfl (Wants.free rfl) rfl (Rd.move (v := .slice a1 a1n a1c) rfl) ?_
  refine LW.rd hL rfl (Wants.free rfl) rfl (Rd.builtin (v := .int .i64 (a1n : Int)) rfl (fun _ _ => by kernel_rfl)) ?_
  refine LW.rd hL rfl (Wants.free rfl) rfl (Rd.bin (v := .bool (decide (i1 < (a1n : Int)))) rfl rfl (fun w => by kernel_rfl)) ?_
  refine LW.nil hL rfl ?_
  refine NW.then ?_
  refine CW.cond rfl (fun hb2 => ?_) (fun hb2 => ?_)
  ·replace h := h.1 hb2
   refine CW.skip ?_
   refine NW.then ?_
   refine CW.seq ?_
   refine CW.block ?_
   refine CW.seq ?_
   obtain ⟨w2, hw_w2⟩ : ∃ x, x = World.drew w1 := ⟨_, rfl⟩
   have hc_w2 := sil_drew (Chg.refl [] w1) hw_w2
   refine CW.drawn (fun w => w = w2) 9 (by kernel_rfl) fun H hH => ?_
   rw [← hw_w2]
   refine HW.pure (i := 0) hH rfl (by kernel_rfl) (Wants.free rfl) rfl (fun _ => rfl) (Rd.move (v := .slice a1 a1n a1c) rfl) ?_
   refine HW.pure (i := 1) hH rfl (by kernel_rfl) (Wants.free rfl) rfl (fun _ => rfl) (Rd.move (v := .int .i64 i1) rfl) ?_
   obtain ⟨a2, he1, hi1, hi2, h⟩ := h
   refine HW.pure (i := 2) hH rfl (by kernel_rfl) (Wants.free rfl) rfl (fun _ => rfl) (Rd.iaS (q := a2) (sz := 2) (by rw [← he1]; rfl) rfl Tryd.underlying22 (by kernel_rfl) hi1 hi2) ?_
   replace h := h  w2  hc_w2
   obtain ⟨t1, t2, hc1, h⟩ := h
   refine HW.take (i := 3) hH rfl (by kernel_rfl) (by kernel_rfl) (Wants.free rfl) rfl (fun _ => rfl) (Rd.ldN (cs := [.int .i64 t1, .int .i64 t2]) rfl (by kernel_rfl) (by kernel_rfl) (cellsS hc1)) ?_
   refine HW.pure (i := 4) hH rfl (by kernel_rfl) (Wants.free rfl) rfl (fun _ => rfl) (Rd.move (v := .slice b1 b1n b1c) rfl) ?_
   refine HW.pure (i := 5) hH rfl (by kernel_rfl) (Wants.free rfl) rfl (fun _ => rfl) (Rd.move (v := .int .i64 i1) rfl) ?_
   obtain ⟨a3, he2, hi3, hi4, h⟩ := h
   refine HW.pure (i := 6) hH rfl (by kernel_rfl) (Wants.free rfl) rfl (fun _ => rfl) (Rd.iaS (q := a3) (sz := 2) (by rw [← he2]; rfl) rfl Tryd.underlying22 (by kernel_rfl) hi3 hi4) ?_
   obtain ⟨t3, t4, hc2, h⟩ := h
   refine HW.take (i := 7) hH rfl (by kernel_rfl) (by kernel_rfl) (Wants.free rfl) rfl (fun _ => rfl) (Rd.ldN (cs := [.int .i64 t3, .int .i64 t4]) rfl (by kernel_rfl) (by kernel_rfl) (cellsS hc2)) ?_
   refine HW.pure (i := 8) hH rfl (by kernel_rfl) (Wants.free rfl) rfl (fun _ => rfl) (Rd.bin (v := .bool (!((t1 == t3) && (t2 == t4)))) rfl rfl (fun w => neS_27 _ _ _ _ w)) ?_
   refine HW.done hH (by kernel_rfl) ?_
   refine NW.then ?_
   refine CW.cond rfl (fun hb3 => ?_) (fun hb3 => ?_)
   ·replace h := h.1 hb3
    refine CW.seq ?_
    refine CW.region fun L hL => ?_
    refine LW.rd hL rfl (Wants.free rfl) rfl (Rd.assign (v := .bool false) rfl) ?_
    refine LW.nil hL rfl ?_
    refine NW.then ?_
    refine CW.ret ?_
    refine RW.block ?_
    refine RW.then ?_
    refine RW.then ?_
    refine RW.block ?_
    refine RW.then ?_
    exact res1 rfl rfl ⟨false, rfl, h⟩
   ·replace h := h.2 hb3
    refine CW.skip ?_
    refine NW.block ?_
    refine NW.then ?_
    refine CW.region fun L hL => ?_
    refine LW.rd hL rfl (Wants.free rfl) rfl (Rd.move (v := .int .i64 i1) rfl) ?_
    refine LW.rd hL rfl (Wants.free rfl) rfl (Rd.bin (v := .int .i64 (IntKind.wrap .i64 (i1 + 1))) rfl rfl (fun w => by kernel_rfl)) ?_
    refine LW.rd hL rfl (Wants.free rfl) rfl (Rd.assign (v := .int .i64 (IntKind.wrap .i64 (i1 + 1))) rfl) ?_
    refine LW.nil hL rfl ?_
    exact NW.loop (S := Bool × Int) (Ek := fun s1 => [(0, .slice a1 a1n a1c), (1, .slice b1 b1n b1c), (4, .bool s1.1), (5, .int .i64 s1.2)]) (x1, IntKind.wrap .i64 (i1 + 1)) (by exact ⟨rfl, rfl, rfl, rfl, trivial⟩) h
  ·replace h := h.2 hb2
   refine CW.exit ?_
   refine XW.then ?_
   refine XW.then ?_
   refine XW.hit ?_
   refine NW.then ?_
   refine CW.seq ?_
   refine CW.region fun L hL => ?_
   refine LW.rd hL rfl (Wants.free rfl) rfl (Rd.assign (v := .bool true) rfl) ?_
   refine LW.nil hL rfl ?_
   refine NW.then ?_
   refine CW.ret ?_
   exact res1 rfl rfl ⟨true, rfl, h⟩
/- pomander/pomanderlaw14.alike -/
def W_pomanderlaw14_alike (a1 : Int) (a2 : Int) (a3 : Int) (a4 : Option Addr) (a4n : Nat) (a4c : Nat) (b1 : Int) (b2 : Int) (b3 : Int) (b4 : Option Addr) (b4n : Nat) (b4c : Nat) (w : World) (R : Bool → World → Prop) : Prop :=
 ∀ (b6 b5 : Nat) (w2 : World), (w.heap.size ≤ b6 ∧ b6 < w2.heap.size) → (w.heap.size ≤ b5 ∧ b5 < w2.heap.size) → Chg [] w w2 → (∃ J1 : Bool → World → Prop, (∀ (b7 : Bool) (w3 : World), J1 b7 w3 → ∃ J2 : Bool → World → Prop, (∀ (b8 : Bool) (w4 : World), J2 b8 w4 → R b8 w4) ∧ ((b7 = true → Calls Tryd.prog 13 #[.slice a4 a4n a4c, .slice b4 b4n b4c] w3 fun e w5 => ∃ (r2 : Bool), e = .returned (.bool r2) ∧ (J2 r2 w5)) ∧ (b7 = false → J2 false w3))) ∧ (((a1 == b1) = true → J1 ((a2 == b2) && (a3 == b3)) w2) ∧ ((a1 == b1) = false → J1 false w2)))
set_option maxRecDepth 100000 in
theorem go_pomanderlaw14_alike (a1 : Int) (a2 : Int) (a3 : Int) (a4 : Option Addr) (a4n : Nat) (a4c : Nat) (b1 : Int) (b2 : Int) (b3 : Int) (b4 : Option Addr) (b4n : Nat) (b4c : Nat) (w : World) (R : Bool → World → Prop) (h : W_pomanderlaw14_alike a1 a2 a3 a4 a4n a4c b1 b2 b3 b4 b4n b4c w R) : Calls Tryd.prog 16 #[.agg #[.int .i64 a1, .int .i64 a2, .int .i64 a3, .slice a4 a4n a4c], .agg #[.int .i64 b1, .int .i64 b2, .int .i64 b3, .slice b4 b4n b4c]] w (fun e w' => ∃ (r1 : Bool), e = .returned (.bool r1) ∧ R r1 w') := by
 unfold W_pomanderlaw14_alike at h
 refine enter (N := 24) Tryd.func16 rfl rfl ?_
 refine CW.seq ?_
 refine CW.region fun L hL => ?_
 obtain ⟨b5, hb_b5⟩ : ∃ b5, b5 = World.size w := ⟨_, rfl⟩
 obtain ⟨w1, hw_w1⟩ : ∃ w1, w1 = World.alloc w (.cells #[.int .i64 a1, .int .i64 a2, .int .i64 a3, .slice a4 a4n a4c] 50) := ⟨_, rfl⟩
 refine LW.val hL rfl (Wants.free rfl) rfl (boxE hb_b5 hw_w1 (Vl.box (v := .agg #[.int .i64 a1, .int .i64 a2, .int .i64 a3, .slice a4 a4n a4c]) rfl)) ?_
 have hB := Boxes.alloc (cs := [.int .i64 a1, .int .i64 a2, .int .i64 a3, .slice a4 a4n a4c]) (T := 50) (Boxes.nil w) hb_b5 hw_w1
 have hlo_b5 := sil_lo (Chg.refl [] w) hb_b5
 have hc_w1 := sil_alloc (Chg.refl [] w) hw_w1
 obtain ⟨b6, hb_b6⟩ : ∃ b6, b6 = World.size w1 := ⟨_, rfl⟩
 obtain ⟨w2, hw_w2⟩ : ∃ w2, w2 = World.alloc w1 (.cells #[.int .i64 b1, .int .i64 b2, .int .i64 b3, .slice b4 b4n b4c] 50) := ⟨_, rfl⟩
 refine LW.val hL rfl (Wants.free rfl) rfl (boxE hb_b6 hw_w2 (Vl.box (v := .agg #[.int .i64 b1, .int .i64 b2, .int .i64 b3, .slice b4 b4n b4c]) rfl)) ?_
 replace hB := Boxes.alloc (cs := [.int .i64 b1, .int .i64 b2, .int .i64 b3, .slice b4 b4n b4c]) (T := 50) hB hb_b6 hw_w2
 have hlo_b6 := sil_lo hc_w1 hb_b6
 have hc_w2 := sil_alloc hc_w1 hw_w2
 refine LW.rd hL rfl (Wants.free rfl) rfl (Rd.assign (v := .bool false) rfl) ?_
 refine LW.nil hL rfl ?_
 refine NW.then ?_
 refine CW.seq ?_
 refine CW.region fun L hL => ?_
 refine LW.rd hL rfl (Wants.free rfl) rfl (Rd.fa (v := .pointer (some (⟨b5, 0, none⟩ : Addr))) rfl (fun _ => by kernel_rfl)) ?_
 refine LW.rd hL rfl (Wants.free rfl) rfl (Rd.ld (v := .int .i64 a1) rfl (by kernel_rfl) (eqs (box_cell (hB.at (i := 1) rfl) rfl))) ?_
 refine LW.rd hL rfl (Wants.free rfl) rfl (Rd.fa (v := .pointer (some (⟨b6, 0, none⟩ : Addr))) rfl (fun _ => by kernel_rfl)) ?_
 refine LW.rd hL rfl (Wants.free rfl) rfl (Rd.ld (v := .int .i64 b1) rfl (by kernel_rfl) (eqs (box_cell (hB.at (i := 0) rfl) rfl))) ?_
 refine LW.rd hL rfl (Wants.free rfl) rfl (Rd.bin (v := .bool (a1 == b1)) rfl rfl (fun w => by kernel_rfl)) ?_
 refine LW.rd hL rfl (Wants.free rfl) rfl (Rd.move (v := .bool (a1 == b1)) rfl) ?_
 replace h := h b6 b5 w2 ⟨hlo_b6, lt_of_heap (hB.at (i := 0) rfl)⟩ ⟨hlo_b5, lt_of_heap (hB.at (i := 1) rfl)⟩ hc_w2
 obtain ⟨J1, hJ1, h1_J1, h0_J1⟩ := h
 suffices K1 : ∀ (b7 : Bool) (w3 : World), Boxes w3 [(b6, [.int .i64 b1, .int .i64 b2, .int .i64 b3, .slice b4 b4n b4c], 50), (b5, [.int .i64 a1, .int .i64 a2, .int .i64 a3, .slice a4 a4n a4c], 50)] → J1 b7 w3 → L 12 [(2, .pointer (some (⟨b5, 0, none⟩ : Addr))), (3, .pointer (some (⟨b6, 0, none⟩ : Addr))), (4, .bool false), (16, .bool b7)] w3 by
  rcases Bool.eq_false_or_eq_true (a1 == b1) with hb1 | hb1
  ·have h := h1_J1 hb1
   refine LW.rd hL rfl (Wants.on rfl rfl rfl rfl rfl hb1) rfl (Rd.fa (v := .pointer (some (⟨b5, 1, none⟩ : Addr))) rfl (fun _ => by kernel_rfl)) ?_
   refine LW.rd hL rfl (Wants.on rfl rfl rfl rfl rfl hb1) rfl (Rd.ldN (cs := [.int .i64 a2, .int .i64 a3]) rfl (by kernel_rfl) (by kernel_rfl) (cellsS (box_cells (hB.at (i := 1) rfl) rfl))) ?_
   refine LW.rd hL rfl (Wants.on rfl rfl rfl rfl rfl hb1) rfl (Rd.fa (v := .pointer (some (⟨b6, 1, none⟩ : Addr))) rfl (fun _ => by kernel_rfl)) ?_
   refine LW.rd hL rfl (Wants.on rfl rfl rfl rfl rfl hb1) rfl (Rd.ldN (cs := [.int .i64 b2, .int .i64 b3]) rfl (by kernel_rfl) (by kernel_rfl) (cellsS (box_cells (hB.at (i := 0) rfl) rfl))) ?_
   refine LW.rd hL rfl (Wants.on rfl rfl rfl rfl rfl hb1) rfl (Rd.bin (v := .bool ((a2 == b2) && (a3 == b3))) rfl rfl (fun w => eqS_27 _ _ _ _ w)) ?_
   refine LW.rd hL rfl (Wants.free rfl) rfl (Rd.pickT rfl hb1 rfl) ?_
   exact LW.sub hL (by exact ⟨rfl, rfl, rfl, rfl, trivial⟩) (K1 ((a2 == b2) && (a3 == b3)) w2 (by exact hB) h)
  ·have h := h0_J1 hb1
   refine LW.skip hL rfl (Skips.on rfl rfl rfl rfl rfl hb1) rfl ?_
   refine LW.skip hL rfl (Skips.on rfl rfl rfl rfl rfl hb1) rfl ?_
   refine LW.skip hL rfl (Skips.on rfl rfl rfl rfl rfl hb1) rfl ?_
   refine LW.skip hL rfl (Skips.on rfl rfl rfl rfl rfl hb1) rfl ?_
   refine LW.skip hL rfl (Skips.on rfl rfl rfl rfl rfl hb1) rfl ?_
   refine LW.rd hL rfl (Wants.free rfl) rfl (Rd.pickF rfl hb1 rfl) ?_
   exact LW.sub hL (by exact ⟨rfl, rfl, rfl, rfl, trivial⟩) (K1 false w2 (by exact hB) h)
 intro b7 w3 hB h_
 have h := hJ1 b7 w3 h_; clear h_
 refine LW.rd hL rfl (Wants.free rfl) rfl (Rd.move (v := .bool b7) rfl) ?_
 obtain ⟨J2, hJ2, h1_J2, h0_J2⟩ := h
 suffices K2 : ∀ (b8 : Bool) (w4 : World), J2 b8 w4 → L 19 [(4, .bool false), (23, .bool b8)] w4 by
  rcases Bool.eq_false_or_eq_true b7 with hb2 | hb2
  ·have h := h1_J2 hb2
   refine LW.rd hL rfl (Wants.on rfl rfl rfl rfl rfl hb2) rfl (Rd.fa (v := .pointer (some (⟨b5, 3, none⟩ : Addr))) rfl (fun _ => by kernel_rfl)) ?_
   refine LW.rd hL rfl (Wants.on rfl rfl rfl rfl rfl hb2) rfl (Rd.ld (v := .slice a4 a4n a4c) rfl (by kernel_rfl) (eqs (box_cell (hB.at (i := 1) rfl) rfl))) ?_
   refine LW.rd hL rfl (Wants.on rfl rfl rfl rfl rfl hb2) rfl (Rd.fa (v := .pointer (some (⟨b6, 3, none⟩ : Addr))) rfl (fun _ => by kernel_rfl)) ?_
   refine LW.rd hL rfl (Wants.on rfl rfl rfl rfl rfl hb2) rfl (Rd.ld (v := .slice b4 b4n b4c) rfl (by kernel_rfl) (eqs (box_cell (hB.at (i := 0) rfl) rfl))) ?_
   refine LW.call hL rfl (Wants.on rfl rfl rfl rfl rfl hb2) rfl (Cl.fn (f := 13) rfl Tryd.func13 (by kernel_rfl) rfl) h (fun e w5 h_ => ?_)
   clear h
   obtain ⟨r2, rfl, h⟩ := h_
   refine ⟨_, rfl, ?_⟩
   refine LW.rd hL rfl (Wants.free rfl) rfl (Rd.pickT rfl hb2 rfl) ?_
   exact LW.sub hL (by exact ⟨rfl, rfl, trivial⟩) (K2 r2 w5 h)
  ·have h := h0_J2 hb2
   refine LW.skip hL rfl (Skips.on rfl rfl rfl rfl rfl hb2) rfl ?_
   refine LW.skip hL rfl (Skips.on rfl rfl rfl rfl rfl hb2) rfl ?_
   refine LW.skip hL rfl (Skips.on rfl rfl rfl rfl rfl hb2) rfl ?_
   refine LW.skip hL rfl (Skips.on rfl rfl rfl rfl rfl hb2) rfl ?_
   refine LW.skip hL rfl (Skips.on rfl rfl rfl rfl rfl hb2) rfl ?_
   refine LW.rd hL rfl (Wants.free rfl) rfl (Rd.pickF rfl hb2 rfl) ?_
   exact LW.sub hL (by exact ⟨rfl, rfl, trivial⟩) (K2 false w3 h)
 intro b8 w4 h_
 have h := hJ2 b8 w4 h_; clear h_
 refine LW.rd hL rfl (Wants.free rfl) rfl (Rd.assign (v := .bool b8) rfl) ?_
 refine LW.nil hL rfl ?_
 refine NW.then ?_
 refine CW.ret ?_
 exact res1 rfl rfl ⟨b8, rfl, h⟩
end Go.Proofs.YtfcfkhbkkfpehaaDoor
end
section
namespace Go.Proofs.YtfcfkhbkkfpehaaDoor
open Go Go.X
def z109_XQ4 : List Value := List.replicate 24 (Value.int .u8 0)
/- pomander/query.Text -/
def W_query_Text (p1 : Int) (p2 : Int) (w : World) (R : ByteArray → World → Prop) : Prop :=
 ∀ (b1 : Nat) (w1 : World), (w.heap.size ≤ b1 ∧ b1 < w1.heap.size) → Chg [] w w1 → (∃ J1 : Bool → World → Prop, (∀ (b2 : Bool) (w2 : World), J1 b2 w2 → (b2 = true → R ⟨#[63]⟩ w2) ∧ (b2 = false → ∃ J2 : Bool → World → Prop, (∀ (b3 : Bool) (w3 : World), J2 b3 w3 → (b3 = true → ∀ (w4 : World), Chg [] w3 w4 → (Calls Tryd.prog 29 #[] w4 fun e w5 => ∃ (r2 : ByteArray) (r3 : ByteArray) (r4 : ByteArray) (r5 : ByteArray) (r6 : ByteArray) (r7 : ByteArray) (r8 : ByteArray) (r9 : ByteArray) (r10 : ByteArray) (r11 : ByteArray) (r12 : ByteArray) (r13 : ByteArray) (r14 : ByteArray) (r15 : ByteArray) (r16 : ByteArray) (r17 : ByteArray) (r18 : ByteArray) (r19 : ByteArray), e = .returned (.agg #[.string r2, .string r3, .string r4, .string r5, .string r6, .string r7, .string r8, .string r9, .string r10, .string r11, .string r12, .string r13, .string r14, .string r15, .string r16, .string r17, .string r18, .string r19]) ∧ (Same w4 w5 [b1] ∧ (∃ (x1 : ByteArray), (∀ w : World, (Instr.index 76 (.agg #[.string r2, .string r3, .string r4, .string r5, .string r6, .string r7, .string r8, .string r9, .string r10, .string r11, .string r12, .string r13, .string r14, .string r15, .string r16, .string r17, .string r18, .string r19]) (.int .i64 p1)).run Tryd.prog w = .ok (.string x1) w) ∧ (∃ (t1 : ByteArray), (∀ w : World, ((do eqGuard .add 9 (.tmp 24) (.const (.string ⟨#[32]⟩)) (.string x1) (.string ⟨#[32]⟩); binOp .add 9 (.string x1) (.string ⟨#[32]⟩) : Sem Value)).run Tryd.prog w = .ok (.string t1) w) ∧ (Calls Tryd.prog 30 #[.int .i64 p2] w5 fun e w6 => ∃ (r20 : ByteArray), e = .returned (.string r20) ∧ (Same w5 w6 [b1] ∧ (∃ (t2 : ByteArray), (∀ w : World, ((do eqGuard .add 9 (.tmp 25) (.tmp 28) (.string t1) (.string r20); binOp .add 9 (.string t1) (.string r20) : Sem Value)).run Tryd.prog w = .ok (.string t2) w) ∧ (R t2 w6))))))))) ∧ (b3 = false → ∀ (w7 : World), Chg [] w3 w7 → (Calls Tryd.prog 29 #[] w7 fun e w8 => ∃ (r21 : ByteArray) (r22 : ByteArray) (r23 : ByteArray) (r24 : ByteArray) (r25 : ByteArray) (r26 : ByteArray) (r27 : ByteArray) (r28 : ByteArray) (r29 : ByteArray) (r30 : ByteArray) (r31 : ByteArray) (r32 : ByteArray) (r33 : ByteArray) (r34 : ByteArray) (r35 : ByteArray) (r36 : ByteArray) (r37 : ByteArray) (r38 : ByteArray), e = .returned (.agg #[.string r21, .string r22, .string r23, .string r24, .string r25, .string r26, .string r27, .string r28, .string r29, .string r30, .string r31, .string r32, .string r33, .string r34, .string r35, .string r36, .string r37, .string r38]) ∧ (Same w7 w8 [b1] ∧ (∃ (x2 : ByteArray), (∀ w : World, (Instr.index 76 (.agg #[.string r21, .string r22, .string r23, .string r24, .string r25, .string r26, .string r27, .string r28, .string r29, .string r30, .string r31, .string r32, .string r33, .string r34, .string r35, .string r36, .string r37, .string r38]) (.int .i64 p1)).run Tryd.prog w = .ok (.string x2) w) ∧ (R x2 w8)))))) ∧ (((p1 == 1) = false → J2 (decide (p1 ≥ 10)) w2) ∧ ((p1 == 1) = true → J2 true w2)))) ∧ (((decide (p1 < 0)) = false → J1 (decide (p1 > 17)) w1) ∧ ((decide (p1 < 0)) = true → J1 true w1)))
set_option maxRecDepth 100000 in
theorem go_query_Text (p1 : Int) (p2 : Int) (w : World) (R : ByteArray → World → Prop) (h : W_query_Text p1 p2 w R) : Calls Tryd.prog 19 #[.agg #[.int .i64 p1, .int .i64 p2]] w (fun e w' => ∃ (r1 : ByteArray), e = .returned (.string r1) ∧ R r1 w') := by
 unfold W_query_Text at h
 refine enter (N := 34) Tryd.func19 rfl rfl ?_
 refine CW.seq ?_
 refine CW.region fun L hL => ?_
 obtain ⟨b1, hb_b1⟩ : ∃ b1, b1 = World.size w := ⟨_, rfl⟩
 obtain ⟨w1, hw_w1⟩ : ∃ w1, w1 = World.alloc w (.cells #[.int .i64 p1, .int .i64 p2] 27) := ⟨_, rfl⟩
 refine LW.val hL rfl (Wants.free rfl) rfl (boxE hb_b1 hw_w1 (Vl.box (v := .agg #[.int .i64 p1, .int .i64 p2]) rfl)) ?_
 have hB := Boxes.alloc (cs := [.int .i64 p1, .int .i64 p2]) (T := 27) (Boxes.nil w) hb_b1 hw_w1
 have hlo_b1 := sil_lo (Chg.refl [] w) hb_b1
 have hc_w1 := sil_alloc (Chg.refl [] w) hw_w1
 refine LW.rd hL rfl (Wants.free rfl) rfl (Rd.assign (v := .string ⟨#[]⟩) rfl) ?_
 refine LW.nil hL rfl ?_
 refine NW.then ?_
 refine CW.seq ?_
 refine CW.block ?_
 refine CW.seq ?_
 refine CW.region fun L hL => ?_
 refine LW.rd hL rfl (Wants.free rfl) rfl (Rd.fa (v := .pointer (some (⟨b1, 0, none⟩ : Addr))) rfl (fun _ => by kernel_rfl)) ?_
 refine LW.rd hL rfl (Wants.free rfl) rfl (Rd.ld (v := .int .i64 p1) rfl (by kernel_rfl) (eqs (box_cell (hB.at (i := 0) rfl) rfl))) ?_
 refine LW.rd hL rfl (Wants.free rfl) rfl (Rd.bin (v := .bool (decide (p1 < 0))) rfl rfl (fun w => by kernel_rfl)) ?_
 refine LW.rd hL rfl (Wants.free rfl) rfl (Rd.move (v := .bool (decide (p1 < 0))) rfl) ?_
 replace h := h b1 w1 ⟨hlo_b1, lt_of_heap (hB.at (i := 0) rfl)⟩ hc_w1
 obtain ⟨J1, hJ1, h1_J1, h0_J1⟩ := h
 suffices K1 : ∀ (b2 : Bool) (w2 : World), Boxes w2 [(b1, [.int .i64 p1, .int .i64 p2], 27)] → J1 b2 w2 → L 8 [(1, .pointer (some (⟨b1, 0, none⟩ : Addr))), (2, .string ⟨#[]⟩), (11, .bool b2)] w2 by
  rcases Bool.eq_false_or_eq_true (decide (p1 < 0)) with hb1 | hb1
  ·have h := h0_J1 hb1
   refine LW.skip hL rfl (Skips.on rfl rfl rfl rfl rfl hb1) rfl ?_
   refine LW.skip hL rfl (Skips.on rfl rfl rfl rfl rfl hb1) rfl ?_
   refine LW.skip hL rfl (Skips.on rfl rfl rfl rfl rfl hb1) rfl ?_
   refine LW.rd hL rfl (Wants.free rfl) rfl (Rd.pickT rfl hb1 rfl) ?_
   exact LW.sub hL (by exact ⟨rfl, rfl, rfl, trivial⟩) (K1 true w1 (by exact hB) h)
  ·have h := h1_J1 hb1
   refine LW.rd hL rfl (Wants.on rfl rfl rfl rfl rfl hb1) rfl (Rd.fa (v := .pointer (some (⟨b1, 0, none⟩ : Addr))) rfl (fun _ => by kernel_rfl)) ?_
   refine LW.rd hL rfl (Wants.on rfl rfl rfl rfl rfl hb1) rfl (Rd.ld (v := .int .i64 p1) rfl (by kernel_rfl) (eqs (box_cell (hB.at (i := 0) rfl) rfl))) ?_
   refine LW.rd hL rfl (Wants.on rfl rfl rfl rfl rfl hb1) rfl (Rd.bin (v := .bool (decide (p1 > 17))) rfl rfl (fun w => by kernel_rfl)) ?_
   refine LW.rd hL rfl (Wants.free rfl) rfl (Rd.pickF rfl hb1 rfl) ?_
   exact LW.sub hL (by exact ⟨rfl, rfl, rfl, trivial⟩) (K1 (decide (p1 > 17)) w1 (by exact hB) h)
 intro b2 w2 hB h_
 have h := hJ1 b2 w2 h_; clear h_
 refine LW.rd hL rfl (Wants.free rfl) rfl (Rd.assign (v := .bool b2) rfl) ?_
 refine LW.nil hL rfl ?_
 refine NW.then ?_
 refine CW.cond rfl (fun hb2 => ?_) (fun hb2 => ?_)
 ·replace h := h.1 hb2
  refine CW.seq ?_
  refine CW.region fun L hL => ?_
  refine LW.rd hL rfl (Wants.free rfl) rfl (Rd.assign (v := .string ⟨#[63]⟩) rfl) ?_
  refine LW.nil hL rfl ?_
  refine NW.then ?_
  refine CW.ret ?_
  refine RW.block ?_
  refine RW.then ?_
  exact res1 rfl rfl ⟨⟨#[63]⟩, rfl, h⟩
 ·replace h := h.2 hb2
  refine CW.seq ?_
  refine CW.region fun L hL => ?_
  refine LW.rd hL rfl (Wants.free rfl) rfl (Rd.fa (v := .pointer (some (⟨b1, 0, none⟩ : Addr))) rfl (fun _ => by kernel_rfl)) ?_
  refine LW.rd hL rfl (Wants.free rfl) rfl (Rd.ld (v := .int .i64 p1) rfl (by kernel_rfl) (eqs (box_cell (hB.at (i := 0) rfl) rfl))) ?_
  refine LW.rd hL rfl (Wants.free rfl) rfl (Rd.bin (v := .bool (p1 == 1)) rfl rfl (fun w => by kernel_rfl)) ?_
  refine LW.rd hL rfl (Wants.free rfl) rfl (Rd.move (v := .bool (p1 == 1)) rfl) ?_
  obtain ⟨J2, hJ2, h1_J2, h0_J2⟩ := h
  suffices K2 : ∀ (b3 : Bool) (w3 : World), Boxes w3 [(b1, [.int .i64 p1, .int .i64 p2], 27)] → J2 b3 w3 → L 8 [(1, .pointer (some (⟨b1, 0, none⟩ : Addr))), (2, .string ⟨#[]⟩), (20, .bool b3)] w3 by
   rcases Bool.eq_false_or_eq_true (p1 == 1) with hb3 | hb3
   ·have h := h0_J2 hb3
    refine LW.skip hL rfl (Skips.on rfl rfl rfl rfl rfl hb3) rfl ?_
    refine LW.skip hL rfl (Skips.on rfl rfl rfl rfl rfl hb3) rfl ?_
    refine LW.skip hL rfl (Skips.on rfl rfl rfl rfl rfl hb3) rfl ?_
    refine LW.rd hL rfl (Wants.free rfl) rfl (Rd.pickT rfl hb3 rfl) ?_
    exact LW.sub hL (by exact ⟨rfl, rfl, rfl, trivial⟩) (K2 true w2 (by exact hB) h)
   ·have h := h1_J2 hb3
    refine LW.rd hL rfl (Wants.on rfl rfl rfl rfl rfl hb3) rfl (Rd.fa (v := .pointer (some (⟨b1, 0, none⟩ : Addr))) rfl (fun _ => by kernel_rfl)) ?_
    refine LW.rd hL rfl (Wants.on rfl rfl rfl rfl rfl hb3) rfl (Rd.ld (v := .int .i64 p1) rfl (by kernel_rfl) (eqs (box_cell (hB.at (i := 0) rfl) rfl))) ?_
    refine LW.rd hL rfl (Wants.on rfl rfl rfl rfl rfl hb3) rfl (Rd.bin (v := .bool (decide (p1 ≥ 10))) rfl rfl (fun w => by kernel_rfl)) ?_
    refine LW.rd hL rfl (Wants.free rfl) rfl (Rd.pickF rfl hb3 rfl) ?_
    exact LW.sub hL (by exact ⟨rfl, rfl, rfl, trivial⟩) (K2 (decide (p1 ≥ 10)) w2 (by exact hB) h)
  intro b3 w3 hB h_
  have h := hJ2 b3 w3 h_; clear h_
  refine LW.rd hL rfl (Wants.free rfl) rfl (Rd.assign (v := .bool b3) rfl) ?_
  refine LW.nil hL rfl ?_
  refine NW.then ?_
  refine CW.cond rfl (fun hb4 => ?_) (fun hb4 => ?_)
  ·replace h := h.1 hb4
   refine CW.seq ?_
   obtain ⟨w4, hw_w4⟩ : ∃ x, x = World.drew w3 := ⟨_, rfl⟩
   have hc_w4 := sil_drew (Chg.refl [] w3) hw_w4
   replace hB := hB.drew hw_w4
   refine CW.drawn (fun w => Boxes w [(b1, [.int .i64 p1, .int .i64 p2], 27)]) 10 (by kernel_rfl) fun H hH => ?_
   rw [← hw_w4]
   have hS1 : Boxes w4 [(b1, [.int .i64 p1, .int .i64 p2], 27)] := hB
   refine HW.pure (i := 1) hH rfl (by kernel_rfl) (Wants.free rfl) rfl (fun _ => hS1) (Rd.fa (v := .pointer (some (⟨b1, 0, none⟩ : Addr))) rfl (fun _ => by kernel_rfl)) ?_
   refine HW.take (i := 2) hH rfl (by kernel_rfl) (by kernel_rfl) (Wants.free rfl) rfl (fun _ => hS1) (Rd.ld (v := .int .i64 p1) rfl (by kernel_rfl) (fun w h => box_cell (Boxes.at (i := 0) h rfl) rfl)) ?_
   refine HW.pure (i := 5) hH rfl (by kernel_rfl) (Wants.free rfl) rfl (fun _ => hS1) (Rd.fa (v := .pointer (some (⟨b1, 1, none⟩ : Addr))) rfl (fun _ => by kernel_rfl)) ?_
   refine HW.take (i := 6) hH rfl (by kernel_rfl) (by kernel_rfl) (Wants.free rfl) rfl (fun _ => hS1) (Rd.ld (v := .int .i64 p2) rfl (by kernel_rfl) (fun w h => box_cell (Boxes.at (i := 0) h rfl) rfl)) ?_
   replace h := h  w4  hc_w4
   refine HW.call (i := 0) hH (by kernel_rfl) rfl (Wants.free rfl) rfl (Cl.fn (f := 29) rfl Tryd.func29 (by kernel_rfl) rfl) h (fun e w5 h_ => ?_)
   clear h
   obtain ⟨r2, r3, r4, r5, r6, r7, r8, r9, r10, r11, r12, r13, r14, r15, r16, r17, r18, r19, rfl, h⟩ := h_
   obtain ⟨hsm1, h⟩ := h
   replace hB := Boxes.sameS hB hsm1 (by simp)
   have hS2 : Boxes w5 [(b1, [.int .i64 p1, .int .i64 p2], 27)] := hB
   refine ⟨_, rfl, (fun _ => hS2), ?_⟩
   obtain ⟨x1, hx1, h⟩ := h
   refine HW.pure (i := 3) hH rfl (by kernel_rfl) (Wants.free rfl) rfl (fun _ => hS2) (Rd.index (v := .string x1) rfl rfl hx1) ?_
   obtain ⟨t1, hx2, h⟩ := h
   refine HW.pure (i := 4) hH rfl (by kernel_rfl) (Wants.free rfl) rfl (fun _ => hS2) (Rd.bin (v := .string t1) rfl rfl hx2) ?_
   refine HW.call (i := 7) hH (by kernel_rfl) rfl (Wants.free rfl) rfl (Cl.fn (f := 30) rfl Tryd.func30 (by kernel_rfl) rfl) h (fun e w6 h_ => ?_)
   clear h
   obtain ⟨r20, rfl, h⟩ := h_
   obtain ⟨hsm2, h⟩ := h
   replace hB := Boxes.sameS hB hsm2 (by simp)
   have hS3 : Boxes w6 [(b1, [.int .i64 p1, .int .i64 p2], 27)] := hB
   refine ⟨_, rfl, (fun _ => hS3), ?_⟩
   obtain ⟨t2, hx3, h⟩ := h
   refine HW.pure (i := 8) hH rfl (by kernel_rfl) (Wants.free rfl) rfl (fun _ => hS3) (Rd.bin (v := .string t2) rfl rfl hx3) ?_
   refine HW.pure (i := 9) hH rfl (by kernel_rfl) (Wants.free rfl) rfl (fun _ => hS3) (Rd.assign (v := .string t2) rfl) ?_
   refine HW.done hH (by kernel_rfl) ?_
   refine NW.then ?_
   refine CW.ret ?_
   refine RW.block ?_
   refine RW.then ?_
   exact res1 rfl rfl ⟨t2, rfl, h⟩
  ·replace h := h.2 hb4
   refine CW.skip ?_
   refine NW.block ?_
   refine NW.then ?_
   refine CW.seq ?_
   obtain ⟨w7, hw_w7⟩ : ∃ x, x = World.drew w3 := ⟨_, rfl⟩
   have hc_w7 := sil_drew (Chg.refl [] w3) hw_w7
   replace hB := hB.drew hw_w7
   refine CW.drawn (fun w => Boxes w [(b1, [.int .i64 p1, .int .i64 p2], 27)]) 5 (by kernel_rfl) fun H hH => ?_
   rw [← hw_w7]
   have hS4 : Boxes w7 [(b1, [.int .i64 p1, .int .i64 p2], 27)] := hB
   refine HW.pure (i := 1) hH rfl (by kernel_rfl) (Wants.free rfl) rfl (fun _ => hS4) (Rd.fa (v := .pointer (some (⟨b1, 0, none⟩ : Addr))) rfl (fun _ => by kernel_rfl)) ?_
   refine HW.take (i := 2) hH rfl (by kernel_rfl) (by kernel_rfl) (Wants.free rfl) rfl (fun _ => hS4) (Rd.ld (v := .int .i64 p1) rfl (by kernel_rfl) (fun w h => box_cell (Boxes.at (i := 0) h rfl) rfl)) ?_
   replace h := h  w7  hc_w7
   refine HW.call (i := 0) hH (by kernel_rfl) rfl (Wants.free rfl) rfl (Cl.fn (f := 29) rfl Tryd.func29 (by kernel_rfl) rfl) h (fun e w8 h_ => ?_)
   clear h
   obtain ⟨r21, r22, r23, r24, r25, r26, r27, r28, r29, r30, r31, r32, r33, r34, r35, r36, r37, r38, rfl, h⟩ := h_
   obtain ⟨hsm3, h⟩ := h
   replace hB := Boxes.sameS hB hsm3 (by simp)
   have hS5 : Boxes w8 [(b1, [.int .i64 p1, .int .i64 p2], 27)] := hB
   refine ⟨_, rfl, (fun _ => hS5), ?_⟩
   obtain ⟨x2, hx4, h⟩ := h
   refine HW.pure (i := 3) hH rfl (by kernel_rfl) (Wants.free rfl) rfl (fun _ => hS5) (Rd.index (v := .string x2) rfl rfl hx4) ?_
   refine HW.pure (i := 4) hH rfl (by kernel_rfl) (Wants.free rfl) rfl (fun _ => hS5) (Rd.assign (v := .string x2) rfl) ?_
   refine HW.done hH (by kernel_rfl) ?_
   refine NW.then ?_
   refine CW.ret ?_
   exact res1 rfl rfl ⟨x2, rfl, h⟩
/- pomander/query.names -/
def W_query_names  (w : World) (R : ByteArray → ByteArray → ByteArray → ByteArray → ByteArray → ByteArray → ByteArray → ByteArray → ByteArray → ByteArray → ByteArray → ByteArray → ByteArray → ByteArray → ByteArray → ByteArray → ByteArray → ByteArray → World → Prop) : Prop :=
 ∀ (b1 : Nat) (w2 : World), (w.heap.size ≤ b1 ∧ b1 < w2.heap.size) → Chg [] w w2 → (R ⟨#[110, 111, 110, 101]⟩ ⟨#[114, 101, 103]⟩ ⟨#[112, 99]⟩ ⟨#[101, 112, 99]⟩ ⟨#[99, 97, 117, 115, 101]⟩ ⟨#[118, 101, 99]⟩ ⟨#[116, 97, 98, 108, 101]⟩ ⟨#[109, 111, 100, 101]⟩ ⟨#[109, 97, 115, 107]⟩ ⟨#[97, 108, 97, 114, 109]⟩ ⟨#[109, 101, 109]⟩ ⟨#[116, 108, 98]⟩ ⟨#[115, 101, 99, 116, 111, 114]⟩ ⟨#[105, 110]⟩ ⟨#[111, 117, 116]⟩ ⟨#[112, 97, 99, 107, 101, 116]⟩ ⟨#[115, 101, 110, 116]⟩ ⟨#[97, 115, 107]⟩ w2)
set_option maxRecDepth 100000 in
theorem go_query_names  (w : World) (R : ByteArray → ByteArray → ByteArray → ByteArray → ByteArray → ByteArray → ByteArray → ByteArray → ByteArray → ByteArray → ByteArray → ByteArray → ByteArray → ByteArray → ByteArray → ByteArray → ByteArray → ByteArray → World → Prop) (h : W_query_names  w R) : Calls Tryd.prog 29 #[] w (fun e w' => ∃ (r1 : ByteArray) (r2 : ByteArray) (r3 : ByteArray) (r4 : ByteArray) (r5 : ByteArray) (r6 : ByteArray) (r7 : ByteArray) (r8 : ByteArray) (r9 : ByteArray) (r10 : ByteArray) (r11 : ByteArray) (r12 : ByteArray) (r13 : ByteArray) (r14 : ByteArray) (r15 : ByteArray) (r16 : ByteArray) (r17 : ByteArray) (r18 : ByteArray), e = .returned (.agg #[.string r1, .string r2, .string r3, .string r4, .string r5, .string r6, .string r7, .string r8, .string r9, .string r10, .string r11, .string r12, .string r13, .string r14, .string r15, .string r16, .string r17, .string r18]) ∧ R r1 r2 r3 r4 r5 r6 r7 r8 r9 r10 r11 r12 r13 r14 r15 r16 r17 r18 w') := by
 unfold W_query_names at h
 refine enter (N := 2) Tryd.func29 rfl rfl ?_
 refine CW.seq ?_
 refine CW.region fun L hL => ?_
 obtain ⟨b1, hb_b1⟩ : ∃ b1, b1 = World.size w := ⟨_, rfl⟩
 obtain ⟨w1, hw_w1⟩ : ∃ w1, w1 = World.alloc w (.cells #[.string ByteArray.empty, .string ByteArray.empty, .string ByteArray.empty, .string ByteArray.empty, .string ByteArray.empty, .string ByteArray.empty, .string ByteArray.empty, .string ByteArray.empty, .string ByteArray.empty, .string ByteArray.empty, .string ByteArray.empty, .string ByteArray.empty, .string ByteArray.empty, .string ByteArray.empty, .string ByteArray.empty, .string ByteArray.empty, .string ByteArray.empty, .string ByteArray.empty] 76) := ⟨_, rfl⟩
 refine LW.val hL rfl (Wants.free rfl) rfl (boxE hb_b1 hw_w1 (Vl.alloc (z := .agg #[.string ByteArray.empty, .string ByteArray.empty, .string ByteArray.empty, .string ByteArray.empty, .string ByteArray.empty, .string ByteArray.empty, .string ByteArray.empty, .string ByteArray.empty, .string ByteArray.empty, .string ByteArray.empty, .string ByteArray.empty, .string ByteArray.empty, .string ByteArray.empty, .string ByteArray.empty, .string ByteArray.empty, .string ByteArray.empty, .string ByteArray.empty, .string ByteArray.empty]) (by kernel_rfl))) ?_
 have hB := Boxes.alloc (cs := [.string ByteArray.empty, .string ByteArray.empty, .string ByteArray.empty, .string ByteArray.empty, .string ByteArray.empty, .string ByteArray.empty, .string ByteArray.empty, .string ByteArray.empty, .string ByteArray.empty, .string ByteArray.empty, .string ByteArray.empty, .string ByteArray.empty, .string ByteArray.empty, .string ByteArray.empty, .string ByteArray.empty, .string ByteArray.empty, .string ByteArray.empty, .string ByteArray.empty]) (T := 76) (Boxes.nil w) hb_b1 hw_w1
 have hlo_b1 := sil_lo (Chg.refl [] w) hb_b1
 have hc_w1 := sil_alloc (Chg.refl [] w) hw_w1
 refine LW.nil hL rfl ?_
 refine NW.then ?_
 refine CW.seq ?_
 refine CW.region fun L hL => ?_
 refine LW.rd hL rfl (Wants.free rfl) rfl (Rd.build (v := .agg #[.string ⟨#[110, 111, 110, 101]⟩, .string ⟨#[114, 101, 103]⟩, .string ⟨#[112, 99]⟩, .string ⟨#[101, 112, 99]⟩, .string ⟨#[99, 97, 117, 115, 101]⟩, .string ⟨#[118, 101, 99]⟩, .string ⟨#[116, 97, 98, 108, 101]⟩, .string ⟨#[109, 111, 100, 101]⟩, .string ⟨#[109, 97, 115, 107]⟩, .string ⟨#[97, 108, 97, 114, 109]⟩, .string ⟨#[109, 101, 109]⟩, .string ⟨#[116, 108, 98]⟩, .string ⟨#[115, 101, 99, 116, 111, 114]⟩, .string ⟨#[105, 110]⟩, .string ⟨#[111, 117, 116]⟩, .string ⟨#[112, 97, 99, 107, 101, 116]⟩, .string ⟨#[115, 101, 110, 116]⟩, .string ⟨#[97, 115, 107]⟩]) rfl (fun _ => by kernel_rfl)) ?_
 obtain ⟨w2, hw_w2⟩ : ∃ x, x = setCells w1 (⟨b1, 0, none⟩ : Addr) 0 [.string ⟨#[110, 111, 110, 101]⟩, .string ⟨#[114, 101, 103]⟩, .string ⟨#[112, 99]⟩, .string ⟨#[101, 112, 99]⟩, .string ⟨#[99, 97, 117, 115, 101]⟩, .string ⟨#[118, 101, 99]⟩, .string ⟨#[116, 97, 98, 108, 101]⟩, .string ⟨#[109, 111, 100, 101]⟩, .string ⟨#[109, 97, 115, 107]⟩, .string ⟨#[97, 108, 97, 114, 109]⟩, .string ⟨#[109, 101, 109]⟩, .string ⟨#[116, 108, 98]⟩, .string ⟨#[115, 101, 99, 116, 111, 114]⟩, .string ⟨#[105, 110]⟩, .string ⟨#[111, 117, 116]⟩, .string ⟨#[112, 97, 99, 107, 101, 116]⟩, .string ⟨#[115, 101, 110, 116]⟩, .string ⟨#[97, 115, 107]⟩] := ⟨_, rfl⟩
 refine LW.eff hL rfl (Wants.free rfl) rfl (stNE hw_w2 (Ef.stN (cs := [.string ⟨#[110, 111, 110, 101]⟩, .string ⟨#[114, 101, 103]⟩, .string ⟨#[112, 99]⟩, .string ⟨#[101, 112, 99]⟩, .string ⟨#[99, 97, 117, 115, 101]⟩, .string ⟨#[118, 101, 99]⟩, .string ⟨#[116, 97, 98, 108, 101]⟩, .string ⟨#[109, 111, 100, 101]⟩, .string ⟨#[109, 97, 115, 107]⟩, .string ⟨#[97, 108, 97, 114, 109]⟩, .string ⟨#[109, 101, 109]⟩, .string ⟨#[116, 108, 98]⟩, .string ⟨#[115, 101, 99, 116, 111, 114]⟩, .string ⟨#[105, 110]⟩, .string ⟨#[111, 117, 116]⟩, .string ⟨#[112, 97, 99, 107, 101, 116]⟩, .string ⟨#[115, 101, 110, 116]⟩, .string ⟨#[97, 115, 107]⟩]) rfl rfl (by kernel_rfl) (List.forall_mem_cons.2 ⟨rfl, (List.forall_mem_cons.2 ⟨rfl, (List.forall_mem_cons.2 ⟨rfl, (List.forall_mem_cons.2 ⟨rfl, (List.forall_mem_cons.2 ⟨rfl, (List.forall_mem_cons.2 ⟨rfl, (List.forall_mem_cons.2 ⟨rfl, (List.forall_mem_cons.2 ⟨rfl, (List.forall_mem_cons.2 ⟨rfl, (List.forall_mem_cons.2 ⟨rfl, (List.forall_mem_cons.2 ⟨rfl, (List.forall_mem_cons.2 ⟨rfl, (List.forall_mem_cons.2 ⟨rfl, (List.forall_mem_cons.2 ⟨rfl, (List.forall_mem_cons.2 ⟨rfl, (List.forall_mem_cons.2 ⟨rfl, (List.forall_mem_cons.2 ⟨rfl, (List.forall_mem_cons.2 ⟨rfl, (List.forall_mem_nil _)⟩)⟩)⟩)⟩)⟩)⟩)⟩)⟩)⟩)⟩)⟩)⟩)⟩)⟩)⟩)⟩)⟩)⟩) (has_of (hB.at (i := 0) rfl) (by simp)) (free_of' (hB.at (i := 0) rfl)))) ?_
 replace hB : Boxes w2 [(b1, [.string ⟨#[110, 111, 110, 101]⟩, .string ⟨#[114, 101, 103]⟩, .string ⟨#[112, 99]⟩, .string ⟨#[101, 112, 99]⟩, .string ⟨#[99, 97, 117, 115, 101]⟩, .string ⟨#[118, 101, 99]⟩, .string ⟨#[116, 97, 98, 108, 101]⟩, .string ⟨#[109, 111, 100, 101]⟩, .string ⟨#[109, 97, 115, 107]⟩, .string ⟨#[97, 108, 97, 114, 109]⟩, .string ⟨#[109, 101, 109]⟩, .string ⟨#[116, 108, 98]⟩, .string ⟨#[115, 101, 99, 116, 111, 114]⟩, .string ⟨#[105, 110]⟩, .string ⟨#[111, 117, 116]⟩, .string ⟨#[112, 97, 99, 107, 101, 116]⟩, .string ⟨#[115, 101, 110, 116]⟩, .string ⟨#[97, 115, 107]⟩], 76)] := Boxes.store (vs := [.string ⟨#[110, 111, 110, 101]⟩, .string ⟨#[114, 101, 103]⟩, .string ⟨#[112, 99]⟩, .string ⟨#[101, 112, 99]⟩, .string ⟨#[99, 97, 117, 115, 101]⟩, .string ⟨#[118, 101, 99]⟩, .string ⟨#[116, 97, 98, 108, 101]⟩, .string ⟨#[109, 111, 100, 101]⟩, .string ⟨#[109, 97, 115, 107]⟩, .string ⟨#[97, 108, 97, 114, 109]⟩, .string ⟨#[109, 101, 109]⟩, .string ⟨#[116, 108, 98]⟩, .string ⟨#[115, 101, 99, 116, 111, 114]⟩, .string ⟨#[105, 110]⟩, .string ⟨#[111, 117, 116]⟩, .string ⟨#[112, 97, 99, 107, 101, 116]⟩, .string ⟨#[115, 101, 110, 116]⟩, .string ⟨#[97, 115, 107]⟩]) (i := 0) (o := 0) hB rfl rfl rfl rfl hw_w2
 have hc_w2 := sil_new hc_w1 (sil_cN hw_w2) hlo_b1
 refine LW.nil hL rfl ?_
 refine NW.then ?_
 replace h := h b1 w2 ⟨hlo_b1, lt_of_heap (hB.at (i := 0) rfl)⟩ hc_w2
 refine CW.ret ?_
 exact resN (vs := [.agg #[.string ⟨#[110, 111, 110, 101]⟩, .string ⟨#[114, 101, 103]⟩, .string ⟨#[112, 99]⟩, .string ⟨#[101, 112, 99]⟩, .string ⟨#[99, 97, 117, 115, 101]⟩, .string ⟨#[118, 101, 99]⟩, .string ⟨#[116, 97, 98, 108, 101]⟩, .string ⟨#[109, 111, 100, 101]⟩, .string ⟨#[109, 97, 115, 107]⟩, .string ⟨#[97, 108, 97, 114, 109]⟩, .string ⟨#[109, 101, 109]⟩, .string ⟨#[116, 108, 98]⟩, .string ⟨#[115, 101, 99, 116, 111, 114]⟩, .string ⟨#[105, 110]⟩, .string ⟨#[111, 117, 116]⟩, .string ⟨#[112, 97, 99, 107, 101, 116]⟩, .string ⟨#[115, 101, 110, 116]⟩, .string ⟨#[97, 115, 107]⟩]]) (ResOK.c rfl (lvN (cs := [.string ⟨#[110, 111, 110, 101]⟩, .string ⟨#[114, 101, 103]⟩, .string ⟨#[112, 99]⟩, .string ⟨#[101, 112, 99]⟩, .string ⟨#[99, 97, 117, 115, 101]⟩, .string ⟨#[118, 101, 99]⟩, .string ⟨#[116, 97, 98, 108, 101]⟩, .string ⟨#[109, 111, 100, 101]⟩, .string ⟨#[109, 97, 115, 107]⟩, .string ⟨#[97, 108, 97, 114, 109]⟩, .string ⟨#[109, 101, 109]⟩, .string ⟨#[116, 108, 98]⟩, .string ⟨#[115, 101, 99, 116, 111, 114]⟩, .string ⟨#[105, 110]⟩, .string ⟨#[111, 117, 116]⟩, .string ⟨#[112, 97, 99, 107, 101, 116]⟩, .string ⟨#[115, 101, 110, 116]⟩, .string ⟨#[97, 115, 107]⟩]) (by kernel_rfl) (by kernel_rfl) (cellsAt_get (box_cells (hB.at (i := 0) rfl) rfl))) ResOK.nil) rfl ⟨⟨#[110, 111, 110, 101]⟩, ⟨#[114, 101, 103]⟩, ⟨#[112, 99]⟩, ⟨#[101, 112, 99]⟩, ⟨#[99, 97, 117, 115, 101]⟩, ⟨#[118, 101, 99]⟩, ⟨#[116, 97, 98, 108, 101]⟩, ⟨#[109, 111, 100, 101]⟩, ⟨#[109, 97, 115, 107]⟩, ⟨#[97, 108, 97, 114, 109]⟩, ⟨#[109, 101, 109]⟩, ⟨#[116, 108, 98]⟩, ⟨#[115, 101, 99, 116, 111, 114]⟩, ⟨#[105, 110]⟩, ⟨#[111, 117, 116]⟩, ⟨#[112, 97, 99, 107, 101, 116]⟩, ⟨#[115, 101, 110, 116]⟩, ⟨#[97, 115, 107]⟩, rfl, h⟩
/- strconv.Itoa -/
def W_strconv_Itoa (i1 : Int) (w : World) (R : ByteArray → World → Prop) : Prop :=
 Calls Tryd.prog 39 #[.int .i64 i1] w fun e w1 => ∃ (r2 : ByteArray), e = .returned (.string r2) ∧ (R r2 w1)
set_option maxRecDepth 100000 in
theorem go_strconv_Itoa (i1 : Int) (w : World) (R : ByteArray → World → Prop) (h : W_strconv_Itoa i1 w R) : Calls Tryd.prog 30 #[.int .i64 i1] w (fun e w' => ∃ (r1 : ByteArray), e = .returned (.string r1) ∧ R r1 w') := by
 unfold W_strconv_Itoa at h
 refine enter (N := 5) Tryd.func30 rfl rfl ?_
 refine CW.seq ?_
 refine CW.region fun L hL => ?_
 refine LW.rd hL rfl (Wants.free rfl) rfl (Rd.assign (v := .string ⟨#[]⟩) rfl) ?_
 refine LW.nil hL rfl ?_
 refine NW.then ?_
 refine CW.seq ?_
 refine CW.region fun L hL => ?_
 refine LW.rd hL rfl (Wants.free rfl) rfl (Rd.move (v := .int .i64 i1) rfl) ?_
 refine LW.call hL rfl (Wants.free rfl) rfl (Cl.fn (f := 39) rfl Tryd.func39 (by kernel_rfl) rfl) h (fun e w1 h_ => ?_)
 clear h
 obtain ⟨r2, rfl, h⟩ := h_
 refine ⟨_, rfl, ?_⟩
 refine LW.rd hL rfl (Wants.free rfl) rfl (Rd.assign (v := .string r2) rfl) ?_
 refine LW.nil hL rfl ?_
 refine NW.then ?_
 refine CW.ret ?_
 exact res1 rfl rfl ⟨r2, rfl, h⟩
/- internal/strconv.Itoa -/
def W_internal_strconv_Itoa (i1 : Int) (w : World) (R : ByteArray → World → Prop) : Prop :=
 Calls Tryd.prog 46 #[.int .i64 i1, .int .i64 10] w fun e w1 => ∃ (r2 : ByteArray), e = .returned (.string r2) ∧ (R r2 w1)
set_option maxRecDepth 100000 in
theorem go_internal_strconv_Itoa (i1 : Int) (w : World) (R : ByteArray → World → Prop) (h : W_internal_strconv_Itoa i1 w R) : Calls Tryd.prog 39 #[.int .i64 i1] w (fun e w' => ∃ (r1 : ByteArray), e = .returned (.string r1) ∧ R r1 w') := by
 unfold W_internal_strconv_Itoa at h
 refine enter (N := 5) Tryd.func39 rfl rfl ?_
 refine CW.seq ?_
 refine CW.region fun L hL => ?_
 refine LW.rd hL rfl (Wants.free rfl) rfl (Rd.assign (v := .string ⟨#[]⟩) rfl) ?_
 refine LW.nil hL rfl ?_
 refine NW.then ?_
 refine CW.seq ?_
 refine CW.region fun L hL => ?_
 refine LW.rd hL rfl (Wants.free rfl) rfl (Rd.move (v := .int .i64 i1) rfl) ?_
 refine LW.call hL rfl (Wants.free rfl) rfl (Cl.fn (f := 46) rfl Tryd.func46 (by kernel_rfl) rfl) h (fun e w1 h_ => ?_)
 clear h
 obtain ⟨r2, rfl, h⟩ := h_
 refine ⟨_, rfl, ?_⟩
 refine LW.rd hL rfl (Wants.free rfl) rfl (Rd.assign (v := .string r2) rfl) ?_
 refine LW.nil hL rfl ?_
 refine NW.then ?_
 refine CW.ret ?_
 exact res1 rfl rfl ⟨r2, rfl, h⟩
/- internal/strconv.FormatInt -/
def W_internal_strconv_FormatInt (i1 : Int) (base1 : Int) (w : World) (R : ByteArray → World → Prop) : Prop :=
 ((base1 == 10) = true → ((decide (0 ≤ i1) && decide (i1 < 100)) = true → Calls Tryd.prog 57 #[.int .i64 i1] w fun e w1 => ∃ (r2 : ByteArray), e = .returned (.string r2) ∧ (R r2 w1)) ∧ ((decide (0 ≤ i1) && decide (i1 < 100)) = false → ∀ b1 : Nat, b1 = World.size w → ∀ w2 : World, w2 = World.alloc w (.cells (z109_XQ4).toArray 109) → (∃ J1 : Int → World → Prop, (∀ (u1 : Int) (w3 : World), J1 u1 w3 → Calls Tryd.prog 58 #[.int .u64 u1] w3 fun e w4 => ∃ (r3 : Int), e = .returned (.int .i64 r3) ∧ (∃ (l1 : Option Addr) (l1n : Nat) (l1c : Nat), (∀ w : World, (Instr.sliceAt 109 (.pointer (some (⟨b1, 0, none⟩ : Addr))) (some (.int .i64 1)) (some (.int .i64 (IntKind.wrap .i64 (1 + r3)))) (none)).run Tryd.prog w = .ok (.slice l1 l1n l1c) w) ∧ (Calls Tryd.prog 59 #[.slice l1 l1n l1c, .int .u64 u1] w4 fun e w5 => e = .returned (.tuple #[]) ∧ (((decide (i1 < 0)) = true → (0 : Int) ≤ 0 ∧ (0 : Int) < 24 ∧ ((∃ o : Value, w5.cell? ((⟨b1, 0, none⟩ : Addr).add (Int.toNat 0 * 1)) = some o) ∧ w5.frozen? ((⟨b1, 0, none⟩ : Addr).add (Int.toNat 0 * 1)) = false ∧ ∀ w6 : World, w6 = World.setCell w5 ((⟨b1, 0, none⟩ : Addr).add (Int.toNat 0 * 1)) (.int .u8 45) → (∃ (l2 : Option Addr) (l2n : Nat) (l2c : Nat), (∀ w : World, (Instr.sliceAt 109 (.pointer (some (⟨b1, 0, none⟩ : Addr))) (none) (some (.int .i64 (IntKind.wrap .i64 (1 + r3)))) (none)).run Tryd.prog w = .ok (.slice l2 l2n l2c) w) ∧ (∃ (s1 : ByteArray), (∀ w : World, (convert 23 9 (.slice l2 l2n l2c)).run Tryd.prog w = .ok (.string s1) w) ∧ (R s1 w6))))) ∧ ((decide (i1 < 0)) = false → ∃ (l3 : Option Addr) (l3n : Nat) (l3c : Nat), (∀ w : World, (Instr.sliceAt 109 (.pointer (some (⟨b1, 0, none⟩ : Addr))) (some (.int .i64 1)) (some (.int .i64 (IntKind.wrap .i64 (1 + r3)))) (none)).run Tryd.prog w = .ok (.slice l3 l3n l3c) w) ∧ (∃ (s2 : ByteArray), (∀ w : World, (convert 23 9 (.slice l3 l3n l3c)).run Tryd.prog w = .ok (.string s2) w) ∧ (R s2 w5))))))) ∧ (((decide (i1 < 0)) = true → J1 (IntKind.wrap .u64 (0 - (IntKind.wrap .u64 i1))) w2) ∧ ((decide (i1 < 0)) = false → J1 (IntKind.wrap .u64 i1) w2))))) ∧ ((base1 == 10) = false → Calls Tryd.prog 60 #[.slice none 0 0, .int .u64 (IntKind.wrap .u64 i1), .int .i64 base1, .bool (decide (i1 < 0)), .bool false] w fun e w7 => ∃ (r4 : Option Addr) (r4n : Nat) (r4c : Nat) (r5 : ByteArray), e = .returned (.tuple #[.slice r4 r4n r4c, .string r5]) ∧ (R r5 w7))
set_option maxRecDepth 100000 in
theorem go_internal_strconv_FormatInt (i1 : Int) (base1 : Int) (w : World) (R : ByteArray → World → Prop) (h : W_internal_strconv_FormatInt i1 base1 w R) : Calls Tryd.prog 46 #[.int .i64 i1, .int .i64 base1] w (fun e w' => ∃ (r1 : ByteArray), e = .returned (.string r1) ∧ R r1 w') := by
 unfold W_internal_strconv_FormatInt at h
 refine enter (N := 54) Tryd.func46 rfl rfl ?_
 refine CW.seq ?_
 refine CW.region fun L hL => ?_
 refine LW.rd hL rfl (Wants.free rfl) rfl (Rd.assign (v := .string ⟨#[]⟩) rfl) ?_
 refine LW.nil hL rfl ?_
 refine NW.then ?_
 refine CW.seq ?_
 refine CW.seq ?_
 refine CW.region fun L hL => ?_
 refine LW.rd hL rfl (Wants.free rfl) rfl (Rd.move (v := .int .i64 base1) rfl) ?_
 refine LW.rd hL rfl (Wants.free rfl) rfl (Rd.bin (v := .bool (base1 == 10)) rfl rfl (fun w => by kernel_rfl)) ?_
 refine LW.nil hL rfl ?_
 refine NW.then ?_
 refine CW.cond rfl (fun hb1 => ?_) (fun hb1 => ?_)
 ·replace h := h.1 hb1
  refine CW.seq ?_
  refine CW.seq ?_
  refine CW.region fun L hL => ?_
  refine LW.rd hL rfl (Wants.free rfl) rfl (Rd.move (v := .int .i64 i1) rfl) ?_
  refine LW.rd hL rfl (Wants.free rfl) rfl (Rd.bin (v := .bool (decide (0 ≤ i1))) rfl rfl (fun w => by kernel_rfl)) ?_
  refine LW.rd hL rfl (Wants.free rfl) rfl (Rd.move (v := .bool (decide (0 ≤ i1))) rfl) ?_
  suffices K1 : L 6 [(0, .int .i64 i1), (1, .int .i64 base1), (4, .string ⟨#[]⟩), (17, .bool (decide (0 ≤ i1) && decide (i1 < 100)))] w by
   rcases Bool.eq_false_or_eq_true (decide (0 ≤ i1)) with hb3 | hb3
   ·skip
    refine LW.rd hL rfl (Wants.on rfl rfl rfl rfl rfl hb3) rfl (Rd.move (v := .int .i64 i1) rfl) ?_
    refine LW.rd hL rfl (Wants.on rfl rfl rfl rfl rfl hb3) rfl (Rd.bin (v := .bool (decide (i1 < 100))) rfl rfl (fun w => by kernel_rfl)) ?_
    refine LW.rd hL rfl (Wants.free rfl) rfl (Rd.pickT rfl hb3 rfl) ?_
    exact LW.sub hL (by exact ⟨rfl, rfl, rfl, (by rw [hb3]; rfl), trivial⟩) K1
   ·skip
    refine LW.skip hL rfl (Skips.on rfl rfl rfl rfl rfl hb3) rfl ?_
    refine LW.skip hL rfl (Skips.on rfl rfl rfl rfl rfl hb3) rfl ?_
    refine LW.rd hL rfl (Wants.free rfl) rfl (Rd.pickF rfl hb3 rfl) ?_
    exact LW.sub hL (by exact ⟨rfl, rfl, rfl, (by rw [hb3]; rfl), trivial⟩) K1
  refine LW.nil hL rfl ?_
  refine NW.then ?_
  refine CW.cond rfl (fun hb4 => ?_) (fun hb4 => ?_)
  ·replace h := h.1 hb4
   refine CW.seq ?_
   refine CW.region fun L hL => ?_
   refine LW.rd hL rfl (Wants.free rfl) rfl (Rd.move (v := .int .i64 i1) rfl) ?_
   refine LW.call hL rfl (Wants.free rfl) rfl (Cl.fn (f := 57) rfl Tryd.func57 (by kernel_rfl) rfl) h (fun e w1 h_ => ?_)
   clear h
   obtain ⟨r2, rfl, h⟩ := h_
   refine ⟨_, rfl, ?_⟩
   refine LW.rd hL rfl (Wants.free rfl) rfl (Rd.assign (v := .string r2) rfl) ?_
   refine LW.nil hL rfl ?_
   refine NW.then ?_
   refine CW.ret ?_
   refine RW.then ?_
   refine RW.then ?_
   exact res1 rfl rfl ⟨r2, rfl, h⟩
  ·replace h := h.2 hb4
   refine CW.skip ?_
   refine NW.then ?_
   refine CW.seq ?_
   refine CW.region fun L hL => ?_
   obtain ⟨b1, hb_b1⟩ : ∃ b1, b1 = World.size w := ⟨_, rfl⟩
   obtain ⟨w2, hw_w2⟩ : ∃ w2, w2 = World.alloc w (.cells (z109_XQ4).toArray 109) := ⟨_, rfl⟩
   replace h := h b1 hb_b1 w2 hw_w2
   refine LW.val hL rfl (Wants.free rfl) rfl (boxE hb_b1 hw_w2 (Vl.alloc (z := .agg ((z109_XQ4)).toArray) (by kernel_rfl))) ?_
   refine LW.nil hL rfl ?_
   refine NW.then ?_
   refine CW.seq ?_
   refine CW.region fun L hL => ?_
   refine LW.rd hL rfl (Wants.free rfl) rfl (Rd.move (v := .int .i64 i1) rfl) ?_
   refine LW.rd hL rfl (Wants.free rfl) rfl (Rd.conv (v := .int .u64 (IntKind.wrap .u64 i1)) rfl (fun _ => by kernel_rfl)) ?_
   refine LW.rd hL rfl (Wants.free rfl) rfl (Rd.assign (v := .int .u64 (IntKind.wrap .u64 i1)) rfl) ?_
   refine LW.nil hL rfl ?_
   refine NW.then ?_
   obtain ⟨J1, hJ1, h⟩ := h
   refine CW.cut (S := Int) (fun u1 => [(0, .int .i64 i1), (1, .int .i64 base1), (4, .string ⟨#[]⟩), (5, .pointer (some (⟨b1, 0, none⟩ : Addr))), (6, .int .u64 u1)]) (fun u1 w3 => J1 u1 w3) (fun u1 w3 h_ => ?_) ?_
   ·replace h := hJ1 u1 w3 h_; clear h_
    refine CW.seq ?_
    refine CW.region fun L hL => ?_
    refine LW.rd hL rfl (Wants.free rfl) rfl (Rd.move (v := .int .u64 u1) rfl) ?_
    refine LW.call hL rfl (Wants.free rfl) rfl (Cl.fn (f := 58) rfl Tryd.func58 (by kernel_rfl) rfl) h (fun e w4 h_ => ?_)
    clear h
    obtain ⟨r3, rfl, h⟩ := h_
    refine ⟨_, rfl, ?_⟩
    refine LW.rd hL rfl (Wants.free rfl) rfl (Rd.assign (v := .int .i64 r3) rfl) ?_
    refine LW.nil hL rfl ?_
    refine NW.then ?_
    refine CW.seq ?_
    refine CW.region fun L hL => ?_
    refine LW.rd hL rfl (Wants.free rfl) rfl (Rd.move (v := .int .i64 r3) rfl) ?_
    refine LW.rd hL rfl (Wants.free rfl) rfl (Rd.bin (v := .int .i64 (IntKind.wrap .i64 (1 + r3))) rfl rfl (fun w => by kernel_rfl)) ?_
    obtain ⟨l1, l1n, l1c, hx1, h⟩ := h
    refine LW.rd hL rfl (Wants.free rfl) rfl (Rd.slice (v := .slice l1 l1n l1c) rfl rfl rfl rfl hx1) ?_
    refine LW.rd hL rfl (Wants.free rfl) rfl (Rd.move (v := .int .u64 u1) rfl) ?_
    refine LW.call hL rfl (Wants.free rfl) rfl (Cl.fn (f := 59) rfl Tryd.func59 (by kernel_rfl) rfl) h (fun e w5 h_ => ?_)
    clear h
    obtain ⟨rfl, h⟩ := h_
    refine ⟨_, rfl, ?_⟩
    refine LW.nil hL rfl ?_
    refine NW.then ?_
    refine CW.seq ?_
    refine CW.seq ?_
    refine CW.region fun L hL => ?_
    refine LW.rd hL rfl (Wants.free rfl) rfl (Rd.move (v := .int .i64 i1) rfl) ?_
    refine LW.rd hL rfl (Wants.free rfl) rfl (Rd.bin (v := .bool (decide (i1 < 0))) rfl rfl (fun w => by kernel_rfl)) ?_
    refine LW.nil hL rfl ?_
    refine NW.then ?_
    refine CW.cond rfl (fun hb5 => ?_) (fun hb5 => ?_)
    ·replace h := h.1 hb5
     refine CW.seq ?_
     refine CW.region fun L hL => ?_
     obtain ⟨hi1, hi2, h⟩ := h
     refine LW.rd hL rfl (Wants.free rfl) rfl (Rd.iaA (sz := 1) rfl rfl Tryd.underlying109 (by kernel_rfl) hi1 hi2) ?_
     obtain ⟨⟨o_w6, ho1⟩, hf1, h⟩ := h
     obtain ⟨w6, hw_w6⟩ : ∃ w6, w6 = World.setCell w5 ((⟨b1, 0, none⟩ : Addr).add (Int.toNat 0 * 1)) (.int .u8 45) := ⟨_, rfl⟩
     replace h := h w6 hw_w6
     refine LW.eff hL rfl (Wants.free rfl) rfl (stE hw_w6 (Ef.st rfl rfl rfl (by kernel_rfl) ho1 hf1)) ?_
     refine LW.nil hL rfl ?_
     refine NW.then ?_
     refine CW.seq ?_
     refine CW.region fun L hL => ?_
     refine LW.rd hL rfl (Wants.free rfl) rfl (Rd.move (v := .int .i64 r3) rfl) ?_
     refine LW.rd hL rfl (Wants.free rfl) rfl (Rd.bin (v := .int .i64 (IntKind.wrap .i64 (1 + r3))) rfl rfl (fun w => by kernel_rfl)) ?_
     obtain ⟨l2, l2n, l2c, hx2, h⟩ := h
     refine LW.rd hL rfl (Wants.free rfl) rfl (Rd.slice (v := .slice l2 l2n l2c) rfl rfl rfl rfl hx2) ?_
     obtain ⟨s1, hx3, h⟩ := h
     refine LW.rd hL rfl (Wants.free rfl) rfl (Rd.conv (v := .string s1) rfl hx3) ?_
     refine LW.rd hL rfl (Wants.free rfl) rfl (Rd.assign (v := .string s1) rfl) ?_
     refine LW.nil hL rfl ?_
     refine NW.then ?_
     refine CW.ret ?_
     refine RW.then ?_
     refine RW.then ?_
     exact res1 rfl rfl ⟨s1, rfl, h⟩
    ·replace h := h.2 hb5
     refine CW.skip ?_
     refine NW.then ?_
     refine CW.seq ?_
     refine CW.region fun L hL => ?_
     refine LW.rd hL rfl (Wants.free rfl) rfl (Rd.move (v := .int .i64 r3) rfl) ?_
     refine LW.rd hL rfl (Wants.free rfl) rfl (Rd.bin (v := .int .i64 (IntKind.wrap .i64 (1 + r3))) rfl rfl (fun w => by kernel_rfl)) ?_
     obtain ⟨l3, l3n, l3c, hx4, h⟩ := h
     refine LW.rd hL rfl (Wants.free rfl) rfl (Rd.slice (v := .slice l3 l3n l3c) rfl rfl rfl rfl hx4) ?_
     obtain ⟨s2, hx5, h⟩ := h
     refine LW.rd hL rfl (Wants.free rfl) rfl (Rd.conv (v := .string s2) rfl hx5) ?_
     refine LW.rd hL rfl (Wants.free rfl) rfl (Rd.assign (v := .string s2) rfl) ?_
     refine LW.nil hL rfl ?_
     refine NW.then ?_
     refine CW.ret ?_
     refine RW.then ?_
     exact res1 rfl rfl ⟨s2, rfl, h⟩
   ·skip
    refine CW.seq ?_
    refine CW.region fun L hL => ?_
    refine LW.rd hL rfl (Wants.free rfl) rfl (Rd.move (v := .int .i64 i1) rfl) ?_
    refine LW.rd hL rfl (Wants.free rfl) rfl (Rd.bin (v := .bool (decide (i1 < 0))) rfl rfl (fun w => by kernel_rfl)) ?_
    refine LW.nil hL rfl ?_
    refine NW.then ?_
    refine CW.cond rfl (fun hb6 => ?_) (fun hb6 => ?_)
    ·replace h := h.1 hb6
     refine CW.region fun L hL => ?_
     refine LW.rd hL rfl (Wants.free rfl) rfl (Rd.move (v := .int .u64 (IntKind.wrap .u64 i1)) rfl) ?_
     refine LW.rd hL rfl (Wants.free rfl) rfl (Rd.un (v := .int .u64 (IntKind.wrap .u64 (0 - (IntKind.wrap .u64 i1)))) rfl (fun _ => by kernel_rfl)) ?_
     refine LW.rd hL rfl (Wants.free rfl) rfl (Rd.assign (v := .int .u64 (IntKind.wrap .u64 (0 - (IntKind.wrap .u64 i1)))) rfl) ?_
     refine LW.nil hL rfl ?_
     exact NW.cut (S := Int) (Ek := fun u1 => [(0, .int .i64 i1), (1, .int .i64 base1), (4, .string ⟨#[]⟩), (5, .pointer (some (⟨b1, 0, none⟩ : Addr))), (6, .int .u64 u1)]) (IntKind.wrap .u64 (0 - (IntKind.wrap .u64 i1))) (by exact ⟨rfl, rfl, rfl, rfl, rfl, trivial⟩) h
    ·replace h := h.2 hb6
     refine CW.skip ?_
     exact NW.cut (S := Int) (Ek := fun u1 => [(0, .int .i64 i1), (1, .int .i64 base1), (4, .string ⟨#[]⟩), (5, .pointer (some (⟨b1, 0, none⟩ : Addr))), (6, .int .u64 u1)]) (IntKind.wrap .u64 i1) (by exact ⟨rfl, rfl, rfl, rfl, rfl, trivial⟩) h
 ·replace h := h.2 hb1
  refine CW.skip ?_
  refine NW.then ?_
  refine CW.seq ?_
  refine CW.region fun L hL => ?_
  refine LW.rd hL rfl (Wants.free rfl) rfl (Rd.move (v := .int .i64 i1) rfl) ?_
  refine LW.rd hL rfl (Wants.free rfl) rfl (Rd.conv (v := .int .u64 (IntKind.wrap .u64 i1)) rfl (fun _ => by kernel_rfl)) ?_
  refine LW.rd hL rfl (Wants.free rfl) rfl (Rd.move (v := .int .i64 base1) rfl) ?_
  refine LW.rd hL rfl (Wants.free rfl) rfl (Rd.move (v := .int .i64 i1) rfl) ?_
  refine LW.rd hL rfl (Wants.free rfl) rfl (Rd.bin (v := .bool (decide (i1 < 0))) rfl rfl (fun w => by kernel_rfl)) ?_
  refine LW.call hL rfl (Wants.free rfl) rfl (Cl.fn (f := 60) rfl Tryd.func60 (by kernel_rfl) rfl) h (fun e w7 h_ => ?_)
  clear h
  obtain ⟨r4, r4n, r4c, r5, rfl, h⟩ := h_
  refine ⟨_, rfl, ?_⟩
  refine LW.rd hL rfl (Wants.free rfl) rfl (Rd.move (v := .tuple #[.slice r4 r4n r4c, .string r5]) rfl) ?_
  refine LW.rd hL rfl (Wants.free rfl) rfl (Rd.extract (v := .slice r4 r4n r4c) rfl rfl) ?_
  refine LW.rd hL rfl (Wants.free rfl) rfl (Rd.extract (v := .string r5) rfl rfl) ?_
  refine LW.rd hL rfl (Wants.free rfl) rfl (Rd.assign (v := .slice r4 r4n r4c) rfl) ?_
  refine LW.rd hL rfl (Wants.free rfl) rfl (Rd.assign (v := .string r5) rfl) ?_
  refine LW.nil hL rfl ?_
  refine NW.then ?_
  refine CW.seq ?_
  refine CW.region fun L hL => ?_
  refine LW.rd hL rfl (Wants.free rfl) rfl (Rd.move (v := .string r5) rfl) ?_
  refine LW.rd hL rfl (Wants.free rfl) rfl (Rd.assign (v := .string r5) rfl) ?_
  refine LW.nil hL rfl ?_
  refine NW.then ?_
  refine CW.ret ?_
  exact res1 rfl rfl ⟨r5, rfl, h⟩
/- internal/strconv.small -/
def W_internal_strconv_small (i1 : Int) (w : World) (R : ByteArray → World → Prop) : Prop :=
 ((decide (i1 < 10)) = true → ∃ (l1 : ByteArray), (∀ w : World, (Instr.sliceAt 9 (.string ⟨#[48, 49, 50, 51, 52, 53, 54, 55, 56, 57, 97, 98, 99, 100, 101, 102, 103, 104, 105, 106, 107, 108, 109, 110, 111, 112, 113, 114, 115, 116, 117, 118, 119, 120, 121, 122]⟩) (some (.int .i64 i1)) (some (.int .i64 (IntKind.wrap .i64 (i1 + 1)))) (none)).run Tryd.prog w = .ok (.string l1) w) ∧ (R l1 w)) ∧ ((decide (i1 < 10)) = false → ∃ (l2 : ByteArray), (∀ w : World, (Instr.sliceAt 9 (.string ⟨#[48, 48, 48, 49, 48, 50, 48, 51, 48, 52, 48, 53, 48, 54, 48, 55, 48, 56, 48, 57, 49, 48, 49, 49, 49, 50, 49, 51, 49, 52, 49, 53, 49, 54, 49, 55, 49, 56, 49, 57, 50, 48, 50, 49, 50, 50, 50, 51, 50, 52, 50, 53, 50, 54, 50, 55, 50, 56, 50, 57, 51, 48, 51, 49, 51, 50, 51, 51, 51, 52, 51, 53, 51, 54, 51, 55, 51, 56, 51, 57, 52, 48, 52, 49, 52, 50, 52, 51, 52, 52, 52, 53, 52, 54, 52, 55, 52, 56, 52, 57, 53, 48, 53, 49, 53, 50, 53, 51, 53, 52, 53, 53, 53, 54, 53, 55, 53, 56, 53, 57, 54, 48, 54, 49, 54, 50, 54, 51, 54, 52, 54, 53, 54, 54, 54, 55, 54, 56, 54, 57, 55, 48, 55, 49, 55, 50, 55, 51, 55, 52, 55, 53, 55, 54, 55, 55, 55, 56, 55, 57, 56, 48, 56, 49, 56, 50, 56, 51, 56, 52, 56, 53, 56, 54, 56, 55, 56, 56, 56, 57, 57, 48, 57, 49, 57, 50, 57, 51, 57, 52, 57, 53, 57, 54, 57, 55, 57, 56, 57, 57]⟩) (some (.int .i64 (IntKind.wrap .i64 (i1 * 2)))) (some (.int .i64 (IntKind.wrap .i64 ((IntKind.wrap .i64 (i1 * 2)) + 2)))) (none)).run Tryd.prog w = .ok (.string l2) w) ∧ (R l2 w))
set_option maxRecDepth 100000 in
theorem go_internal_strconv_small (i1 : Int) (w : World) (R : ByteArray → World → Prop) (h : W_internal_strconv_small i1 w R) : Calls Tryd.prog 57 #[.int .i64 i1] w (fun e w' => ∃ (r1 : ByteArray), e = .returned (.string r1) ∧ R r1 w') := by
 unfold W_internal_strconv_small at h
 refine enter (N := 15) Tryd.func57 rfl rfl ?_
 refine CW.seq ?_
 refine CW.region fun L hL => ?_
 refine LW.rd hL rfl (Wants.free rfl) rfl (Rd.assign (v := .string ⟨#[]⟩) rfl) ?_
 refine LW.nil hL rfl ?_
 refine NW.then ?_
 refine CW.seq ?_
 refine CW.seq ?_
 refine CW.region fun L hL => ?_
 refine LW.rd hL rfl (Wants.free rfl) rfl (Rd.move (v := .int .i64 i1) rfl) ?_
 refine LW.rd hL rfl (Wants.free rfl) rfl (Rd.bin (v := .bool (decide (i1 < 10))) rfl rfl (fun w => by kernel_rfl)) ?_
 refine LW.nil hL rfl ?_
 refine NW.then ?_
 refine CW.cond rfl (fun hb1 => ?_) (fun hb1 => ?_)
 ·replace h := h.1 hb1
  refine CW.seq ?_
  refine CW.region fun L hL => ?_
  refine LW.rd hL rfl (Wants.free rfl) rfl (Rd.move (v := .int .i64 i1) rfl) ?_
  refine LW.rd hL rfl (Wants.free rfl) rfl (Rd.move (v := .int .i64 i1) rfl) ?_
  refine LW.rd hL rfl (Wants.free rfl) rfl (Rd.bin (v := .int .i64 (IntKind.wrap .i64 (i1 + 1))) rfl rfl (fun w => by kernel_rfl)) ?_
  obtain ⟨l1, hx1, h⟩ := h
  refine LW.rd hL rfl (Wants.free rfl) rfl (Rd.slice (v := .string l1) rfl rfl rfl rfl hx1) ?_
  refine LW.rd hL rfl (Wants.free rfl) rfl (Rd.assign (v := .string l1) rfl) ?_
  refine LW.nil hL rfl ?_
  refine NW.then ?_
  refine CW.ret ?_
  refine RW.then ?_
  exact res1 rfl rfl ⟨l1, rfl, h⟩
 ·replace h := h.2 hb1
  refine CW.skip ?_
  refine NW.then ?_
  refine CW.seq ?_
  refine CW.region fun L hL => ?_
  refine LW.rd hL rfl (Wants.free rfl) rfl (Rd.move (v := .int .i64 i1) rfl) ?_
  refine LW.rd hL rfl (Wants.free rfl) rfl (Rd.bin (v := .int .i64 (IntKind.wrap .i64 (i1 * 2))) rfl rfl (fun w => by kernel_rfl)) ?_
  refine LW.rd hL rfl (Wants.free rfl) rfl (Rd.move (v := .int .i64 i1) rfl) ?_
  refine LW.rd hL rfl (Wants.free rfl) rfl (Rd.bin (v := .int .i64 (IntKind.wrap .i64 (i1 * 2))) rfl rfl (fun w => by kernel_rfl)) ?_
  refine LW.rd hL rfl (Wants.free rfl) rfl (Rd.bin (v := .int .i64 (IntKind.wrap .i64 ((IntKind.wrap .i64 (i1 * 2)) + 2))) rfl rfl (fun w => by kernel_rfl)) ?_
  obtain ⟨l2, hx2, h⟩ := h
  refine LW.rd hL rfl (Wants.free rfl) rfl (Rd.slice (v := .string l2) rfl rfl rfl rfl hx2) ?_
  refine LW.rd hL rfl (Wants.free rfl) rfl (Rd.assign (v := .string l2) rfl) ?_
  refine LW.nil hL rfl ?_
  refine NW.then ?_
  refine CW.ret ?_
  exact res1 rfl rfl ⟨l2, rfl, h⟩
end Go.Proofs.YtfcfkhbkkfpehaaDoor
end
section
/- Law 14: known holds; lists of places compared; the text of a place. -/
namespace Go.Proofs.YtfcfkhbkkfpehaaDoor
open Go Go.RowKit Go.X Go.XR
def CellsP (w : World) (q : Sl) (ps : List Pl) : Prop := q.2.1 = ps.length ∧ ∀ j x, ps[j]? = some x → ∃ a, q.1 = some a ∧ CellsAt w (a.add (j * 2)) 0 [.int .i64 x.1, .int .i64 x.2]
theorem CellsP.chg {w w' : World} {q : Sl} {ps : List Pl} {f : List Nat} (h : CellsP w q ps) (hc : Chg f w w') (hf : ∀ i ∈ rowB q.1, i ∉ f) : CellsP w' q ps :=
 ⟨h.1, fun j x hx => let ⟨a, ha, hcs⟩ := h.2 j x hx; ⟨a, ha, hc.cells (by rw [add_block]; exact hf _ (mem_rowB.2 ⟨a, ha, rfl⟩)) hcs⟩⟩
theorem ReadsP.cells {w : World} {q : Sl} {ps : List Pl} (h : ReadsP w q ps) : CellsP w q ps := ⟨h.1, h.2.2⟩
theorem row_cells {w : World} {p : Option Addr} {n c : Nat} {ps : List Pl} (h : RowAt w 27 2 p n c (ps.flatMap encPl)) (hn : n = ps.length) : CellsP w (p, n, c) ps := by
 refine ⟨hn, fun j x hj => ?_⟩
 obtain ⟨g0, g1⟩ := flat_get2 ps j x hj
 obtain ⟨a, ha, c0⟩ := h.at g0
 obtain ⟨a', ha', c1⟩ := h.at g1
 rw [ha] at ha'
 cases ha'
 exact ⟨a, ha, by rw [add_add]; exact c0, by rw [add_add]; exact c1, trivial⟩
theorem same_places {w : World} {p q : Option Addr} {pn pc qn qc : Nat} {xs ys : List Pl} (h1 : CellsP w (p, pn, pc) xs) (h2 : CellsP w (q, qn, qc) ys) (hl : xs.length ≤ 1000000000000) :
  Calls Tryd.prog 13 #[.slice p pn pc, .slice q qn qc] w fun e w' => ∃ r : Bool, e = .returned (.bool r) ∧ (r = decide (xs = ys) ∧ Chg [] w w') := by
 have n1 : pn = xs.length := h1.1
 have n2 : qn = ys.length := h2.1
 refine go_pomanderref10_SamePlaces _ _ _ _ _ _ _ _ ?_
 unfold W_pomanderref10_SamePlaces
 refine ⟨fun h => ⟨?_, Chg.refl _ _⟩, fun h => ?_⟩
 ·have hne : xs.length ≠ ys.length := by intro e; simp [n1, n2, e] at h
  symm; exact decide_eq_false (fun e => hne (by rw [e]))
 have hlen : xs.length = ys.length := by
  have : (pn : Int) = qn := by simpa using h
  omega
 refine ⟨fun x i w1 => ∃ j : Nat, i = (j : Int) ∧ j ≤ xs.length ∧ xs.take j = ys.take j ∧ Chg [] w w1, fun _ i _ => (xs.length - i).toNat, ⟨0, rfl, Nat.zero_le _, rfl, Chg.refl _ _⟩, ?_⟩
 rintro x1 _ w1 ⟨j, rfl, hj, ht, c1⟩
 refine ⟨fun hlt => ?_, fun hge => ?_⟩
 ·have hjn : j < xs.length := by have := of_decide_eq_true hlt; omega
  obtain ⟨x, hx⟩ := get_of hjn
  obtain ⟨y, hy⟩ := get_of (l := ys) (j := j) (by omega)
  obtain ⟨a, ha, ca⟩ := h1.2 j x hx
  obtain ⟨a', ha', ca'⟩ := h2.2 j y hy
  refine ⟨a, ha, by omega, by omega, fun w2 c2 => ?_⟩
  have c02 := c1.trans0 c2
  refine ⟨x.1, x.2, by simpa using c02.cells (by simp) ca, a', ha', by omega, by omega, y.1, y.2, by simpa using c02.cells (by simp) ca', fun hne => ⟨?_, c02⟩, fun heq => ?_⟩
  ·symm
   refine decide_eq_false (fun e => ?_)
   subst e
   rw [hx] at hy
   cases hy
   simp at hne
  ·have hxy : x = y := by
    simp at heq
    exact Prod.ext heq.1 heq.2
   subst hxy
   rw [wr (by omega) (by omega)]
   exact ⟨⟨j + 1, by omega, by omega, by rw [take_snoc hx, take_snoc hy, ht], c02⟩, by simp only []; omega⟩
 ·have hjn : j = xs.length := by have := of_decide_eq_false hge; omega
  refine ⟨?_, c1⟩
  symm
  refine decide_eq_true ?_
  rw [hjn, List.take_length] at ht
  rw [ht, hlen, List.take_length]
/-! ### The text of mem 5 -/
def sMem : ByteArray := ⟨#[109, 101, 109]⟩
theorem small5 (w : World) : Calls Tryd.prog 57 #[.int .i64 5] w fun e w' => ∃ r : ByteArray, e = .returned (.string r) ∧ (r = ⟨#[53]⟩ ∧ w' = w) := by
 refine go_internal_strconv_small _ _ _ ?_
 unfold W_internal_strconv_small
 exact ⟨fun _ => ⟨⟨#[53]⟩, fun w => by kernel_rfl, rfl, rfl⟩, fun h => by simp at h⟩
theorem formatInt5 (w : World) : Calls Tryd.prog 46 #[.int .i64 5, .int .i64 10] w fun e w' => ∃ r : ByteArray, e = .returned (.string r) ∧ (r = ⟨#[53]⟩ ∧ w' = w) := by
 refine go_internal_strconv_FormatInt _ _ _ _ ?_
 unfold W_internal_strconv_FormatInt
 refine ⟨fun _ => ⟨fun _ => ?_, fun h => by simp at h⟩, fun h => by simp at h⟩
 refine (small5 w).mono ?_
 rintro _ w1 ⟨_, rfl, rfl, hw⟩
 exact ⟨_, rfl, rfl, hw⟩
theorem itoa5 (w : World) : Calls Tryd.prog 30 #[.int .i64 5] w fun e w' => ∃ r : ByteArray, e = .returned (.string r) ∧ (r = ⟨#[53]⟩ ∧ w' = w) := by
 refine go_strconv_Itoa _ _ _ ?_
 unfold W_strconv_Itoa
 refine (go_internal_strconv_Itoa _ _ (fun r w' => r = ⟨#[53]⟩ ∧ w' = w) ?_).mono ?_
 ·unfold W_internal_strconv_Itoa
  exact formatInt5 w
 ·rintro _ w1 ⟨_, rfl, rfl, hw⟩
  exact ⟨_, rfl, rfl, hw⟩
theorem query_names (w : World) : Calls Tryd.prog 29 #[] w fun e w' => e = .returned (.agg #[.string ⟨#[110, 111, 110, 101]⟩, .string ⟨#[114, 101, 103]⟩, .string ⟨#[112, 99]⟩, .string ⟨#[101, 112, 99]⟩, .string ⟨#[99, 97, 117, 115, 101]⟩, .string ⟨#[118, 101, 99]⟩, .string ⟨#[116, 97, 98, 108, 101]⟩, .string ⟨#[109, 111, 100, 101]⟩, .string ⟨#[109, 97, 115, 107]⟩, .string ⟨#[97, 108, 97, 114, 109]⟩, .string ⟨#[109, 101, 109]⟩, .string ⟨#[116, 108, 98]⟩, .string ⟨#[115, 101, 99, 116, 111, 114]⟩, .string ⟨#[105, 110]⟩, .string ⟨#[111, 117, 116]⟩, .string ⟨#[112, 97, 99, 107, 101, 116]⟩, .string ⟨#[115, 101, 110, 116]⟩, .string ⟨#[97, 115, 107]⟩]) ∧ Chg [] w w' := by
 refine (go_query_names w (fun r2 r3 r4 r5 r6 r7 r8 r9 r10 r11 r12 r13 r14 r15 r16 r17 r18 r19 w' => (r2 = ⟨#[110, 111, 110, 101]⟩ ∧ r3 = ⟨#[114, 101, 103]⟩ ∧ r4 = ⟨#[112, 99]⟩ ∧ r5 = ⟨#[101, 112, 99]⟩ ∧ r6 = ⟨#[99, 97, 117, 115, 101]⟩ ∧ r7 = ⟨#[118, 101, 99]⟩ ∧ r8 = ⟨#[116, 97, 98, 108, 101]⟩ ∧ r9 = ⟨#[109, 111, 100, 101]⟩ ∧ r10 = ⟨#[109, 97, 115, 107]⟩ ∧ r11 = ⟨#[97, 108, 97, 114, 109]⟩ ∧ r12 = ⟨#[109, 101, 109]⟩ ∧ r13 = ⟨#[116, 108, 98]⟩ ∧ r14 = ⟨#[115, 101, 99, 116, 111, 114]⟩ ∧ r15 = ⟨#[105, 110]⟩ ∧ r16 = ⟨#[111, 117, 116]⟩ ∧ r17 = ⟨#[112, 97, 99, 107, 101, 116]⟩ ∧ r18 = ⟨#[115, 101, 110, 116]⟩ ∧ r19 = ⟨#[97, 115, 107]⟩) ∧ Chg [] w w') ?_).mono ?_
 ·unfold W_query_names
  rintro b1 w2 ⟨_, _⟩ c
  exact ⟨⟨rfl, rfl, rfl, rfl, rfl, rfl, rfl, rfl, rfl, rfl, rfl, rfl, rfl, rfl, rfl, rfl, rfl, rfl⟩, c⟩
 ·rintro e w1 ⟨r2, r3, r4, r5, r6, r7, r8, r9, r10, r11, r12, r13, r14, r15, r16, r17, r18, r19, rfl, ⟨rfl, rfl, rfl, rfl, rfl, rfl, rfl, rfl, rfl, rfl, rfl, rfl, rfl, rfl, rfl, rfl, rfl, rfl⟩, c⟩
  exact ⟨rfl, c⟩
theorem text_mem5 (w : World) : Calls Tryd.prog 19 #[.agg #[.int .i64 10, .int .i64 5]] w fun e w' => ∃ r : ByteArray, e = .returned (.string r) ∧ (r = ⟨#[109, 101, 109, 32, 53]⟩ ∧ Chg [] w w') := by
 refine go_query_Text _ _ _ _ ?_
 unfold W_query_Text
 rintro b1 w1 ⟨l1, u1⟩ c1
 refine ⟨fun b w' => b = false ∧ Chg [] w w' ∧ b1 < w'.heap.size, ?_, fun _ => ⟨rfl, c1, u1⟩, fun h => by simp at h⟩
 rintro _ w2 ⟨rfl, c2, u2⟩
 refine ⟨fun h => by simp at h, fun _ => ⟨fun b w' => b = true ∧ Chg [] w w' ∧ b1 < w'.heap.size, ?_, fun _ => ⟨rfl, c2, u2⟩, fun h => by simp at h⟩⟩
 rintro _ w3 ⟨rfl, c3, u3⟩
 refine ⟨fun _ w4 c4 => ?_, fun h => by simp at h⟩
 refine (query_names w4).mono ?_
 rintro _ w5 ⟨rfl, c5⟩
 have s4 := c4.size
 refine ⟨_, _, _, _, _, _, _, _, _, _, _, _, _, _, _, _, _, _, rfl, Same.chg c5 (by simp; omega), sMem, fun w => by kernel_rfl, ⟨#[109, 101, 109, 32]⟩, fun w => by kernel_rfl, ?_⟩
 refine (itoa5 w5).mono ?_
 rintro _ w6 ⟨_, rfl, rfl, hw⟩
 subst w6
 exact ⟨_, rfl, Same.refl _ _, ⟨#[109, 101, 109, 32, 53]⟩, fun w => by kernel_rfl, rfl, (c3.trans0 c4).trans0 c5⟩
theorem single_of {l : List Pl} {a : Pl} (hn : l.Nodup) (h : ∀ q, q ∈ l ↔ q = a) : l = [a] := by
 cases l with
 | nil => exact absurd ((h a).2 rfl) (by simp)
 | cons x l =>
  have hx := (h x).1 (.head _)
  subst hx
  cases l with
  | nil => rfl
  | cons y l =>
   have hy := (h y).1 (.tail _ (.head _))
   subst hy
   simp at hn
theorem touch_one {w : World} {b4 b5 : Nat} {x y : Pl} (h4 : w.heap[b4]? = some (.cells #[.int .i64 x.1, .int .i64 x.2] 27 (0, 0))) (h5 : w.heap[b5]? = some (.cells #[.int .i64 y.1, .int .i64 y.2, .slice (some (⟨b4, 0, none⟩ : Addr)) 1 1] 33 (0, 0)))
  (hx : i64s x.1 ∧ i64s x.2) (hy : i64s y.1 ∧ i64s y.2) : TouchesAt w (fun i => i = b4 ∨ i = b5) (some ⟨b5, 0, none⟩) 1 [(y, [x])] := by
 refine ⟨rfl, fun j t ht => ?_⟩
 match j, ht with
 | 0, ht =>
  simp at ht; subst ht
  refine ⟨hy.1, hy.2, ⟨b5, 0, none⟩, _, _, _, rfl, .inr rfl, by simpa [add_at] using cellsAt_of h5, rfl, fun j z hz => ?_⟩
  match j, hz with
  | 0, hz =>
   simp at hz; subst hz
   exact ⟨hx.1, hx.2, ⟨b4, 0, none⟩, rfl, .inl rfl, by simpa [add_at] using cellsAt_of h4⟩
  | j + 1, hz => simp at hz
 | j + 1, ht => simp at ht
def nsK : List Nt := [(1, (1, 1), [(13, 0)]), (2, (10, 5), [(1, 1)])]
theorem root_known (q : Pl) : isRoot nsK ((10, 5), 9) q ↔ q = (13, 0) := by
 have k1 : kids nsK ((10, 5), 9) = [((1, 1), 2)] := by decide
 have k2 : kids nsK ((1, 1), 2) = [((13, 0), 1)] := by decide
 have k3 : kids nsK ((13, 0), 1) = [] := by decide
 have hr : ∀ u, Reach nsK ((10, 5), 9) u → u = ((10, 5), 9) ∨ u = ((1, 1), 2) ∨ u = ((13, 0), 1) := by
  intro u hu
  induction hu with
  | refl => exact .inl rfl
  | step _ hc ih =>
   rcases ih with rfl | rfl | rfl
   ·rw [k1] at hc; simp at hc; exact .inr (.inl hc)
   ·rw [k2] at hc; simp at hc; exact .inr (.inr hc)
   ·rw [k3] at hc; simp at hc
 constructor
 ·rintro ⟨u, hu, rfl, hb⟩
  rcases hr u hu with rfl | rfl | rfl
  ·exact absurd hb (by decide)
  ·exact absurd hb (by decide)
  ·rfl
 ·rintro rfl
  exact ⟨((13, 0), 1), .step (b := ((1, 1), 2)) (.step (b := ((10, 5), 9)) .refl (by rw [k1]; simp)) (by rw [k2]; simp), rfl, by decide⟩
theorem known_ok (w : World) : Calls Tryd.prog 7 #[] w fun e w' => ∃ r : Bool, e = .returned (.bool r) ∧ (r = true ∧ Chg [] w w') := by
 refine go_pomanderlaw14_known _ _ ?_
 unfold W_pomanderlaw14_known
 refine (query_new w).mono ?_
 rintro _ w1 ⟨_, rfl, b, fp, rfl, hH, c1, hf⟩
 refine ⟨_, rfl, ?_⟩
 rintro b3 b2 b1 w7 ⟨l3, u3⟩ ⟨l2, u2⟩ ⟨l1, u1⟩ c7
 have hlt := hH.lt
 have s1 := c1.size
 have s7 := c7.size
 refine v_alloc fun b4 w8 e4 hb4 c8 => ?_
 refine v_alloc fun b5 w9 e5 hb5 c9 => ?_
 have s8 := c8.size
 have s9 := c9.size
 have c19 := (c7.trans0 c8).trans0 c9
 have k4 := lt_of_heap hb4
 have k5 := lt_of_heap hb5
 refine (hist_add (ns := []) (last := 0) (hH.chg c19 (by simp)) (touch_one (x := (13, 0)) (y := (1, 1)) (c9.obj (by simp) hb4) hb5 (by simp [i64s]) (by simp [i64s])) (fun i hi hS => by have := hlt i hi; rcases hS with h | h <;> omega) (by simp) (by simp) (by simp [i64s])).mono ?_
 rintro _ w10 ⟨r3, rfl, fp2, c10, hf2, hr⟩
 rw [if_neg (by simp)] at hr
 obtain ⟨rfl, hH2⟩ := hr
 have s10 := c10.size
 refine ⟨0, rfl, Same.of c10 (fun i hi => by
  simp at hi
  exact ⟨by omega, fun hm => by have := hlt i hm; omega⟩), ?_⟩
 refine v_alloc fun b6 w11 e6 hb6 c11 => ?_
 refine v_alloc fun b7 w12 e7 hb7 c12 => ?_
 have s11 := c11.size
 have s12 := c12.size
 have hlt2 := hH2.lt
 have k6 := lt_of_heap hb6
 have k7 := lt_of_heap hb7
 refine (hist_add (hH2.chg (c11.trans0 c12) (by simp)) (touch_one (x := (1, 1)) (y := (10, 5)) (c12.obj (by simp) hb6) hb7 (by simp [i64s]) (by simp [i64s])) (fun i hi hS => by have := hlt2 i hi; rcases hS with h | h <;> omega) (by simp) (by decide) (by simp [i64s])).mono ?_
 rintro _ w13 ⟨r4, rfl, fp3, c13, hf3, hr⟩
 rw [if_neg (by decide)] at hr
 obtain ⟨rfl, hH3⟩ := hr
 have hb31 : ∀ i, (i = b3 ∨ i = b1) → i ∉ fp2 := fun i hi hm => by
  rcases hf2 i hm with h | h
  ·have := hlt i h; omega
  ·omega
 refine ⟨0, rfl, Same.of c13 (fun i hi => by
  simp at hi
  exact ⟨by omega, hb31 i hi⟩), ?_⟩
 have s13 := c13.size
 refine (hist_roots hH3 (by decide) (by decide) 10 5 9).mono ?_
 rintro _ w14 ⟨r5, r5n, r5c, rfl, c14, ys, hrow, hlen, hfr, hnd, _, hmem, _⟩
 have hys : ys = [(13, 0)] := single_of hnd (fun q => (hmem q).trans (root_known q))
 subst hys
 have hcs := row_cells hrow hlen
 obtain rfl : 1 = r5n := hlen.symm
 refine ⟨_, _, _, rfl, Same.chg c14 (by simp; omega), fun w15 c15 => ?_⟩
 obtain ⟨a, ha, hca⟩ := (hcs.chg c15 (by simp)).2 0 _ rfl
 have call : Chg [] w w15 := by
  have d1 : Chg [] w w10 := (c1.trans0 c19).trans c10 (fun i hi hlt' => by have := hf i hi; omega)
  have d2 : Chg [] w w13 := ((d1.trans0 c11).trans0 c12).trans c13 (fun i hi hlt' => by
   rcases hf2 i hi with h | h
   ·have := hf i h; omega
   ·omega)
  exact (d2.trans0 c14).trans0 c15
 refine ⟨fun b w' => b = true ∧ Chg [] w w', ?_, fun _ => ⟨a, ha, by omega, by decide, 13, 0, by simpa using hca, rfl, call⟩, fun h => by simp at h⟩
 rintro _ w16 ⟨rfl, c16⟩
 refine ⟨fun b w' => b = true ∧ Chg [] w w', fun b w' h => h, fun _ => ?_, fun h => by simp at h⟩
 refine (text_mem5 w16).mono ?_
 rintro _ w18 ⟨_, rfl, rfl, c18⟩
 exact ⟨_, rfl, true, fun w => by kernel_rfl, rfl, c16.trans0 c18⟩
end Go.Proofs.YtfcfkhbkkfpehaaDoor
end
section
/- Law 14: adds that came in; vast, made. -/
namespace Go.Proofs.YtfcfkhbkkfpehaaDoor
open Go Go.RowKit Go.X Go.XR
abbrev AddV := Int × List Tch
structure AddsAt (w : World) (S : Nat → Prop) (p : Option Addr) (n : Nat) (l : List AddV) : Prop where
 length : l.length = n
 each : ∀ j x, l[j]? = some x → i64s x.1 ∧ ∃ a q qn qc, p = some a ∧ S a.block ∧ CellsAt w (a.add (j * 2)) 0 [.int .i64 x.1, .slice q qn qc] ∧ TouchesAt w S q qn x.2 ∧ qn ≤ maxLen ∧ ∀ t ∈ x.2, t.2.length ≤ maxLen
theorem AddsAt.chg {w w' : World} {S : Nat → Prop} {p : Option Addr} {n : Nat} {l : List AddV} {f : List Nat} (h : AddsAt w S p n l) (hc : Chg f w w') (hf : ∀ i ∈ f, ¬ S i) : AddsAt w' S p n l :=
 ⟨h.length, fun j x hx => let ⟨h1, a, q, qn, qc, h3, h4, h5, h6, h7⟩ := h.each j x hx; ⟨h1, a, q, qn, qc, h3, h4, hc.cells (by rw [add_block]; exact fun hm => hf _ hm h4) h5, h6.chg hc hf, h7⟩⟩
def smallA (l : List AddV) : Prop := l.length ≤ 30 ∧ ∀ x ∈ l, x.2.length ≤ 10 ∧ ∀ t ∈ x.2, t.2.length ≤ 6
theorem vast14 {w : World} {S : Nat → Prop} {p : Option Addr} {n c : Nat} {l : List AddV} (h : AddsAt w S p n l) (hn : n ≤ maxLen) :
  Calls Tryd.prog 11 #[.slice p n c] w fun e w' => ∃ r : Bool, e = .returned (.bool r) ∧ ((r = false → smallA l) ∧ Chg [] w w') := by
 have hl := h.length
 refine go_pomanderlaw14_vast _ _ _ _ _ ?_
 unfold W_pomanderlaw14_vast
 refine ⟨fun _ => ⟨fun h => by simp at h, Chg.refl _ _⟩, fun h30 => ?_⟩
 have h30' := of_decide_eq_false h30
 refine ⟨fun _ i w1 => ∃ j : Nat, i = (j : Int) ∧ j ≤ l.length ∧ (∀ k x, k < j → l[k]? = some x → x.2.length ≤ 10 ∧ ∀ t ∈ x.2, t.2.length ≤ 6) ∧ Chg [] w w1, fun _ i _ => (l.length - i).toNat, ⟨0, rfl, Nat.zero_le _, fun k x hk => absurd hk (Nat.not_lt_zero _), Chg.refl _ _⟩, ?_⟩
 rintro x1 _ w1 ⟨j, rfl, hj, hsm, c1⟩
 refine ⟨fun hlt => ?_, fun hge => ?_⟩
 ·have hjn : j < l.length := by have := of_decide_eq_true hlt; omega
  obtain ⟨x, hx⟩ := get_of hjn
  obtain ⟨i1, a, q, qn, qc, ha, hSa, hcs, hts, hqn, hin⟩ := (h.chg (f := []) c1 (by simp)).each j x hx
  have hql := hts.length
  have hcell : w1.cell? ((a.add (Int.toNat (j : Int) * 2)).add 1) = some (.slice q qn qc) := by simpa using hcs.2.1
  refine ⟨a, ha, by omega, by omega, q, qn, qc, hcell, fun _ => ⟨fun h => by simp at h, c1⟩, fun h10 => ?_⟩
  have h10' := of_decide_eq_false h10
  refine ⟨fun _ k w2 => ∃ i : Nat, k = (i : Int) ∧ i ≤ x.2.length ∧ (∀ m t, m < i → x.2[m]? = some t → t.2.length ≤ 6) ∧ Chg [] w w2 ∧ Chg [] w1 w2, fun _ k _ => (x.2.length - k).toNat, ⟨0, rfl, Nat.zero_le _, fun k x hk => absurd hk (Nat.not_lt_zero _), c1, Chg.refl _ _⟩, ?_⟩
  rintro x2 _ w2 ⟨i, rfl, hi, hst, c2, c12⟩
  refine ⟨q, qn, qc, c12.cell (by simp) hcell, fun hlt2 => ?_, fun hge2 => ?_⟩
  ·have hin' : i < x.2.length := by have := of_decide_eq_true hlt2; omega
   obtain ⟨t, ht⟩ := get_of hin'
   obtain ⟨_, _, a2, q2, q2n, q2c, ha2, _, hcs2, hpl⟩ := (hts.chg (f := []) c12 (by simp)).each i t ht
   have hq2 := hpl.length
   refine ⟨a2, ha2, by omega, by omega, q2, q2n, q2c, by simpa using hcs2.2.2.1, fun _ => ⟨fun h => by simp at h, c2⟩, fun h6 => ?_⟩
   have h6' := of_decide_eq_false h6
   unfold maxLen at hqn
   rw [wr (by omega) (by omega)]
   refine ⟨⟨i + 1, by omega, by omega, fun m t' hm ht' => ?_, c2, c12⟩, by simp only []; omega⟩
   by_cases hmi : m < i
   ·exact hst m t' hmi ht'
   ·have : m = i := by omega
    subst this
    rw [ht] at ht'; cases ht'; omega
  ·have hin' : i = x.2.length := by have := of_decide_eq_false hge2; omega
   rw [wr (by omega) (by omega)]
   refine ⟨⟨j + 1, by omega, by omega, fun k y hk hy => ?_, c2⟩, by simp only []; omega⟩
   by_cases hkj : k < j
   ·exact hsm k y hkj hy
   ·have : k = j := by omega
    subst this
    rw [hx] at hy; cases hy
    refine ⟨by omega, fun t ht => ?_⟩
    obtain ⟨m, hm⟩ := List.getElem?_of_mem ht
    exact hst m t (by have := (List.getElem?_eq_some_iff.1 hm).1; omega) hm
 ·have hjn : j = l.length := by have := of_decide_eq_false hge; omega
  refine ⟨fun _ => ⟨by omega, fun x hx => ?_⟩, c1⟩
  obtain ⟨k, hk⟩ := List.getElem?_of_mem hx
  exact hsm k x (by have := (List.getElem?_eq_some_iff.1 hk).1; omega) hk
structure NotesAt (w : World) (S : Nat → Prop) (p : Option Addr) (n c : Nat) (ns : List Nt) : Prop where
 there : ∃ g : List (Nt × Sl), g.map Prod.fst = ns ∧ RowAt w 50 4 p n c (g.flatMap noteC) ∧ ∀ x ∈ g, PlacesAt w S x.2.1 x.2.2.1 x.1.2.2
 len : n = ns.length
 apart : ∀ i ∈ rowB p, ¬ S i
theorem NotesAt.chg {w w' : World} {S : Nat → Prop} {p : Option Addr} {n c : Nat} {ns : List Nt} {f : List Nat} (h : NotesAt w S p n c ns) (hc : Chg f w w') (h1 : ∀ i ∈ rowB p, i ∉ f) (h2 : ∀ i ∈ f, ¬ S i) : NotesAt w' S p n c ns := by
 obtain ⟨g, k1, k2, k3⟩ := h.there
 exact ⟨⟨g, k1, k2.chg hc h1, fun x hx => (k3 x hx).chg hc h2⟩, h.len, h.apart⟩
theorem NotesAt.lt {w : World} {S : Nat → Prop} {p : Option Addr} {n c : Nat} {ns : List Nt} (h : NotesAt w S p n c ns) : ∀ i ∈ rowB p, i < w.heap.size := by
 obtain ⟨g, k1, k2, k3⟩ := h.there
 exact k2.lt
theorem NotesAt.nil (w : World) (S : Nat → Prop) : NotesAt w S none 0 0 [] := ⟨⟨[], rfl, RowAt.nil, by simp⟩, rfl, by simp [rowB]⟩
theorem NotesAt.push {w : World} {S : Nat → Prop} {p : Option Addr} {n c : Nat} {ns : List Nt} (h : NotesAt w S p n c ns) (hS : ∀ i, S i → i < w.heap.size) (hfew : ns.length ≤ 1000000) {nt : Nt} {q : Sl} (hq : PlacesAt w S q.1 q.2.1 nt.2.2)
  {b2 : Nat} (hb2 : w.heap[b2]? = some (.cells #[.int .i64 nt.1, .int .i64 nt.2.1.1, .int .i64 nt.2.1.2, .slice q.1 q.2.1 q.2.2] 50 (0, 0))) (hb2n : b2 ∉ rowB p) :
  ∃ (l2 : Option Addr) (l2n l2c : Nat) (w13 : World), (Builtin.append_ #[39, 39] 39 #[.slice p n c, .slice (some (⟨b2, 0, none⟩ : Addr)) 1 1]).run Tryd.prog w = .ok (.slice l2 l2n l2c) w13 ∧ NotesAt w13 S l2 l2n l2c (ns ++ [nt]) ∧ Chg (rowB p) w w13 ∧ ∀ i ∈ rowB l2, i ∈ rowB p ∨ w.heap.size ≤ i := by
 obtain ⟨g, k1, k2, k3⟩ := h.there
 have hl := h.len
 obtain ⟨p', c', w', happ, hrow, hc, hnew⟩ := k2.append (P := Tryd.prog) (t := 39) (ty := 39) (i := Tryd.t50) (z := .agg #[.int .i64 0, .int .i64 0, .int .i64 0, .slice none 0 0]) (bytes := 48) (by kernel_rfl) (by kernel_rfl) (by kernel_rfl) (by kernel_rfl) (by kernel_rfl) rfl (by omega)
  (a := ⟨b2, 0, none⟩) (m := 1) (mc := 1) (news := noteC (nt, q)) (by simp [noteC]) (fun j u hj => by
   match j, hj with
   | 0, hj => simp [noteC] at hj; subst hj; rw [add_at, cell_of hb2]; rfl
   | 1, hj => simp [noteC] at hj; subst hj; rw [add_at, cell_of hb2]; rfl
   | 2, hj => simp [noteC] at hj; subst hj; rw [add_at, cell_of hb2]; rfl
   | 3, hj => simp [noteC] at hj; subst hj; rw [add_at, cell_of hb2]; rfl
   | j + 4, hj => simp [noteC] at hj) (fun u hu => by simp [noteC] at hu; rcases hu with rfl | rfl | rfl | rfl <;> rfl) (by unfold maxLen; omega) (by omega)
 have hSp : ∀ i ∈ rowB p, ¬ S i := h.apart
 refine ⟨p', n + 1, c', w', happ, ⟨⟨g ++ [(nt, q)], by rw [List.map_append, k1]; rfl, by rw [List.flatMap_append]; simpa using hrow, fun x hx => ?_⟩, by simp [hl], fun i hi hSi => ?_⟩, hc, hnew⟩
 ·rcases List.mem_append.1 hx with hx | hx
  ·exact (k3 x hx).chg hc hSp
  ·simp at hx; subst hx; exact hq.chg hc hSp
 ·rcases hnew i hi with h' | h'
  ·exact hSp i h' hSi
  ·have := hS i hSi; omega
def stepA (st : List Nt × Int) (x : AddV) : List Nt × Int := if x.1 < 0 ∨ x.1 < st.2 then st else (st.1 ++ newN x.1 x.2, lastN x.1 st.2 x.2)
def madeA (l : List AddV) : List Nt × Int := l.foldl stepA ([], 0)
theorem madeA_snoc (l : List AddV) (x : AddV) : madeA (l ++ [x]) = stepA (madeA l) x := by simp [madeA]
theorem madeA_few (l : List AddV) (h : smallA l) : ∀ j, (madeA (l.take j)).1.length ≤ 10 * j := by
 intro j
 induction j with
 | zero => simp [madeA]
 | succ j ih =>
  by_cases hj : j < l.length
  ·obtain ⟨x, hx⟩ := get_of hj
   rw [take_snoc hx, madeA_snoc]
   unfold stepA
   have := (h.2 x (List.mem_of_getElem? hx)).1
   have hn := newN_len x.1 x.2
   split
   ·omega
   ·simp only [List.length_append]; omega
  ·rw [List.take_of_length_le (by omega)]
   rw [List.take_of_length_le (by omega)] at ih
   omega
theorem newN_small {step : Int} {ts : List Tch} {M : Nat} (h : ∀ t ∈ ts, t.2.length ≤ M) : ∀ n ∈ newN step ts, n.2.2.length ≤ M := by
 intro n hn
 unfold newN at hn
 obtain ⟨t, ht, rfl⟩ := List.mem_map.1 hn
 exact h t (List.mem_filter.1 ht).1
theorem madeA_small (l : List AddV) (h : ∀ x ∈ l, ∀ t ∈ x.2, t.2.length ≤ 6) : ∀ n ∈ (madeA l).1, n.2.2.length ≤ 6 := by
 have : ∀ (l : List AddV) (st : List Nt × Int), (∀ x ∈ l, ∀ t ∈ x.2, t.2.length ≤ 6) → (∀ n ∈ st.1, n.2.2.length ≤ 6) → ∀ n ∈ (l.foldl stepA st).1, n.2.2.length ≤ 6 := by
  intro l
  induction l with
  | nil => intro st _ h; exact h
  | cons x l ih =>
   intro st hl hst
   refine ih _ (fun y hy => hl y (.tail _ hy)) ?_
   unfold stepA
   split
   ·exact hst
   ·intro n hn
    rcases List.mem_append.1 hn with hn | hn
    ·exact hst n hn
    ·exact newN_small (hl x (.head _)) n hn
 exact this l ([], 0) h (by simp)
theorem made14 {w : World} {S : Nat → Prop} {p : Option Addr} {n c : Nat} {l : List AddV} (h : AddsAt w S p n l) (hS : ∀ i, S i → i < w.heap.size) (hsm : smallA l) :
  Calls Tryd.prog 12 #[.slice p n c] w fun e w' => ∃ (r1 r2 : Option Addr) (r2n r2c : Nat) (r3 : Bool), e = .returned (.tuple #[.pointer r1, .slice r2 r2n r2c, .bool r3]) ∧
   (r3 = true ∧ Chg [] w w' ∧ ∃ b fp, r1 = some ⟨b, 0, none⟩ ∧ HistAt w' b (madeA l).1 (madeA l).1.length (madeA l).2 fp ∧ (∀ i ∈ fp, w.heap.size ≤ i) ∧ NotesAt w' S r2 r2n r2c (madeA l).1 ∧ (∀ i ∈ rowB r2, w.heap.size ≤ i ∧ i ∉ fp)) := by
 have hl := h.length
 have hl30 := hsm.1
 refine go_pomanderlaw14_made _ _ _ _ _ ?_
 unfold W_pomanderlaw14_made
 refine (query_new w).mono ?_
 rintro _ w1 ⟨_, rfl, b, fp1, rfl, hH1, c1, hf1⟩
 refine ⟨_, rfl, ?_⟩
 refine ⟨fun x1 x2 x2n x2c x3 notes notesn notesc last i w2 => ∃ j : Nat, i = (j : Int) ∧ j ≤ l.length ∧ last = (madeA (l.take j)).2 ∧ ∃ fp, HistAt w2 b (madeA (l.take j)).1 (madeA (l.take j)).1.length (madeA (l.take j)).2 fp ∧ (∀ i ∈ fp, w.heap.size ≤ i) ∧ NotesAt w2 S notes notesn notesc (madeA (l.take j)).1 ∧ (∀ i ∈ rowB notes, w.heap.size ≤ i ∧ i ∉ fp) ∧ Chg [] w w2,
  fun _ _ _ _ _ _ _ _ _ i _ => (l.length - i).toNat, ⟨0, rfl, Nat.zero_le _, rfl, fp1, hH1, hf1, NotesAt.nil w1 S, by simp [rowB], c1⟩, ?_⟩
 rintro x1 x2 x2n x2c x3 notes notesn notesc _ _ w2 ⟨j, rfl, hj, rfl, fp, hH, hfp, hN, hNf, c2⟩
 refine ⟨fun hlt => ?_, fun hge => ?_⟩
 ·have hjn : j < l.length := by have := of_decide_eq_true hlt; omega
  obtain ⟨x, hx⟩ := get_of hjn
  have hxm := List.mem_of_getElem? hx
  have hx10 := (hsm.2 x hxm).1
  have hx6 := (hsm.2 x hxm).2
  obtain ⟨i1, a, q, qn, qc, ha, hSa, hcs, hts, hqn, hin⟩ := (h.chg (f := []) c2 (by simp)).each j x hx
  have hql := hts.length
  have hfew := madeA_few l hsm j
  have hstep : madeA (l.take (j + 1)) = stepA (madeA (l.take j)) x := by rw [take_snoc hx, madeA_snoc]
  obtain ⟨want, hwant⟩ : ∃ want : Int, want = if x.1 < 0 ∨ x.1 < (madeA (l.take j)).2 then 2 else 0 := ⟨_, rfl⟩
  refine ⟨fun x4 x5 x5n x5c x6 notes2 notes2n notes2c last2 w3 => last2 = (madeA (l.take (j + 1))).2 ∧ ∃ fp, HistAt w3 b (madeA (l.take (j + 1))).1 (madeA (l.take (j + 1))).1.length (madeA (l.take (j + 1))).2 fp ∧ (∀ i ∈ fp, w.heap.size ≤ i) ∧ NotesAt w3 S notes2 notes2n notes2c (madeA (l.take (j + 1))).1 ∧ (∀ i ∈ rowB notes2, w.heap.size ≤ i ∧ i ∉ fp) ∧ Chg [] w w3, ?_, ?_⟩
  ·rintro x4 x5 x5n x5c x6 notes2 notes2n notes2c _ w3 ⟨rfl, k3⟩
   rw [wr (by omega) (by omega)]
   exact ⟨⟨j + 1, by omega, by omega, rfl, k3⟩, by simp only []; omega⟩
  refine ⟨fun wt w4 => want = wt ∧ w2 = w4, ?_, a, ha, by omega, by omega, x.1, hcs.1, fun bb w14 => decide (x.1 < 0 ∨ x.1 < (madeA (l.take j)).2) = bb ∧ w2 = w14, ?_, fun hneg => ⟨?_, rfl⟩, fun hneg => ⟨?_, rfl⟩⟩
  rotate_left
  ·rintro _ _ ⟨rfl, rfl⟩
   refine ⟨fun hb => ⟨?_, rfl⟩, fun hb => ⟨?_, rfl⟩⟩
   ·rw [hwant, if_pos (of_decide_eq_true hb)]
   ·rw [hwant, if_neg (of_decide_eq_false hb)]
  ·have := of_decide_eq_false hneg
   exact decide_eq_decide.2 ⟨fun h => h.resolve_left this, .inr⟩
  ·have := of_decide_eq_true hneg
   exact decide_eq_true (.inl this)
  rintro _ _ ⟨rfl, rfl⟩
  refine ⟨a, ha, by omega, by omega, fun w5 c5 => ?_⟩
  have hcs5 := c5.cells (by simp) hcs
  refine ⟨x.1, hcs5.1, q, qn, qc, by simpa using hcs5.2.1, ?_⟩
  have c05 := c2.trans0 c5
  have hH5 := hH.chg c5 (by simp)
  have hdis : ∀ i ∈ fp, ¬ S i := fun i hi hSi => by have := hfp i hi; have := hS i hSi; omega
  refine (hist_add hH5 (hts.chg (f := []) c5 (by simp)) hdis (fun t ht => by have := hx6 t ht; omega) (by omega) i1).mono ?_
  rintro _ w6 ⟨r5, rfl, fp6, c6, hf6, hres⟩
  have s6 := c6.size
  have s5 := c5.size
  have s2 := c2.size
  have hlt5 := hH5.lt
  have hr5 : r5 = want := by
   rw [hwant]
   split at hres
   ·rename_i hb; rw [if_pos hb]; exact hres.1
   ·rename_i hb; rw [if_neg hb]; exact hres.1
  have c06 : Chg [] w w6 := c05.trans c6 (fun i hi hlt' => by have := hfp i hi; omega)
  have hfp6 : ∀ i ∈ fp6, w.heap.size ≤ i := fun i hi => by
   rcases hf6 i hi with h | h
   ·exact hfp i h
   ·omega
  have hN5 : NotesAt w5 S notes notesn notesc (madeA (l.take j)).1 := hN.chg c5 (by simp) (by simp)
  have hN6 : NotesAt w6 S notes notesn notesc (madeA (l.take j)).1 := hN5.chg c6 (fun i hi => (hNf i hi).2) hdis
  have hNf6 : ∀ i ∈ rowB notes, w.heap.size ≤ i ∧ i ∉ fp6 := fun i hi => ⟨(hNf i hi).1, fun hm => by
   rcases hf6 i hm with h | h
   ·exact (hNf i hi).2 h
   ·have := hN5.lt i hi; omega⟩
  refine ⟨r5, rfl, fun hne => by rw [hr5] at hne; simp at hne, fun _ => ⟨fun hw => ?_, fun hw => ?_⟩⟩
  ·have hbad : x.1 < 0 ∨ x.1 < (madeA (l.take j)).2 := Classical.byContradiction fun hb => by rw [hwant, if_neg hb] at hw; simp at hw
   have hst : stepA (madeA (l.take j)) x = madeA (l.take j) := by unfold stepA; rw [if_pos hbad]
   rw [if_pos hbad] at hres
   rw [hstep, hst]
   exact ⟨rfl, fp6, hres.2, hfp6, hN6, hNf6, c06⟩
  ·have hok : ¬ (x.1 < 0 ∨ x.1 < (madeA (l.take j)).2) := fun hb => by rw [hwant, if_pos hb] at hw; simp at hw
   have hst : stepA (madeA (l.take j)) x = ((madeA (l.take j)).1 ++ newN x.1 x.2, lastN x.1 (madeA (l.take j)).2 x.2) := by unfold stepA; rw [if_neg hok]
   rw [if_neg hok] at hres
   have hH6 := hres.2
   have hlt6 := hH6.lt
   have hts6 : TouchesAt w6 S q qn x.2 := (hts.chg (f := []) c5 (by simp)).chg c6 hdis
   have hcs6 := c6.cells (by rw [add_block]; exact fun hm => hdis _ hm hSa) hcs5
   refine ⟨fun notes3 notes3n notes3c last3 k w7 => ∃ i : Nat, k = (i : Int) ∧ i ≤ x.2.length ∧ last3 = lastN x.1 (madeA (l.take j)).2 (x.2.take i) ∧ NotesAt w7 S notes3 notes3n notes3c ((madeA (l.take j)).1 ++ newN x.1 (x.2.take i)) ∧ (∀ i ∈ rowB notes3, w.heap.size ≤ i ∧ i ∉ fp6) ∧ ∃ f7 : List Nat, Chg f7 w6 w7 ∧ ∀ i ∈ f7, w.heap.size ≤ i ∧ i ∉ fp6,
    fun _ _ _ _ k _ => (x.2.length - k).toNat, ⟨0, rfl, Nat.zero_le _, by simp [lastN, newN], by simpa [newN] using hN6, hNf6, [], Chg.refl _ _, by simp⟩, ?_⟩
   rintro notes3 notes3n notes3c _ _ w7 ⟨i, rfl, hi, rfl, hN7, hNf7, f7, c7, hf7⟩
   have hf7S : ∀ i ∈ f7, ¬ S i := fun i hi hSi => by have := (hf7 i hi).1; have := hS i hSi; omega
   have s7 := c7.size
   have hcs7 := c7.cells (by rw [add_block]; exact fun hm => hf7S _ hm hSa) hcs6
   refine ⟨q, qn, qc, by simpa using hcs7.2.1, fun hlt2 => ?_, fun hge2 => ?_⟩
   ·have hin' : i < x.2.length := by have := of_decide_eq_true hlt2; omega
    obtain ⟨t, ht⟩ := get_of hin'
    have hts7 : TouchesAt w7 S q qn x.2 := hts6.chg c7 hf7S
    obtain ⟨t1, t2, a2, q2, q2n, q2c, ha2, hSa2, hcs2, hpl⟩ := hts7.each i t ht
    refine ⟨fun notes4 notes4n notes4c last4 w8 => last4 = lastN x.1 (madeA (l.take j)).2 (x.2.take (i + 1)) ∧ NotesAt w8 S notes4 notes4n notes4c ((madeA (l.take j)).1 ++ newN x.1 (x.2.take (i + 1))) ∧ (∀ i ∈ rowB notes4, w.heap.size ≤ i ∧ i ∉ fp6) ∧ ∃ f8 : List Nat, Chg f8 w6 w8 ∧ ∀ i ∈ f8, w.heap.size ≤ i ∧ i ∉ fp6, ?_, a2, ha2, by omega, by omega, t.1.1, t.1.2, q2, q2n, q2c, by simpa using hcs2, ?_⟩
    ·rintro notes4 notes4n notes4c _ w8 ⟨rfl, k8⟩
     rw [wr (by omega) (by omega)]
     exact ⟨⟨i + 1, by omega, by omega, rfl, k8⟩, by simp only []; omega⟩
    rintro b1 w10 ⟨l1, u1⟩ c10
    rw [take_snoc ht, lastN_snoc, newN_snoc]
    refine ⟨fun hz => ?_, fun hz => ?_⟩
    ·rw [to_zero] at hz
     have hz' : t.1 ≠ (0, 0) := of_decide_eq_true hz
     rw [if_pos hz', if_pos hz']
     intro w11 c11
     have c711 := c10.trans0 c11
     have hcs11 := c711.cells (by simp) hcs7
     refine ⟨x.1, hcs11.1, ?_⟩
     refine v_alloc fun b2 w12 e2 hb2 c12 => ?_
     have s11 := c711.size
     have s12 := c12.size
     have c712 := c711.trans0 c12
     have hN12 : NotesAt w12 S notes3 notes3n notes3c ((madeA (l.take j)).1 ++ newN x.1 (x.2.take i)) := hN7.chg c712 (by simp) (by simp)
     have hnl := newN_len x.1 (x.2.take i)
     rw [List.length_take] at hnl
     obtain ⟨l2, l2n, l2c, w13, happ, hN13, c13, hnew⟩ := hN12.push (nt := (x.1, t.1, t.2)) (q := (q2, q2n, q2c)) (fun i hi => by have := hS i hi; omega) (by rw [List.length_append]; omega) (hpl.chg (f := []) c712 (by simp)) hb2 (fun hm => by have := hN7.lt _ hm; omega)
     have hS3 : ∀ i ∈ rowB notes3, ¬ S i := hN7.apart
     have hcs13 := c13.cells (by rw [add_block]; exact fun hm => hS3 _ hm hSa) (c12.cells (by simp) hcs11)
     refine ⟨l2, l2n, l2c, w13, happ, x.1, hcs13.1, rfl, by rw [← List.append_assoc]; exact hN13, fun i hi => ?_, f7 ++ rowB notes3, ((c7.mono (g := f7 ++ rowB notes3) (fun i hi _ => by simp [hi])).trans c712.nil (fun i hi _ => hi)).trans (c13.mono (g := f7 ++ rowB notes3) (fun i hi _ => by simp [hi])) (fun i hi _ => hi), fun i hi => ?_⟩
     ·rcases hnew i hi with h' | h'
      ·exact hNf7 i h'
      ·exact ⟨by omega, fun hm => by have := hlt6 i hm; omega⟩
     ·rcases List.mem_append.1 hi with h' | h'
      ·exact hf7 i h'
      ·exact hNf7 i h'
    ·rw [to_zero] at hz
     have hz' : t.1 = (0, 0) := Decidable.of_not_not (of_decide_eq_false hz)
     rw [if_neg (by simp [hz']), if_neg (by simp [hz']), List.append_nil]
     exact ⟨rfl, hN7.chg c10 (by simp) (by simp), hNf7, f7, c7.trans c10 (by simp), hf7⟩
   ·have hin' : i = x.2.length := by have := of_decide_eq_false hge2; omega
    subst hin'
    rw [List.take_length] at hN7 ⊢
    rw [hstep, hst]
    exact ⟨rfl, fp6, hH6.chg c7 (fun i hi hm => (hf7 i hm).2 hi), hfp6, hN7, hNf7, c06.trans c7 (fun i hi hlt' => by have := (hf7 i hi).1; omega)⟩
 ·have hjn : j = l.length := by have := of_decide_eq_false hge; omega
  subst hjn
  rw [List.take_length] at hH hN
  refine (hist_len hH).mono ?_
  rintro _ w15 ⟨_, rfl, rfl, hw⟩
  subst w15
  have hNl := hN.len
  exact ⟨_, rfl, by simp [hNl], c2, b, fp, rfl, hH, hfp, hN, hNf⟩
end Go.Proofs.YtfcfkhbkkfpehaaDoor
end
section
/- Law 14, in plain Lean: lists of places that rise; what is noted behind a step. -/
namespace Go.Proofs.YtfcfkhbkkfpehaaDoor
open Go Go.RowKit Go.X Go.XR
theorem lt_irrefl (a : Pl) : ¬ ltPl a a := by unfold ltPl; omega
theorem AddsAt.take {w : World} {S : Nat → Prop} {p : Option Addr} {n : Nat} {l : List AddV} (h : AddsAt w S p n l) {c : Nat} (hc : c ≤ n) : AddsAt w S p c (l.take c) :=
 ⟨by rw [List.length_take, h.length]; omega, fun j x hx => by
  rw [List.getElem?_take] at hx
  split at hx
  ·exact h.each j x hx
  ·cases hx⟩
end Go.Proofs.YtfcfkhbkkfpehaaDoor
end
section
namespace Go.Proofs.YtfcfkhbkkfpehaaDoor
open Go Go.X
/- pomander/pomanderref12.Last -/
def W_pomanderref12_Last (l1 : Option Addr) (l1n : Nat) (l1c : Nat) (p1 : Int) (p2 : Int) (step1 : Int) (w : World) (R : Int → World → Prop) : Prop :=
 ∀ (b1 : Nat) (w1 : World), (w.heap.size ≤ b1 ∧ b1 < w1.heap.size) → Chg [] w w1 → (∃ (I1 : Int → Int → World → Prop) (m1 : Int → Int → World → Nat), I1 0 (IntKind.wrap .i64 ((l1n : Int) - 1)) w1 ∧ ∀ (x1 : Int) (i1 : Int) (w2 : World), I1 x1 i1 w2 → ((decide (i1 ≥ 0)) = true → ∃ a1 : Addr, l1 = some a1 ∧ (0 : Int) ≤ i1 ∧ i1 < (l1n : Int) ∧ (∀ (w3 : World), Chg [] w2 w3 → (∃ (t1 : Int) (t2 : Int), CellsAt w3 ((a1.add (Int.toNat i1 * 4)).add 1) 0 [.int .i64 t1, .int .i64 t2] ∧ (∃ J1 : Bool → World → Prop, (∀ (b2 : Bool) (w4 : World), J1 b2 w4 → (b2 = true → R i1 w4) ∧ (b2 = false → (I1 x1 (IntKind.wrap .i64 (i1 - 1)) w4 ∧ m1 x1 (IntKind.wrap .i64 (i1 - 1)) w4 < m1 x1 i1 w2))) ∧ ((((t1 == p1) && (t2 == p2)) = true → ∃ (t3 : Int), w3.cell? (a1.add (Int.toNat i1 * 4)) = some (.int .i64 t3) ∧ (J1 (decide (t3 < step1)) w3)) ∧ (((t1 == p1) && (t2 == p2)) = false → J1 false w3)))))) ∧ ((decide (i1 ≥ 0)) = false → R (-1) w2))
set_option maxRecDepth 100000 in
theorem go_pomanderref12_Last (l1 : Option Addr) (l1n : Nat) (l1c : Nat) (p1 : Int) (p2 : Int) (step1 : Int) (w : World) (R : Int → World → Prop) (h : W_pomanderref12_Last l1 l1n l1c p1 p2 step1 w R) : Calls Tryd.prog 18 #[.slice l1 l1n l1c, .agg #[.int .i64 p1, .int .i64 p2], .int .i64 step1] w (fun e w' => ∃ (r1 : Int), e = .returned (.int .i64 r1) ∧ R r1 w') := by
 unfold W_pomanderref12_Last at h
 refine enter (N := 32) Tryd.func18 rfl rfl ?_
 refine CW.seq ?_
 refine CW.region fun L hL => ?_
 obtain ⟨b1, hb_b1⟩ : ∃ b1, b1 = World.size w := ⟨_, rfl⟩
 obtain ⟨w1, hw_w1⟩ : ∃ w1, w1 = World.alloc w (.cells #[.int .i64 p1, .int .i64 p2] 27) := ⟨_, rfl⟩
 refine LW.val hL rfl (Wants.free rfl) rfl (boxE hb_b1 hw_w1 (Vl.box (v := .agg #[.int .i64 p1, .int .i64 p2]) rfl)) ?_
 have hB := Boxes.alloc (cs := [.int .i64 p1, .int .i64 p2]) (T := 27) (Boxes.nil w) hb_b1 hw_w1
 have hlo_b1 := sil_lo (Chg.refl [] w) hb_b1
 have hc_w1 := sil_alloc (Chg.refl [] w) hw_w1
 refine LW.rd hL rfl (Wants.free rfl) rfl (Rd.assign (v := .int .i64 0) rfl) ?_
 refine LW.nil hL rfl ?_
 refine NW.then ?_
 refine CW.seq ?_
 refine CW.seq ?_
 refine CW.region fun L hL => ?_
 refine LW.rd hL rfl (Wants.free rfl) rfl (Rd.move (v := .slice l1 l1n l1c) rfl) ?_
 refine LW.rd hL rfl (Wants.free rfl) rfl (Rd.builtin (v := .int .i64 (l1n : Int)) rfl (fun _ _ => by kernel_rfl)) ?_
 refine LW.rd hL rfl (Wants.free rfl) rfl (Rd.bin (v := .int .i64 (IntKind.wrap .i64 ((l1n : Int) - 1))) rfl rfl (fun w => by kernel_rfl)) ?_
 refine LW.rd hL rfl (Wants.free rfl) rfl (Rd.assign (v := .int .i64 (IntKind.wrap .i64 ((l1n : Int) - 1))) rfl) ?_
 refine LW.nil hL rfl ?_
 refine NW.then ?_
 refine CW.block ?_
 replace h := h b1 w1 ⟨hlo_b1, lt_of_heap (hB.at (i := 0) rfl)⟩ hc_w1
 obtain ⟨I1, m1, hI1, h⟩ := h
 refine CW.loop (S := Int × Int) (fun s1 => [(0, .slice l1 l1n l1c), (2, .int .i64 step1), (4, .pointer (some (⟨b1, 0, none⟩ : Addr))), (6, .int .i64 s1.1), (7, .int .i64 s1.2)]) (fun s1 w2 => I1 s1.1 s1.2 w2 ∧ Boxes w2 [(b1, [.int .i64 p1, .int .i64 p2], 27)]) (fun s1 w2 => m1 s1.1 s1.2 w2) (0, IntKind.wrap .i64 ((l1n : Int) - 1)) (by exact ⟨rfl, rfl, rfl, rfl, rfl, trivial⟩) ⟨hI1, hB⟩ (fun s1 w2 hI1 => ?_)
 obtain ⟨hI1, hB⟩ := hI1
 obtain ⟨x1, i1⟩ := s1; replace h := h x1 i1 w2 hI1
 refine CW.seq ?_
 refine CW.seq ?_
 refine CW.region fun L hL => ?_
 refine LW.rd hL rfl (Wants.free rfl) rfl (Rd.move (v := .int .i64 i1) rfl) ?_
 refine LW.rd hL rfl (Wants.free rfl) rfl (Rd.bin (v := .bool (decide (i1 ≥ 0))) rfl rfl (fun w => by kernel_rfl)) ?_
 refine LW.nil hL rfl ?_
 refine NW.then ?_
 refine CW.cond rfl (fun hb1 => ?_) (fun hb1 => ?_)
 ·replace h := h.1 hb1
  refine CW.skip ?_
  refine NW.then ?_
  refine CW.seq ?_
  refine CW.block ?_
  refine CW.seq ?_
  obtain ⟨w3, hw_w3⟩ : ∃ x, x = World.drew w2 := ⟨_, rfl⟩
  have hc_w3 := sil_drew (Chg.refl [] w2) hw_w3
  replace hB := hB.drew hw_w3
  refine CW.drawn (fun w => w = w3) 16 (by kernel_rfl) fun H hH => ?_
  rw [← hw_w3]
  refine HW.pure (i := 0) hH rfl (by kernel_rfl) (Wants.free rfl) rfl (fun _ => rfl) (Rd.move (v := .slice l1 l1n l1c) rfl) ?_
  refine HW.pure (i := 1) hH rfl (by kernel_rfl) (Wants.free rfl) rfl (fun _ => rfl) (Rd.move (v := .int .i64 i1) rfl) ?_
  obtain ⟨a1, he1, hi1, hi2, h⟩ := h
  refine HW.pure (i := 2) hH rfl (by kernel_rfl) (Wants.free rfl) rfl (fun _ => rfl) (Rd.iaS (q := a1) (sz := 4) (by rw [← he1]; rfl) rfl Tryd.underlying39 (by kernel_rfl) hi1 hi2) ?_
  refine HW.pure (i := 3) hH rfl (by kernel_rfl) (Wants.free rfl) rfl (fun _ => rfl) (Rd.fa (v := .pointer (some ((a1.add (Int.toNat i1 * 4)).add 1))) rfl (fun _ => by kernel_rfl)) ?_
  replace h := h  w3  hc_w3
  obtain ⟨t1, t2, hc1, h⟩ := h
  refine HW.take (i := 4) hH rfl (by kernel_rfl) (by kernel_rfl) (Wants.free rfl) rfl (fun _ => rfl) (Rd.ldN (cs := [.int .i64 t1, .int .i64 t2]) rfl (by kernel_rfl) (by kernel_rfl) (cellsS hc1)) ?_
  refine HW.take (i := 5) hH rfl (by kernel_rfl) (by kernel_rfl) (Wants.free rfl) rfl (fun _ => rfl) (Rd.ldN (cs := [.int .i64 p1, .int .i64 p2]) rfl (by kernel_rfl) (by kernel_rfl) (cellsS (box_cells (hB.at (i := 0) rfl) rfl))) ?_
  refine HW.pure (i := 6) hH rfl (by kernel_rfl) (Wants.free rfl) rfl (fun _ => rfl) (Rd.bin (v := .bool ((t1 == p1) && (t2 == p2))) rfl rfl (fun w => eqS_27 _ _ _ _ w)) ?_
  refine HW.pure (i := 7) hH rfl (by kernel_rfl) (Wants.free rfl) rfl (fun _ => rfl) (Rd.move (v := .bool ((t1 == p1) && (t2 == p2))) rfl) ?_
  obtain ⟨J1, hJ1, h1_J1, h0_J1⟩ := h
  suffices K1 : ∀ (b2 : Bool) (w4 : World), (w4 = w3) → Boxes w4 [(b1, [.int .i64 p1, .int .i64 p2], 27)] → J1 b2 w4 → H 0 #[true, true, true, true, true, true, true, true, true, true, true, true, true, true, true, true] [(0, .slice l1 l1n l1c), (2, .int .i64 step1), (4, .pointer (some (⟨b1, 0, none⟩ : Addr))), (6, .int .i64 x1), (7, .int .i64 i1), (30, .bool b2)] w4 by
   rcases Bool.eq_false_or_eq_true ((t1 == p1) && (t2 == p2)) with hb2 | hb2
   ·have h := h1_J1 hb2
    refine HW.pure (i := 8) hH rfl (by kernel_rfl) (Wants.on rfl rfl rfl rfl rfl hb2) rfl (fun _ => rfl) (Rd.move (v := .slice l1 l1n l1c) rfl) ?_
    refine HW.pure (i := 9) hH rfl (by kernel_rfl) (Wants.on rfl rfl rfl rfl rfl hb2) rfl (fun _ => rfl) (Rd.move (v := .int .i64 i1) rfl) ?_
    refine HW.pure (i := 10) hH rfl (by kernel_rfl) (Wants.on rfl rfl rfl rfl rfl hb2) rfl (fun _ => rfl) (Rd.iaS (q := a1) (sz := 4) (by rw [← he1]; rfl) rfl Tryd.underlying39 (by kernel_rfl) hi1 hi2) ?_
    refine HW.pure (i := 11) hH rfl (by kernel_rfl) (Wants.on rfl rfl rfl rfl rfl hb2) rfl (fun _ => rfl) (Rd.fa (v := .pointer (some (a1.add (Int.toNat i1 * 4)))) rfl (fun _ => by kernel_rfl)) ?_
    obtain ⟨t3, hc2, h⟩ := h
    refine HW.take (i := 12) hH rfl (by kernel_rfl) (by kernel_rfl) (Wants.on rfl rfl rfl rfl rfl hb2) rfl (fun _ => rfl) (Rd.ld (v := .int .i64 t3) rfl (by kernel_rfl) (eqs hc2)) ?_
    refine HW.pure (i := 13) hH rfl (by kernel_rfl) (Wants.on rfl rfl rfl rfl rfl hb2) rfl (fun _ => rfl) (Rd.move (v := .int .i64 step1) rfl) ?_
    refine HW.pure (i := 14) hH rfl (by kernel_rfl) (Wants.on rfl rfl rfl rfl rfl hb2) rfl (fun _ => rfl) (Rd.bin (v := .bool (decide (t3 < step1))) rfl rfl (fun w => by kernel_rfl)) ?_
    refine HW.pure (i := 15) hH rfl (by kernel_rfl) (Wants.free rfl) rfl (fun _ => rfl) (Rd.pickT rfl hb2 rfl) ?_
    exact HW.sub hH (by exact ⟨rfl, rfl, rfl, rfl, rfl, rfl, trivial⟩) (K1 (decide (t3 < step1)) w3 rfl (by exact hB) h)
   ·have h := h0_J1 hb2
    refine HW.skip (i := 8) hH rfl (by kernel_rfl) (Skips.on rfl rfl rfl rfl rfl hb2) rfl (fun _ => rfl) ?_
    refine HW.skip (i := 9) hH rfl (by kernel_rfl) (Skips.on rfl rfl rfl rfl rfl hb2) rfl (fun _ => rfl) ?_
    refine HW.skip (i := 10) hH rfl (by kernel_rfl) (Skips.on rfl rfl rfl rfl rfl hb2) rfl (fun _ => rfl) ?_
    refine HW.skip (i := 11) hH rfl (by kernel_rfl) (Skips.on rfl rfl rfl rfl rfl hb2) rfl (fun _ => rfl) ?_
    refine HW.skip (i := 12) hH rfl (by kernel_rfl) (Skips.on rfl rfl rfl rfl rfl hb2) rfl (fun _ => rfl) ?_
    refine HW.skip (i := 13) hH rfl (by kernel_rfl) (Skips.on rfl rfl rfl rfl rfl hb2) rfl (fun _ => rfl) ?_
    refine HW.skip (i := 14) hH rfl (by kernel_rfl) (Skips.on rfl rfl rfl rfl rfl hb2) rfl (fun _ => rfl) ?_
    refine HW.pure (i := 15) hH rfl (by kernel_rfl) (Wants.free rfl) rfl (fun _ => rfl) (Rd.pickF rfl hb2 rfl) ?_
    exact HW.sub hH (by exact ⟨rfl, rfl, rfl, rfl, rfl, rfl, trivial⟩) (K1 false w3 rfl (by exact hB) h)
  clear hB
  intro b2 w4 hS1 hB h_
  subst hS1
  have h := hJ1 b2 _ h_; clear h_
  refine HW.done hH (by kernel_rfl) ?_
  refine NW.then ?_
  refine CW.cond rfl (fun hb3 => ?_) (fun hb3 => ?_)
  ·replace h := h.1 hb3
   refine CW.seq ?_
   refine CW.region fun L hL => ?_
   refine LW.rd hL rfl (Wants.free rfl) rfl (Rd.move (v := .int .i64 i1) rfl) ?_
   refine LW.rd hL rfl (Wants.free rfl) rfl (Rd.assign (v := .int .i64 i1) rfl) ?_
   refine LW.nil hL rfl ?_
   refine NW.then ?_
   refine CW.ret ?_
   refine RW.block ?_
   refine RW.then ?_
   refine RW.then ?_
   refine RW.block ?_
   refine RW.then ?_
   exact res1 rfl rfl ⟨i1, rfl, h⟩
  ·replace h := h.2 hb3
   refine CW.skip ?_
   refine NW.block ?_
   refine NW.then ?_
   refine CW.region fun L hL => ?_
   refine LW.rd hL rfl (Wants.free rfl) rfl (Rd.move (v := .int .i64 i1) rfl) ?_
   refine LW.rd hL rfl (Wants.free rfl) rfl (Rd.bin (v := .int .i64 (IntKind.wrap .i64 (i1 - 1))) rfl rfl (fun w => by kernel_rfl)) ?_
   refine LW.rd hL rfl (Wants.free rfl) rfl (Rd.assign (v := .int .i64 (IntKind.wrap .i64 (i1 - 1))) rfl) ?_
   refine LW.nil hL rfl ?_
   exact NW.loop (S := Int × Int) (Ek := fun s1 => [(0, .slice l1 l1n l1c), (2, .int .i64 step1), (4, .pointer (some (⟨b1, 0, none⟩ : Addr))), (6, .int .i64 s1.1), (7, .int .i64 s1.2)]) (x1, IntKind.wrap .i64 (i1 - 1)) (by exact ⟨rfl, rfl, rfl, rfl, rfl, trivial⟩) ⟨⟨h.1, hB⟩, h.2⟩
 ·replace h := h.2 hb1
  refine CW.exit ?_
  refine XW.then ?_
  refine XW.then ?_
  refine XW.hit ?_
  refine NW.then ?_
  refine CW.seq ?_
  refine CW.region fun L hL => ?_
  refine LW.rd hL rfl (Wants.free rfl) rfl (Rd.assign (v := .int .i64 (-1)) rfl) ?_
  refine LW.nil hL rfl ?_
  refine NW.then ?_
  refine CW.ret ?_
  exact res1 rfl rfl ⟨(-1), rfl, h⟩
end Go.Proofs.YtfcfkhbkkfpehaaDoor
end
section
/- The document's Last, ahead, with. -/
namespace Go.Proofs.YtfcfkhbkkfpehaaDoor
open Go Go.RowKit Go.X Go.XR
theorem bef_find (ns : List Nt) (p : Pl) (s : Int) : bef (ofPl ns p) s = ns.reverse.find? (fun n => decide (n.2.1 = p) && decide (n.1 < s)) := by
 unfold bef ofPl
 rw [← List.filter_reverse, List.find?_filter]
 congr 1
 funext n
 by_cases h1 : n.2.1 = p <;> by_cases h2 : n.1 < s <;> simp [h1, h2]
theorem ref_last {w : World} {S : Nat → Prop} {q : Option Addr} {n c : Nat} {ns : List Nt} (h : NotesAt w S q n c ns) (hfew : ns.length ≤ 1000000) (p : Pl) (s : Int) :
  Calls Tryd.prog 18 #[.slice q n c, .agg #[.int .i64 p.1, .int .i64 p.2], .int .i64 s] w fun e w' => ∃ r : Int, e = .returned (.int .i64 r) ∧
   (((bef (ofPl ns p) s = none ∧ r = -1) ∨ ∃ (i : Nat) (nt : Nt), bef (ofPl ns p) s = some nt ∧ r = (i : Int) ∧ ns[i]? = some nt) ∧ Chg [] w w') := by
 have hl := h.len
 refine go_pomanderref12_Last _ _ _ _ _ _ _ _ ?_
 unfold W_pomanderref12_Last
 rintro b1 w1 _ c1
 rw [wr (by omega) (by omega)]
 refine ⟨fun _ i w2 => ∃ j : Nat, j ≤ ns.length ∧ i = (ns.length : Int) - 1 - j ∧ (∀ k y, k < j → ns.reverse[k]? = some y → (decide (y.2.1 = p) && decide (y.1 < s)) = false) ∧ Chg [] w w2, fun _ i _ => (i + 1).toNat, ⟨0, Nat.zero_le _, by omega, fun k y hk => absurd hk (Nat.not_lt_zero _), c1⟩, ?_⟩
 rintro x1 _ w2 ⟨j, hj, rfl, hno, c2⟩
 refine ⟨fun hge => ?_, fun hlt => ?_⟩
 ·have hjn : j < ns.length := by have := of_decide_eq_true hge; omega
  obtain ⟨g, k1, k2, k3⟩ := (h.chg (f := []) c2 (by simp) (by simp)).there
  obtain ⟨y, hy⟩ := get_of (l := ns) (j := ns.length - 1 - j) (by omega)
  have hyr : ns.reverse[j]? = some y := by rw [List.getElem?_reverse (by omega)]; exact hy
  obtain ⟨x, hx, hxy⟩ : ∃ x, g[ns.length - 1 - j]? = some x ∧ x.1 = y := by
   rw [← k1, List.getElem?_map] at hy
   simp only [List.length_map] at hy
   cases hg : g[ns.length - 1 - j]? with
   | none =>
    have : g.length - 1 - j = ns.length - 1 - j := by rw [← k1, List.length_map]
    rw [this, hg] at hy; simp at hy
   | some x =>
    have : g.length - 1 - j = ns.length - 1 - j := by rw [← k1, List.length_map]
    rw [this, hg] at hy
    simp at hy
    exact ⟨x, rfl, hy⟩
  subst hxy
  obtain ⟨a, ha, hcs⟩ := note_cells k2 hx
  have hidx : Int.toNat ((ns.length : Int) - 1 - j) = ns.length - 1 - j := by omega
  refine ⟨a, ha, by omega, by omega, fun w3 c3 => ?_⟩
  have hcs3 := c3.cells (by simp) hcs
  rw [hidx]
  have c03 := c2.trans0 c3
  refine ⟨x.1.2.1.1, x.1.2.1.2, ⟨by rw [add_add]; exact hcs3.2.1, by rw [add_add]; exact hcs3.2.2.1, trivial⟩, ?_⟩
  have hpe : ((x.1.2.1.1 == p.1) && (x.1.2.1.2 == p.2)) = decide (x.1.2.1 = p) := by
   by_cases e : x.1.2.1 = p
   ·rw [decide_eq_true e, e]; simp
   ·rw [decide_eq_false e]
    cases hq : ((x.1.2.1.1 == p.1) && (x.1.2.1.2 == p.2)) with
    | false => rfl
    | true => simp at hq; exact absurd (Prod.ext hq.1 hq.2) e
  rw [hpe]
  refine ⟨fun b w4 => b = (decide (x.1.2.1 = p) && decide (x.1.1 < s)) ∧ Chg [] w w4, ?_, fun he => ⟨x.1.1, hcs3.1, by rw [he]; rfl, c03⟩, fun hne => ⟨by rw [hne]; rfl, c03⟩⟩
  rintro _ w4 ⟨rfl, c4⟩
  refine ⟨fun hb => ?_, fun hb => ?_⟩
  ·refine ⟨.inr ⟨ns.length - 1 - j, x.1, ?_, by omega, hy⟩, c4⟩
   rw [bef_find]
   exact find_first hyr hb hno
  ·rw [wr (by omega) (by omega)]
   refine ⟨⟨j + 1, by omega, by omega, fun k y hk hyk => ?_, c4⟩, by simp only []; omega⟩
   by_cases hkj : k < j
   ·exact hno k y hkj hyk
   ·have : k = j := by omega
    subst this
    rw [hyr] at hyk; cases hyk
    exact hb
 ·have hjn : j = ns.length := by have := of_decide_eq_false hlt; omega
  refine ⟨.inl ⟨?_, rfl⟩, c2⟩
  rw [bef_find, List.find?_eq_none]
  intro y hy
  obtain ⟨k, hk⟩ := List.getElem?_of_mem hy
  have := hno k y (by have := (List.getElem?_eq_some_iff.1 hk).1; rw [List.length_reverse] at this; omega) hk
  rw [this]; simp
/-! ### with -/
end Go.Proofs.YtfcfkhbkkfpehaaDoor
end
section
/- Bytes that came in. -/
namespace Go.Proofs.YtfcfkhbkkfpehaaDoor
open Go Go.RowKit Go.X
structure BytesAt (w : World) (S : Nat → Prop) (p : Option Addr) (n : Nat) (gs : List Int) : Prop where
 length : gs.length = n
 each : ∀ (j : Nat) (g : Int), gs[j]? = some g → 0 ≤ g ∧ g ≤ 255 ∧ ∃ a, p = some a ∧ S a.block ∧ w.cell? (a.add (j * 1)) = some (.int .u8 g)
theorem BytesAt.chg {w w' : World} {S : Nat → Prop} {p : Option Addr} {n : Nat} {gs : List Int} {f : List Nat} (h : BytesAt w S p n gs) (hc : Chg f w w') (hf : ∀ i ∈ f, ¬ S i) : BytesAt w' S p n gs :=
 ⟨h.length, fun j g hg => let ⟨h1, h2, a, h3, h4, h5⟩ := h.each j g hg; ⟨h1, h2, a, h3, h4, hc.cell (by rw [add_block]; exact fun hm => hf _ hm h4) h5⟩⟩
structure StepsAt (w : World) (S : Nat → Prop) (p : Option Addr) (n : Nat) (ss : List Int) : Prop where
 length : ss.length = n
 each : ∀ (j : Nat) (g : Int), ss[j]? = some g → i64s g ∧ ∃ a, p = some a ∧ S a.block ∧ w.cell? (a.add (j * 1)) = some (.int .i64 g)
theorem StepsAt.chg {w w' : World} {S : Nat → Prop} {p : Option Addr} {n : Nat} {ss : List Int} {f : List Nat} (h : StepsAt w S p n ss) (hc : Chg f w w') (hf : ∀ i ∈ f, ¬ S i) : StepsAt w' S p n ss :=
 ⟨h.length, fun j g hg => let ⟨h1, a, h3, h4, h5⟩ := h.each j g hg; ⟨h1, a, h3, h4, hc.cell (by rw [add_block]; exact fun hm => hf _ hm h4) h5⟩⟩
end Go.Proofs.YtfcfkhbkkfpehaaDoor
end
section
namespace Go.Proofs.YtfcfkhbkkfpehaaDoor
open Go Go.X
/- pomander/pomanderlaw14.QueryNotes -/
def W_pomanderlaw14_QueryNotes (l1 : Option Addr) (l1n : Nat) (l1c : Nat) (places1 : Option Addr) (places1n : Nat) (places1c : Nat) (steps1 : Option Addr) (steps1n : Nat) (steps1c : Nat) (w : World) (R : Bool → World → Prop) : Prop :=
 Calls Tryd.prog 11 #[.slice l1 l1n l1c] w fun e w1 => ∃ (r2 : Bool), e = .returned (.bool r2) ∧ ((((r2 || decide ((places1n : Int) > 10)) || decide ((steps1n : Int) > 10)) = true → Calls Tryd.prog 7 #[] w1 fun e w2 => ∃ (r3 : Bool), e = .returned (.bool r3) ∧ (R r3 w2)) ∧ (((r2 || decide ((places1n : Int) > 10)) || decide ((steps1n : Int) > 10)) = false → Calls Tryd.prog 12 #[.slice l1 l1n l1c] w1 fun e w3 => ∃ (r4 : Option Addr) (r5 : Option Addr) (r5n : Nat) (r5c : Nat) (r6 : Bool), e = .returned (.tuple #[.pointer r4, .slice r5 r5n r5c, .bool r6]) ∧ (((!r6) = true → R false w3) ∧ ((!r6) = false → ∃ (I1 : Bool → Int → World → Prop) (m1 : Bool → Int → World → Nat), I1 false 0 w3 ∧ ∀ (x1 : Bool) (i1 : Int) (w4 : World), I1 x1 i1 w4 → ((decide (i1 < (places1n : Int))) = true → ∃ (I2 : (Option Addr) → Nat → Nat → Int → World → Prop) (m2 : (Option Addr) → Nat → Nat → Int → World → Nat), I2 none 0 0 0 w4 ∧ ∀ (want1 : Option Addr) (want1n : Nat) (want1c : Nat) (k1 : Int) (w5 : World), I2 want1 want1n want1c k1 w5 → ((decide (k1 < (r5n : Int))) = true → ∃ J1 : (Option Addr) → Nat → Nat → World → Prop, (∀ (want2 : Option Addr) (want2n : Nat) (want2c : Nat) (w6 : World), J1 want2 want2n want2c w6 → (I2 want2 want2n want2c (IntKind.wrap .i64 (k1 + 1)) w6 ∧ m2 want2 want2n want2c (IntKind.wrap .i64 (k1 + 1)) w6 < m2 want1 want1n want1c k1 w5)) ∧ (∃ a1 : Addr, r5 = some a1 ∧ (0 : Int) ≤ k1 ∧ k1 < (r5n : Int) ∧ (∀ (w7 : World), Chg [] w5 w7 → (∃ (t1 : Int) (t2 : Int), CellsAt w7 ((a1.add (Int.toNat k1 * 4)).add 1) 0 [.int .i64 t1, .int .i64 t2] ∧ (∃ a2 : Addr, places1 = some a2 ∧ (0 : Int) ≤ i1 ∧ i1 < (places1n : Int) ∧ (∃ (t3 : Int) (t4 : Int), CellsAt w7 (a2.add (Int.toNat i1 * 2)) 0 [.int .i64 t3, .int .i64 t4] ∧ ((((t1 == t3) && (t2 == t4)) = true → ∃ (t5 : Int) (t6 : Int) (t7 : Int) (t8 : Option Addr) (t8n : Nat) (t8c : Nat), CellsAt w7 (a1.add (Int.toNat k1 * 4)) 0 [.int .i64 t5, .int .i64 t6, .int .i64 t7, .slice t8 t8n t8c] ∧ (∀ b1 : Nat, b1 = World.size w7 → ∀ w8 : World, w8 = World.alloc w7 (.cells #[.int .i64 t5, .int .i64 t6, .int .i64 t7, .slice t8 t8n t8c] 50) → (∃ (l2 : Option Addr) (l2n : Nat) (l2c : Nat) (w9 : World), (Builtin.append_ #[39, 39] 39 #[.slice want1 want1n want1c, .slice (some (⟨b1, 0, none⟩ : Addr)) 1 1]).run Tryd.prog w8 = .ok (.slice l2 l2n l2c) w9 ∧ (J1 l2 l2n l2c w9)))) ∧ (((t1 == t3) && (t2 == t4)) = false → J1 want1 want1n want1c w7)))))))) ∧ ((decide (k1 < (r5n : Int))) = false → ∃ a3 : Addr, places1 = some a3 ∧ (0 : Int) ≤ i1 ∧ i1 < (places1n : Int) ∧ (∃ (t9 : Int) (t10 : Int), CellsAt w5 (a3.add (Int.toNat i1 * 2)) 0 [.int .i64 t9, .int .i64 t10] ∧ (Calls Tryd.prog 15 #[.pointer r4, .agg #[.int .i64 t9, .int .i64 t10]] w5 fun e w10 => ∃ (r7 : Option Addr) (r7n : Nat) (r7c : Nat), e = .returned (.slice r7 r7n r7c) ∧ (((!((r7n : Int) == (want1n : Int))) = true → R false w10) ∧ ((!((r7n : Int) == (want1n : Int))) = false → ∃ (I3 : Bool → Int → World → Prop) (m3 : Bool → Int → World → Nat), I3 x1 0 w10 ∧ ∀ (x2 : Bool) (k2 : Int) (w11 : World), I3 x2 k2 w11 → ((decide (k2 < (r7n : Int))) = true → ∃ a4 : Addr, r7 = some a4 ∧ (0 : Int) ≤ k2 ∧ k2 < (r7n : Int) ∧ (∀ (w12 : World), Chg [] w11 w12 → (∃ (t11 : Int) (t12 : Int) (t13 : Int) (t14 : Option Addr) (t14n : Nat) (t14c : Nat), CellsAt w12 (a4.add (Int.toNat k2 * 4)) 0 [.int .i64 t11, .int .i64 t12, .int .i64 t13, .slice t14 t14n t14c] ∧ (∃ a5 : Addr, want1 = some a5 ∧ (0 : Int) ≤ k2 ∧ k2 < (want1n : Int) ∧ (∃ (t15 : Int) (t16 : Int) (t17 : Int) (t18 : Option Addr) (t18n : Nat) (t18c : Nat), CellsAt w12 (a5.add (Int.toNat k2 * 4)) 0 [.int .i64 t15, .int .i64 t16, .int .i64 t17, .slice t18 t18n t18c] ∧ (Calls Tryd.prog 16 #[.agg #[.int .i64 t11, .int .i64 t12, .int .i64 t13, .slice t14 t14n t14c], .agg #[.int .i64 t15, .int .i64 t16, .int .i64 t17, .slice t18 t18n t18c]] w12 fun e w13 => ∃ (r8 : Bool), e = .returned (.bool r8) ∧ (((!r8) = true → R false w13) ∧ ((!r8) = false → (I3 x2 (IntKind.wrap .i64 (k2 + 1)) w13 ∧ m3 x2 (IntKind.wrap .i64 (k2 + 1)) w13 < m3 x2 k2 w11))))))))) ∧ ((decide (k2 < (r7n : Int))) = false → ∃ (I4 : Bool → Int → World → Prop) (m4 : Bool → Int → World → Nat), I4 x2 0 w11 ∧ ∀ (x3 : Bool) (k3 : Int) (w14 : World), I4 x3 k3 w14 → ((decide (k3 < (steps1n : Int))) = true → ∀ (w15 : World), Chg [] w14 w15 → (∃ (t19 : Int) (t20 : Int), CellsAt w15 (a3.add (Int.toNat i1 * 2)) 0 [.int .i64 t19, .int .i64 t20] ∧ (∃ a6 : Addr, steps1 = some a6 ∧ (0 : Int) ≤ k3 ∧ k3 < (steps1n : Int) ∧ (∃ (t21 : Int), w15.cell? (a6.add (Int.toNat k3 * 1)) = some (.int .i64 t21) ∧ (∃ J2 : Nat → Int → Int → Int → (Option Addr) → Nat → Nat → Bool → World → Prop, (∀ (b2 : Nat) (x4 : Int) (x5 : Int) (x6 : Int) (x7 : Option Addr) (x7n : Nat) (x7c : Nat) (x8 : Bool) (w16 : World), J2 b2 x4 x5 x6 x7 x7n x7c x8 w16 → ∀ (w22 : World), Chg [b2] w16 w22 → (∃ (t22 : Int) (t23 : Int), CellsAt w22 (a3.add (Int.toNat i1 * 2)) 0 [.int .i64 t22, .int .i64 t23] ∧ (∃ (t24 : Int), w22.cell? (a6.add (Int.toNat k3 * 1)) = some (.int .i64 t24) ∧ (Calls Tryd.prog 18 #[.slice r5 r5n r5c, .agg #[.int .i64 t22, .int .i64 t23], .int .i64 t24] w22 fun e w23 => ∃ (r19 : Int), e = .returned (.int .i64 r19) ∧ (Same w22 w23 [b2] ∧ (∀ (w24 : World), Chg [] w23 w24 → (∃ J3 : Bool → World → Prop, (∀ (b5 : Bool) (w25 : World), J3 b5 w25 → ∃ J5 : Bool → World → Prop, (∀ (b7 : Bool) (w28 : World), J5 b7 w28 → (b7 = true → R false w28) ∧ (b7 = false → (I4 x3 (IntKind.wrap .i64 (k3 + 1)) w28 ∧ m4 x3 (IntKind.wrap .i64 (k3 + 1)) w28 < m4 x3 k3 w14))) ∧ ((b5 = false → ∃ J6 : Bool → World → Prop, (∀ (b8 : Bool) (w29 : World), J6 b8 w29 → J5 b8 w29) ∧ (((!x8) = true → Calls Tryd.prog 16 #[.agg #[.int .i64 x4, .int .i64 x5, .int .i64 x6, .slice x7 x7n x7c], .agg #[.int .i64 0, .int .i64 0, .int .i64 0, .slice none 0 0]] w25 fun e w30 => ∃ (r21 : Bool), e = .returned (.bool r21) ∧ (J6 (!r21) w30)) ∧ ((!x8) = false → J6 false w25))) ∧ (b5 = true → J5 true w25))) ∧ (((!(x8 == (decide (r19 ≥ 0)))) = false → ∃ J4 : Bool → World → Prop, (∀ (b6 : Bool) (w26 : World), J4 b6 w26 → J3 b6 w26) ∧ ((x8 = true → ∃ a7 : Addr, r5 = some a7 ∧ (0 : Int) ≤ (if r19 < 0 then 0 else r19) ∧ (if r19 < 0 then 0 else r19) < (r5n : Int) ∧ (∃ (t25 : Int) (t26 : Int) (t27 : Int) (t28 : Option Addr) (t28n : Nat) (t28c : Nat), CellsAt w24 (a7.add (Int.toNat (if r19 < 0 then 0 else r19) * 4)) 0 [.int .i64 t25, .int .i64 t26, .int .i64 t27, .slice t28 t28n t28c] ∧ (Calls Tryd.prog 16 #[.agg #[.int .i64 x4, .int .i64 x5, .int .i64 x6, .slice x7 x7n x7c], .agg #[.int .i64 t25, .int .i64 t26, .int .i64 t27, .slice t28 t28n t28c]] w24 fun e w27 => ∃ (r20 : Bool), e = .returned (.bool r20) ∧ (Same w24 w27 [b2] ∧ (J4 (!r20) w27))))) ∧ (x8 = false → J4 false w24))) ∧ ((!(x8 == (decide (r19 ≥ 0)))) = true → J3 true w24))))))))) ∧ (Calls Tryd.prog 17 #[.pointer r4, .agg #[.int .i64 t19, .int .i64 t20], .int .i64 t21] w15 fun e w17 => ∃ (r9 : Int) (r10 : Int) (r11 : Int) (r12 : Option Addr) (r12n : Nat) (r12c : Nat) (r13 : Bool), e = .returned (.tuple #[.agg #[.int .i64 r9, .int .i64 r10, .int .i64 r11, .slice r12 r12n r12c], .bool r13]) ∧ ((CellsAt w17 (a3.add (Int.toNat i1 * 2)) 0 [.int .i64 t19, .int .i64 t20] ∧ w17.cell? (a6.add (Int.toNat k3 * 1)) = some (.int .i64 t21)) ∧ (∀ (b3 : Nat) (w18 : World), (w17.heap.size ≤ b3 ∧ b3 < w18.heap.size) → Chg [] w17 w18 → (J2 b3 r9 r10 r11 r12 r12n r12c r13 w18)))) ∧ (∀ (b4 : Nat) (w19 : World), (w15.heap.size ≤ b4 ∧ b4 < w19.heap.size) → Chg [] w15 w19 → (Calls Tryd.prog 17 #[.pointer r4, .agg #[.int .i64 t19, .int .i64 t20], .int .i64 t21] w19 fun e w20 => ∃ (r14 : Int) (r15 : Int) (r16 : Int) (r17 : Option Addr) (r17n : Nat) (r17c : Nat) (r18 : Bool), e = .returned (.tuple #[.agg #[.int .i64 r14, .int .i64 r15, .int .i64 r16, .slice r17 r17n r17c], .bool r18]) ∧ ((CellsAt w20 (a3.add (Int.toNat i1 * 2)) 0 [.int .i64 t19, .int .i64 t20] ∧ w20.cell? (a6.add (Int.toNat k3 * 1)) = some (.int .i64 t21)) ∧ (Same w19 w20 [b4] ∧ (J2 b4 r14 r15 r16 r17 r17n r17c r18 w20)))))))))) ∧ ((decide (k3 < (steps1n : Int))) = false → (I1 x3 (IntKind.wrap .i64 (i1 + 1)) w14 ∧ m1 x3 (IntKind.wrap .i64 (i1 + 1)) w14 < m1 x1 i1 w4))))))))) ∧ ((decide (i1 < (places1n : Int))) = false → Calls Tryd.prog 7 #[] w4 fun e w31 => ∃ (r22 : Bool), e = .returned (.bool r22) ∧ (R r22 w31))))))
set_option maxRecDepth 100000 in
theorem go_pomanderlaw14_QueryNotes (l1 : Option Addr) (l1n : Nat) (l1c : Nat) (places1 : Option Addr) (places1n : Nat) (places1c : Nat) (steps1 : Option Addr) (steps1n : Nat) (steps1c : Nat) (w : World) (R : Bool → World → Prop) (h : W_pomanderlaw14_QueryNotes l1 l1n l1c places1 places1n places1c steps1 steps1n steps1c w R) : Calls Tryd.prog 6 #[.slice l1 l1n l1c, .slice places1 places1n places1c, .slice steps1 steps1n steps1c] w (fun e w' => ∃ (r1 : Bool), e = .returned (.bool r1) ∧ R r1 w') := by
 unfold W_pomanderlaw14_QueryNotes at h
 refine enter (N := 153) Tryd.func6 rfl rfl ?_
 refine CW.seq ?_
 refine CW.region fun L hL => ?_
 refine LW.rd hL rfl (Wants.free rfl) rfl (Rd.assign (v := .bool false) rfl) ?_
 refine LW.nil hL rfl ?_
 refine NW.then ?_
 refine CW.seq ?_
 refine CW.seq ?_
 refine CW.region fun L hL => ?_
 refine LW.rd hL rfl (Wants.free rfl) rfl (Rd.move (v := .slice l1 l1n l1c) rfl) ?_
 refine LW.call hL rfl (Wants.free rfl) rfl (Cl.fn (f := 11) rfl Tryd.func11 (by kernel_rfl) rfl) h (fun e w1 h_ => ?_)
 clear h
 obtain ⟨r2, rfl, h⟩ := h_
 refine ⟨_, rfl, ?_⟩
 refine LW.rd hL rfl (Wants.free rfl) rfl (Rd.move (v := .bool r2) rfl) ?_
 suffices K1 : L 7 [(0, .slice l1 l1n l1c), (1, .slice places1 places1n places1c), (2, .slice steps1 steps1n steps1c), (6, .bool false), (25, .bool (r2 || decide ((places1n : Int) > 10)))] w1 by
  rcases Bool.eq_false_or_eq_true r2 with hb2 | hb2
  ·skip
   refine LW.skip hL rfl (Skips.on rfl rfl rfl rfl rfl hb2) rfl ?_
   refine LW.skip hL rfl (Skips.on rfl rfl rfl rfl rfl hb2) rfl ?_
   refine LW.skip hL rfl (Skips.on rfl rfl rfl rfl rfl hb2) rfl ?_
   refine LW.rd hL rfl (Wants.free rfl) rfl (Rd.pickT rfl hb2 rfl) ?_
   exact LW.sub hL (by exact ⟨rfl, rfl, rfl, rfl, (by rw [hb2]; rfl), trivial⟩) K1
  ·skip
   refine LW.rd hL rfl (Wants.on rfl rfl rfl rfl rfl hb2) rfl (Rd.move (v := .slice places1 places1n places1c) rfl) ?_
   refine LW.rd hL rfl (Wants.on rfl rfl rfl rfl rfl hb2) rfl (Rd.builtin (v := .int .i64 (places1n : Int)) rfl (fun _ _ => by kernel_rfl)) ?_
   refine LW.rd hL rfl (Wants.on rfl rfl rfl rfl rfl hb2) rfl (Rd.bin (v := .bool (decide ((places1n : Int) > 10))) rfl rfl (fun w => by kernel_rfl)) ?_
   refine LW.rd hL rfl (Wants.free rfl) rfl (Rd.pickF rfl hb2 rfl) ?_
   exact LW.sub hL (by exact ⟨rfl, rfl, rfl, rfl, (by rw [hb2]; rfl), trivial⟩) K1
 refine LW.rd hL rfl (Wants.free rfl) rfl (Rd.move (v := .bool (r2 || decide ((places1n : Int) > 10))) rfl) ?_
 suffices K2 : L 12 [(0, .slice l1 l1n l1c), (1, .slice places1 places1n places1c), (2, .slice steps1 steps1n steps1c), (6, .bool false), (30, .bool ((r2 || decide ((places1n : Int) > 10)) || decide ((steps1n : Int) > 10)))] w1 by
  rcases Bool.eq_false_or_eq_true (r2 || decide ((places1n : Int) > 10)) with hb4 | hb4
  ·skip
   refine LW.skip hL rfl (Skips.on rfl rfl rfl rfl rfl hb4) rfl ?_
   refine LW.skip hL rfl (Skips.on rfl rfl rfl rfl rfl hb4) rfl ?_
   refine LW.skip hL rfl (Skips.on rfl rfl rfl rfl rfl hb4) rfl ?_
   refine LW.rd hL rfl (Wants.free rfl) rfl (Rd.pickT rfl hb4 rfl) ?_
   exact LW.sub hL (by exact ⟨rfl, rfl, rfl, rfl, (by rw [hb4]; rfl), trivial⟩) K2
  ·skip
   refine LW.rd hL rfl (Wants.on rfl rfl rfl rfl rfl hb4) rfl (Rd.move (v := .slice steps1 steps1n steps1c) rfl) ?_
   refine LW.rd hL rfl (Wants.on rfl rfl rfl rfl rfl hb4) rfl (Rd.builtin (v := .int .i64 (steps1n : Int)) rfl (fun _ _ => by kernel_rfl)) ?_
   refine LW.rd hL rfl (Wants.on rfl rfl rfl rfl rfl hb4) rfl (Rd.bin (v := .bool (decide ((steps1n : Int) > 10))) rfl rfl (fun w => by kernel_rfl)) ?_
   refine LW.rd hL rfl (Wants.free rfl) rfl (Rd.pickF rfl hb4 rfl) ?_
   exact LW.sub hL (by exact ⟨rfl, rfl, rfl, rfl, (by rw [hb4]; rfl), trivial⟩) K2
 refine LW.nil hL rfl ?_
 refine NW.then ?_
 refine CW.cond rfl (fun hb5 => ?_) (fun hb5 => ?_)
 ·replace h := h.1 hb5
  refine CW.seq ?_
  refine CW.region fun L hL => ?_
  refine LW.call hL rfl (Wants.free rfl) rfl (Cl.fn (f := 7) rfl Tryd.func7 (by kernel_rfl) rfl) h (fun e w2 h_ => ?_)
  clear h
  obtain ⟨r3, rfl, h⟩ := h_
  refine ⟨_, rfl, ?_⟩
  refine LW.rd hL rfl (Wants.free rfl) rfl (Rd.assign (v := .bool r3) rfl) ?_
  refine LW.nil hL rfl ?_
  refine NW.then ?_
  refine CW.ret ?_
  refine RW.then ?_
  exact res1 rfl rfl ⟨r3, rfl, h⟩
 ·replace h := h.2 hb5
  refine CW.skip ?_
  refine NW.then ?_
  refine CW.seq ?_
  refine CW.region fun L hL => ?_
  refine LW.rd hL rfl (Wants.free rfl) rfl (Rd.move (v := .slice l1 l1n l1c) rfl) ?_
  refine LW.call hL rfl (Wants.free rfl) rfl (Cl.fn (f := 12) rfl Tryd.func12 (by kernel_rfl) rfl) h (fun e w3 h_ => ?_)
  clear h
  obtain ⟨r4, r5, r5n, r5c, r6, rfl, h⟩ := h_
  refine ⟨_, rfl, ?_⟩
  refine LW.rd hL rfl (Wants.free rfl) rfl (Rd.move (v := .tuple #[.pointer r4, .slice r5 r5n r5c, .bool r6]) rfl) ?_
  refine LW.rd hL rfl (Wants.free rfl) rfl (Rd.extract (v := .pointer r4) rfl rfl) ?_
  refine LW.rd hL rfl (Wants.free rfl) rfl (Rd.extract (v := .slice r5 r5n r5c) rfl rfl) ?_
  refine LW.rd hL rfl (Wants.free rfl) rfl (Rd.extract (v := .bool r6) rfl rfl) ?_
  refine LW.rd hL rfl (Wants.free rfl) rfl (Rd.assign (v := .pointer r4) rfl) ?_
  refine LW.rd hL rfl (Wants.free rfl) rfl (Rd.assign (v := .slice r5 r5n r5c) rfl) ?_
  refine LW.rd hL rfl (Wants.free rfl) rfl (Rd.assign (v := .bool r6) rfl) ?_
  refine LW.nil hL rfl ?_
  refine NW.then ?_
  refine CW.seq ?_
  refine CW.seq ?_
  refine CW.region fun L hL => ?_
  refine LW.rd hL rfl (Wants.free rfl) rfl (Rd.move (v := .bool r6) rfl) ?_
  refine LW.rd hL rfl (Wants.free rfl) rfl (Rd.un (v := .bool (!r6)) rfl (fun _ => by kernel_rfl)) ?_
  refine LW.nil hL rfl ?_
  refine NW.then ?_
  refine CW.cond rfl (fun hb6 => ?_) (fun hb6 => ?_)
  ·replace h := h.1 hb6
   refine CW.seq ?_
   refine CW.region fun L hL => ?_
   refine LW.rd hL rfl (Wants.free rfl) rfl (Rd.assign (v := .bool false) rfl) ?_
   refine LW.nil hL rfl ?_
   refine NW.then ?_
   refine CW.ret ?_
   refine RW.then ?_
   exact res1 rfl rfl ⟨false, rfl, h⟩
  ·replace h := h.2 hb6
   refine CW.skip ?_
   refine NW.then ?_
   refine CW.seq ?_
   refine CW.seq ?_
   refine CW.region fun L hL => ?_
   refine LW.rd hL rfl (Wants.free rfl) rfl (Rd.assign (v := .int .i64 0) rfl) ?_
   refine LW.nil hL rfl ?_
   refine NW.then ?_
   refine CW.block ?_
   obtain ⟨I1, m1, hI1, h⟩ := h
   refine CW.loop (S := Bool × Int) (fun s1 => [(1, .slice places1 places1n places1c), (2, .slice steps1 steps1n steps1c), (7, .pointer r4), (8, .slice r5 r5n r5c), (6, .bool s1.1), (10, .int .i64 s1.2)]) (fun s1 w4 => I1 s1.1 s1.2 w4) (fun s1 w4 => m1 s1.1 s1.2 w4) (false, 0) (by exact ⟨rfl, rfl, rfl, rfl, rfl, rfl, trivial⟩) hI1 (fun s1 w4 hI1 => ?_)
   obtain ⟨x1, i1⟩ := s1; replace h := h x1 i1 w4 hI1
   refine CW.seq ?_
   refine CW.seq ?_
   refine CW.region fun L hL => ?_
   refine LW.rd hL rfl (Wants.free rfl) rfl (Rd.move (v := .int .i64 i1) rfl) ?_
   refine LW.rd hL rfl (Wants.free rfl) rfl (Rd.move (v := .slice places1 places1n places1c) rfl) ?_
   refine LW.rd hL rfl (Wants.free rfl) rfl (Rd.builtin (v := .int .i64 (places1n : Int)) rfl (fun _ _ => by kernel_rfl)) ?_
   refine LW.rd hL rfl (Wants.free rfl) rfl (Rd.bin (v := .bool (decide (i1 < (places1n : Int)))) rfl rfl (fun w => by kernel_rfl)) ?_
   refine LW.nil hL rfl ?_
   refine NW.then ?_
   refine CW.cond rfl (fun hb7 => ?_) (fun hb7 => ?_)
   ·replace h := h.1 hb7
    refine CW.skip ?_
    refine NW.then ?_
    refine CW.seq ?_
    refine CW.block ?_
    refine CW.seq ?_
    refine CW.region fun L hL => ?_
    refine LW.rd hL rfl (Wants.free rfl) rfl (Rd.assign (v := .slice none 0 0) rfl) ?_
    refine LW.nil hL rfl ?_
    refine NW.then ?_
    refine CW.seq ?_
    refine CW.seq ?_
    refine CW.region fun L hL => ?_
    refine LW.rd hL rfl (Wants.free rfl) rfl (Rd.assign (v := .int .i64 0) rfl) ?_
    refine LW.nil hL rfl ?_
    refine NW.then ?_
    refine CW.block ?_
    obtain ⟨I2, m2, hI2, h⟩ := h
    refine CW.loop (S := (Option Addr) × Nat × Nat × Int) (fun s2 => [(1, .slice places1 places1n places1c), (2, .slice steps1 steps1n steps1c), (6, .bool x1), (7, .pointer r4), (8, .slice r5 r5n r5c), (10, .int .i64 i1), (11, .slice s2.1 s2.2.1 s2.2.2.1), (12, .int .i64 s2.2.2.2)]) (fun s2 w5 => I2 s2.1 s2.2.1 s2.2.2.1 s2.2.2.2 w5) (fun s2 w5 => m2 s2.1 s2.2.1 s2.2.2.1 s2.2.2.2 w5) (none, 0, 0, 0) (by exact ⟨rfl, rfl, rfl, rfl, rfl, rfl, rfl, rfl, trivial⟩) hI2 (fun s2 w5 hI2 => ?_)
    obtain ⟨want1, want1n, want1c, k1⟩ := s2; replace h := h want1 want1n want1c k1 w5 hI2
    refine CW.seq ?_
    refine CW.seq ?_
    refine CW.region fun L hL => ?_
    refine LW.rd hL rfl (Wants.free rfl) rfl (Rd.move (v := .int .i64 k1) rfl) ?_
    refine LW.rd hL rfl (Wants.free rfl) rfl (Rd.move (v := .slice r5 r5n r5c) rfl) ?_
    refine LW.rd hL rfl (Wants.free rfl) rfl (Rd.builtin (v := .int .i64 (r5n : Int)) rfl (fun _ _ => by kernel_rfl)) ?_
    refine LW.rd hL rfl (Wants.free rfl) rfl (Rd.bin (v := .bool (decide (k1 < (r5n : Int)))) rfl rfl (fun w => by kernel_rfl)) ?_
    refine LW.nil hL rfl ?_
    refine NW.then ?_
    refine CW.cond rfl (fun hb8 => ?_) (fun hb8 => ?_)
    ·replace h := h.1 hb8
     refine CW.skip ?_
     refine NW.then ?_
     obtain ⟨J1, hJ1, h⟩ := h
     refine CW.cut (S := (Option Addr) × Nat × Nat) (fun s3 => [(1, .slice places1 places1n places1c), (2, .slice steps1 steps1n steps1c), (6, .bool x1), (7, .pointer r4), (8, .slice r5 r5n r5c), (10, .int .i64 i1), (12, .int .i64 k1), (11, .slice s3.1 s3.2.1 s3.2.2)]) (fun s3 w6 => J1 s3.1 s3.2.1 s3.2.2 w6) (fun s3 w6 h_ => ?_) ?_
     ·obtain ⟨want2, want2n, want2c⟩ := s3; replace h := hJ1 want2 want2n want2c w6 h_; clear h_
      refine CW.region fun L hL => ?_
      refine LW.rd hL rfl (Wants.free rfl) rfl (Rd.move (v := .int .i64 k1) rfl) ?_
      refine LW.rd hL rfl (Wants.free rfl) rfl (Rd.bin (v := .int .i64 (IntKind.wrap .i64 (k1 + 1))) rfl rfl (fun w => by kernel_rfl)) ?_
      refine LW.rd hL rfl (Wants.free rfl) rfl (Rd.assign (v := .int .i64 (IntKind.wrap .i64 (k1 + 1))) rfl) ?_
      refine LW.nil hL rfl ?_
      exact NW.loop (S := (Option Addr) × Nat × Nat × Int) (Ek := fun s2 => [(1, .slice places1 places1n places1c), (2, .slice steps1 steps1n steps1c), (6, .bool x1), (7, .pointer r4), (8, .slice r5 r5n r5c), (10, .int .i64 i1), (11, .slice s2.1 s2.2.1 s2.2.2.1), (12, .int .i64 s2.2.2.2)]) (want2, want2n, want2c, IntKind.wrap .i64 (k1 + 1)) (by exact ⟨rfl, rfl, rfl, rfl, rfl, rfl, rfl, rfl, trivial⟩) h
     ·skip
      refine CW.block ?_
      refine CW.seq ?_
      obtain ⟨w7, hw_w7⟩ : ∃ x, x = World.drew w5 := ⟨_, rfl⟩
      have hc_w7 := sil_drew (Chg.refl [] w5) hw_w7
      refine CW.drawn (fun w => w = w7) 10 (by kernel_rfl) fun H hH => ?_
      rw [← hw_w7]
      refine HW.pure (i := 0) hH rfl (by kernel_rfl) (Wants.free rfl) rfl (fun _ => rfl) (Rd.move (v := .slice r5 r5n r5c) rfl) ?_
      refine HW.pure (i := 1) hH rfl (by kernel_rfl) (Wants.free rfl) rfl (fun _ => rfl) (Rd.move (v := .int .i64 k1) rfl) ?_
      obtain ⟨a1, he1, hi1, hi2, h⟩ := h
      refine HW.pure (i := 2) hH rfl (by kernel_rfl) (Wants.free rfl) rfl (fun _ => rfl) (Rd.iaS (q := a1) (sz := 4) (by rw [← he1]; rfl) rfl Tryd.underlying39 (by kernel_rfl) hi1 hi2) ?_
      refine HW.pure (i := 3) hH rfl (by kernel_rfl) (Wants.free rfl) rfl (fun _ => rfl) (Rd.fa (v := .pointer (some ((a1.add (Int.toNat k1 * 4)).add 1))) rfl (fun _ => by kernel_rfl)) ?_
      replace h := h  w7  hc_w7
      obtain ⟨t1, t2, hc1, h⟩ := h
      refine HW.take (i := 4) hH rfl (by kernel_rfl) (by kernel_rfl) (Wants.free rfl) rfl (fun _ => rfl) (Rd.ldN (cs := [.int .i64 t1, .int .i64 t2]) rfl (by kernel_rfl) (by kernel_rfl) (cellsS hc1)) ?_
      refine HW.pure (i := 5) hH rfl (by kernel_rfl) (Wants.free rfl) rfl (fun _ => rfl) (Rd.move (v := .slice places1 places1n places1c) rfl) ?_
      refine HW.pure (i := 6) hH rfl (by kernel_rfl) (Wants.free rfl) rfl (fun _ => rfl) (Rd.move (v := .int .i64 i1) rfl) ?_
      obtain ⟨a2, he2, hi3, hi4, h⟩ := h
      refine HW.pure (i := 7) hH rfl (by kernel_rfl) (Wants.free rfl) rfl (fun _ => rfl) (Rd.iaS (q := a2) (sz := 2) (by rw [← he2]; rfl) rfl Tryd.underlying22 (by kernel_rfl) hi3 hi4) ?_
      obtain ⟨t3, t4, hc2, h⟩ := h
      refine HW.take (i := 8) hH rfl (by kernel_rfl) (by kernel_rfl) (Wants.free rfl) rfl (fun _ => rfl) (Rd.ldN (cs := [.int .i64 t3, .int .i64 t4]) rfl (by kernel_rfl) (by kernel_rfl) (cellsS hc2)) ?_
      refine HW.pure (i := 9) hH rfl (by kernel_rfl) (Wants.free rfl) rfl (fun _ => rfl) (Rd.bin (v := .bool ((t1 == t3) && (t2 == t4))) rfl rfl (fun w => eqS_27 _ _ _ _ w)) ?_
      refine HW.done hH (by kernel_rfl) ?_
      refine NW.then ?_
      refine CW.cond rfl (fun hb9 => ?_) (fun hb9 => ?_)
      ·replace h := h.1 hb9
       refine CW.region fun L hL => ?_
       refine LW.rd hL rfl (Wants.free rfl) rfl (Rd.move (v := .slice want1 want1n want1c) rfl) ?_
       refine LW.rd hL rfl (Wants.free rfl) rfl (Rd.move (v := .slice r5 r5n r5c) rfl) ?_
       refine LW.rd hL rfl (Wants.free rfl) rfl (Rd.move (v := .int .i64 k1) rfl) ?_
       refine LW.rd hL rfl (Wants.free rfl) rfl (Rd.iaS (q := a1) (sz := 4) (by rw [← he1]; rfl) rfl Tryd.underlying39 (by kernel_rfl) hi1 hi2) ?_
       obtain ⟨t5, t6, t7, t8, t8n, t8c, hc3, h⟩ := h
       refine LW.rd hL rfl (Wants.free rfl) rfl (Rd.ldN (cs := [.int .i64 t5, .int .i64 t6, .int .i64 t7, .slice t8 t8n t8c]) rfl (by kernel_rfl) (by kernel_rfl) (cellsS hc3)) ?_
       obtain ⟨b1, hb_b1⟩ : ∃ b1, b1 = World.size w7 := ⟨_, rfl⟩
       obtain ⟨w8, hw_w8⟩ : ∃ w8, w8 = World.alloc w7 (.cells #[.int .i64 t5, .int .i64 t6, .int .i64 t7, .slice t8 t8n t8c] 50) := ⟨_, rfl⟩
       replace h := h b1 hb_b1 w8 hw_w8
       refine LW.val hL rfl (Wants.free rfl) rfl (sliceE (n := 1) hb_b1 hw_w8 (fun w => Vl.buildSlice (vs := [(0, .agg #[.int .i64 t5, .int .i64 t6, .int .i64 t7, .slice t8 t8n t8c])]) rfl (by kernel_rfl))) ?_
       obtain ⟨l2, l2n, l2c, w9, ha1, h⟩ := h
       refine LW.val hL rfl (Wants.free rfl) rfl (Vl.builtin (v := .slice l2 l2n l2c) rfl (valB ha1)) ?_
       refine LW.rd hL rfl (Wants.free rfl) rfl (Rd.assign (v := .slice l2 l2n l2c) rfl) ?_
       refine LW.nil hL rfl ?_
       refine NW.block ?_
       exact NW.cut (S := (Option Addr) × Nat × Nat) (Ek := fun s3 => [(1, .slice places1 places1n places1c), (2, .slice steps1 steps1n steps1c), (6, .bool x1), (7, .pointer r4), (8, .slice r5 r5n r5c), (10, .int .i64 i1), (12, .int .i64 k1), (11, .slice s3.1 s3.2.1 s3.2.2)]) (l2, l2n, l2c) (by exact ⟨rfl, rfl, rfl, rfl, rfl, rfl, rfl, rfl, trivial⟩) h
      ·replace h := h.2 hb9
       refine CW.skip ?_
       refine NW.block ?_
       exact NW.cut (S := (Option Addr) × Nat × Nat) (Ek := fun s3 => [(1, .slice places1 places1n places1c), (2, .slice steps1 steps1n steps1c), (6, .bool x1), (7, .pointer r4), (8, .slice r5 r5n r5c), (10, .int .i64 i1), (12, .int .i64 k1), (11, .slice s3.1 s3.2.1 s3.2.2)]) (want1, want1n, want1c) (by exact ⟨rfl, rfl, rfl, rfl, rfl, rfl, rfl, rfl, trivial⟩) h
    ·replace h := h.2 hb8
     refine CW.exit ?_
     refine XW.then ?_
     refine XW.then ?_
     refine XW.hit ?_
     refine NW.then ?_
     refine CW.seq ?_
     refine CW.region fun L hL => ?_
     refine LW.rd hL rfl (Wants.free rfl) rfl (Rd.move (v := .pointer r4) rfl) ?_
     refine LW.rd hL rfl (Wants.free rfl) rfl (Rd.move (v := .slice places1 places1n places1c) rfl) ?_
     refine LW.rd hL rfl (Wants.free rfl) rfl (Rd.move (v := .int .i64 i1) rfl) ?_
     obtain ⟨a3, he3, hi7, hi8, h⟩ := h
     refine LW.rd hL rfl (Wants.free rfl) rfl (Rd.iaS (q := a3) (sz := 2) (by rw [← he3]; rfl) rfl Tryd.underlying22 (by kernel_rfl) hi7 hi8) ?_
     obtain ⟨t9, t10, hc4, h⟩ := h
     refine LW.rd hL rfl (Wants.free rfl) rfl (Rd.ldN (cs := [.int .i64 t9, .int .i64 t10]) rfl (by kernel_rfl) (by kernel_rfl) (cellsS hc4)) ?_
     refine LW.call hL rfl (Wants.free rfl) rfl (Cl.fn (f := 15) rfl Tryd.func15 (by kernel_rfl) rfl) h (fun e w10 h_ => ?_)
     clear h
     obtain ⟨r7, r7n, r7c, rfl, h⟩ := h_
     refine ⟨_, rfl, ?_⟩
     refine LW.rd hL rfl (Wants.free rfl) rfl (Rd.assign (v := .slice r7 r7n r7c) rfl) ?_
     refine LW.nil hL rfl ?_
     refine NW.then ?_
     refine CW.seq ?_
     refine CW.seq ?_
     refine CW.region fun L hL => ?_
     refine LW.rd hL rfl (Wants.free rfl) rfl (Rd.move (v := .slice r7 r7n r7c) rfl) ?_
     refine LW.rd hL rfl (Wants.free rfl) rfl (Rd.builtin (v := .int .i64 (r7n : Int)) rfl (fun _ _ => by kernel_rfl)) ?_
     refine LW.rd hL rfl (Wants.free rfl) rfl (Rd.move (v := .slice want1 want1n want1c) rfl) ?_
     refine LW.rd hL rfl (Wants.free rfl) rfl (Rd.builtin (v := .int .i64 (want1n : Int)) rfl (fun _ _ => by kernel_rfl)) ?_
     refine LW.rd hL rfl (Wants.free rfl) rfl (Rd.bin (v := .bool (!((r7n : Int) == (want1n : Int)))) rfl rfl (fun w => by kernel_rfl)) ?_
     refine LW.nil hL rfl ?_
     refine NW.then ?_
     refine CW.cond rfl (fun hb10 => ?_) (fun hb10 => ?_)
     ·replace h := h.1 hb10
      refine CW.seq ?_
      refine CW.region fun L hL => ?_
      refine LW.rd hL rfl (Wants.free rfl) rfl (Rd.assign (v := .bool false) rfl) ?_
      refine LW.nil hL rfl ?_
      refine NW.then ?_
      refine CW.ret ?_
      refine RW.then ?_
      refine RW.block ?_
      refine RW.then ?_
      refine RW.then ?_
      refine RW.block ?_
      refine RW.then ?_
      exact res1 rfl rfl ⟨false, rfl, h⟩
     ·replace h := h.2 hb10
      refine CW.skip ?_
      refine NW.then ?_
      refine CW.seq ?_
      refine CW.seq ?_
      refine CW.region fun L hL => ?_
      refine LW.rd hL rfl (Wants.free rfl) rfl (Rd.assign (v := .int .i64 0) rfl) ?_
      refine LW.nil hL rfl ?_
      refine NW.then ?_
      refine CW.block ?_
      obtain ⟨I3, m3, hI3, h⟩ := h
      refine CW.loop (S := Bool × Int) (fun s4 => [(1, .slice places1 places1n places1c), (2, .slice steps1 steps1n steps1c), (7, .pointer r4), (8, .slice r5 r5n r5c), (10, .int .i64 i1), (11, .slice want1 want1n want1c), (13, .slice r7 r7n r7c), (6, .bool s4.1), (14, .int .i64 s4.2)]) (fun s4 w11 => I3 s4.1 s4.2 w11) (fun s4 w11 => m3 s4.1 s4.2 w11) (x1, 0) (by exact ⟨rfl, rfl, rfl, rfl, rfl, rfl, rfl, rfl, rfl, trivial⟩) hI3 (fun s4 w11 hI3 => ?_)
      obtain ⟨x2, k2⟩ := s4; replace h := h x2 k2 w11 hI3
      refine CW.seq ?_
      refine CW.seq ?_
      refine CW.region fun L hL => ?_
      refine LW.rd hL rfl (Wants.free rfl) rfl (Rd.move (v := .int .i64 k2) rfl) ?_
      refine LW.rd hL rfl (Wants.free rfl) rfl (Rd.move (v := .slice r7 r7n r7c) rfl) ?_
      refine LW.rd hL rfl (Wants.free rfl) rfl (Rd.builtin (v := .int .i64 (r7n : Int)) rfl (fun _ _ => by kernel_rfl)) ?_
      refine LW.rd hL rfl (Wants.free rfl) rfl (Rd.bin (v := .bool (decide (k2 < (r7n : Int)))) rfl rfl (fun w => by kernel_rfl)) ?_
      refine LW.nil hL rfl ?_
      refine NW.then ?_
      refine CW.cond rfl (fun hb11 => ?_) (fun hb11 => ?_)
      ·replace h := h.1 hb11
       refine CW.skip ?_
       refine NW.then ?_
       refine CW.seq ?_
       refine CW.block ?_
       refine CW.seq ?_
       obtain ⟨w12, hw_w12⟩ : ∃ x, x = World.drew w11 := ⟨_, rfl⟩
       have hc_w12 := sil_drew (Chg.refl [] w11) hw_w12
       refine CW.drawn (fun w => w = w12) 8 (by kernel_rfl) fun H hH => ?_
       rw [← hw_w12]
       refine HW.pure (i := 0) hH rfl (by kernel_rfl) (Wants.free rfl) rfl (fun _ => rfl) (Rd.move (v := .slice r7 r7n r7c) rfl) ?_
       refine HW.pure (i := 1) hH rfl (by kernel_rfl) (Wants.free rfl) rfl (fun _ => rfl) (Rd.move (v := .int .i64 k2) rfl) ?_
       obtain ⟨a4, he4, hi9, hi10, h⟩ := h
       refine HW.pure (i := 2) hH rfl (by kernel_rfl) (Wants.free rfl) rfl (fun _ => rfl) (Rd.iaS (q := a4) (sz := 4) (by rw [← he4]; rfl) rfl Tryd.underlying39 (by kernel_rfl) hi9 hi10) ?_
       replace h := h  w12  hc_w12
       obtain ⟨t11, t12, t13, t14, t14n, t14c, hc5, h⟩ := h
       refine HW.take (i := 3) hH rfl (by kernel_rfl) (by kernel_rfl) (Wants.free rfl) rfl (fun _ => rfl) (Rd.ldN (cs := [.int .i64 t11, .int .i64 t12, .int .i64 t13, .slice t14 t14n t14c]) rfl (by kernel_rfl) (by kernel_rfl) (cellsS hc5)) ?_
       refine HW.pure (i := 4) hH rfl (by kernel_rfl) (Wants.free rfl) rfl (fun _ => rfl) (Rd.move (v := .slice want1 want1n want1c) rfl) ?_
       refine HW.pure (i := 5) hH rfl (by kernel_rfl) (Wants.free rfl) rfl (fun _ => rfl) (Rd.move (v := .int .i64 k2) rfl) ?_
       obtain ⟨a5, he5, hi11, hi12, h⟩ := h
       refine HW.pure (i := 6) hH rfl (by kernel_rfl) (Wants.free rfl) rfl (fun _ => rfl) (Rd.iaS (q := a5) (sz := 4) (by rw [← he5]; rfl) rfl Tryd.underlying39 (by kernel_rfl) hi11 hi12) ?_
       obtain ⟨t15, t16, t17, t18, t18n, t18c, hc6, h⟩ := h
       refine HW.take (i := 7) hH rfl (by kernel_rfl) (by kernel_rfl) (Wants.free rfl) rfl (fun _ => rfl) (Rd.ldN (cs := [.int .i64 t15, .int .i64 t16, .int .i64 t17, .slice t18 t18n t18c]) rfl (by kernel_rfl) (by kernel_rfl) (cellsS hc6)) ?_
       refine HW.call (i := 8) hH (by kernel_rfl) rfl (Wants.free rfl) rfl (Cl.fn (f := 16) rfl Tryd.func16 (by kernel_rfl) rfl) h (fun e w13 h_ => ?_)
       clear h
       obtain ⟨r8, rfl, h⟩ := h_
       refine ⟨_, rfl, (fun hc => by cases hc), ?_⟩
       refine HW.pure (i := 9) hH rfl (by kernel_rfl) (Wants.free rfl) rfl (fun hc => by cases hc) (Rd.un (v := .bool (!r8)) rfl (fun _ => by kernel_rfl)) ?_
       refine HW.done hH (by kernel_rfl) ?_
       refine NW.then ?_
       refine CW.cond rfl (fun hb12 => ?_) (fun hb12 => ?_)
       ·replace h := h.1 hb12
        refine CW.seq ?_
        refine CW.region fun L hL => ?_
        refine LW.rd hL rfl (Wants.free rfl) rfl (Rd.assign (v := .bool false) rfl) ?_
        refine LW.nil hL rfl ?_
        refine NW.then ?_
        refine CW.ret ?_
        refine RW.block ?_
        refine RW.then ?_
        refine RW.then ?_
        refine RW.block ?_
        refine RW.then ?_
        refine RW.block ?_
        refine RW.then ?_
        refine RW.then ?_
        refine RW.block ?_
        refine RW.then ?_
        exact res1 rfl rfl ⟨false, rfl, h⟩
       ·replace h := h.2 hb12
        refine CW.skip ?_
        refine NW.block ?_
        refine NW.then ?_
        refine CW.region fun L hL => ?_
        refine LW.rd hL rfl (Wants.free rfl) rfl (Rd.move (v := .int .i64 k2) rfl) ?_
        refine LW.rd hL rfl (Wants.free rfl) rfl (Rd.bin (v := .int .i64 (IntKind.wrap .i64 (k2 + 1))) rfl rfl (fun w => by kernel_rfl)) ?_
        refine LW.rd hL rfl (Wants.free rfl) rfl (Rd.assign (v := .int .i64 (IntKind.wrap .i64 (k2 + 1))) rfl) ?_
        refine LW.nil hL rfl ?_
        exact NW.loop (S := Bool × Int) (Ek := fun s4 => [(1, .slice places1 places1n places1c), (2, .slice steps1 steps1n steps1c), (7, .pointer r4), (8, .slice r5 r5n r5c), (10, .int .i64 i1), (11, .slice want1 want1n want1c), (13, .slice r7 r7n r7c), (6, .bool s4.1), (14, .int .i64 s4.2)]) (x2, IntKind.wrap .i64 (k2 + 1)) (by exact ⟨rfl, rfl, rfl, rfl, rfl, rfl, rfl, rfl, rfl, trivial⟩) h
      ·replace h := h.2 hb11
       refine CW.exit ?_
       refine XW.then ?_
       refine XW.then ?_
       refine XW.hit ?_
       refine NW.then ?_
       refine CW.seq ?_
       refine CW.region fun L hL => ?_
       refine LW.rd hL rfl (Wants.free rfl) rfl (Rd.assign (v := .int .i64 0) rfl) ?_
       refine LW.nil hL rfl ?_
       refine NW.then ?_
       refine CW.block ?_
       obtain ⟨I4, m4, hI4, h⟩ := h
       refine CW.loop (S := Bool × Int) (fun s5 => [(1, .slice places1 places1n places1c), (2, .slice steps1 steps1n steps1c), (7, .pointer r4), (8, .slice r5 r5n r5c), (10, .int .i64 i1), (6, .bool s5.1), (15, .int .i64 s5.2)]) (fun s5 w14 => I4 s5.1 s5.2 w14) (fun s5 w14 => m4 s5.1 s5.2 w14) (x2, 0) (by exact ⟨rfl, rfl, rfl, rfl, rfl, rfl, rfl, trivial⟩) hI4 (fun s5 w14 hI4 => ?_)
       obtain ⟨x3, k3⟩ := s5; replace h := h x3 k3 w14 hI4
       refine CW.seq ?_
       refine CW.seq ?_
       refine CW.region fun L hL => ?_
       refine LW.rd hL rfl (Wants.free rfl) rfl (Rd.move (v := .int .i64 k3) rfl) ?_
       refine LW.rd hL rfl (Wants.free rfl) rfl (Rd.move (v := .slice steps1 steps1n steps1c) rfl) ?_
       refine LW.rd hL rfl (Wants.free rfl) rfl (Rd.builtin (v := .int .i64 (steps1n : Int)) rfl (fun _ _ => by kernel_rfl)) ?_
       refine LW.rd hL rfl (Wants.free rfl) rfl (Rd.bin (v := .bool (decide (k3 < (steps1n : Int)))) rfl rfl (fun w => by kernel_rfl)) ?_
       refine LW.nil hL rfl ?_
       refine NW.then ?_
       refine CW.cond rfl (fun hb13 => ?_) (fun hb13 => ?_)
       ·replace h := h.1 hb13
        refine CW.skip ?_
        refine NW.then ?_
        refine CW.seq ?_
        refine CW.block ?_
        refine CW.seq ?_
        obtain ⟨w15, hw_w15⟩ : ∃ x, x = World.drew w14 := ⟨_, rfl⟩
        have hc_w15 := sil_drew (Chg.refl [] w14) hw_w15
        replace h := h  w15  hc_w15
        obtain ⟨t19, t20, hc7, h⟩ := h
        obtain ⟨a6, he6, hi15, hi16, h⟩ := h
        obtain ⟨t21, hc8, h⟩ := h
        refine CW.drawn (fun w => CellsAt w (a3.add (Int.toNat i1 * 2)) 0 [.int .i64 t19, .int .i64 t20] ∧ w.cell? (a6.add (Int.toNat k3 * 1)) = some (.int .i64 t21) ∧ True) 14 (by kernel_rfl) fun H hH => ?_
        rw [← hw_w15]
        have hS1 : CellsAt w15 (a3.add (Int.toNat i1 * 2)) 0 [.int .i64 t19, .int .i64 t20] ∧ w15.cell? (a6.add (Int.toNat k3 * 1)) = some (.int .i64 t21) ∧ True := ⟨hc7, hc8, trivial⟩
        refine HW.pure (i := 0) hH rfl (by kernel_rfl) (Wants.free rfl) rfl (fun _ => hS1) (Rd.move (v := .pointer r4) rfl) ?_
        refine HW.pure (i := 1) hH rfl (by kernel_rfl) (Wants.free rfl) rfl (fun _ => hS1) (Rd.move (v := .slice places1 places1n places1c) rfl) ?_
        refine HW.pure (i := 2) hH rfl (by kernel_rfl) (Wants.free rfl) rfl (fun _ => hS1) (Rd.move (v := .int .i64 i1) rfl) ?_
        refine HW.pure (i := 3) hH rfl (by kernel_rfl) (Wants.free rfl) rfl (fun _ => hS1) (Rd.iaS (q := a3) (sz := 2) (by rw [← he3]; rfl) rfl Tryd.underlying22 (by kernel_rfl) hi7 hi8) ?_
        refine HW.take (i := 4) hH rfl (by kernel_rfl) (by kernel_rfl) (Wants.free rfl) rfl (fun _ => hS1) (Rd.ldN (cs := [.int .i64 t19, .int .i64 t20]) rfl (by kernel_rfl) (by kernel_rfl) (fun w h => cellsAt_get h.1)) ?_
        refine HW.pure (i := 5) hH rfl (by kernel_rfl) (Wants.free rfl) rfl (fun _ => hS1) (Rd.move (v := .slice steps1 steps1n steps1c) rfl) ?_
        refine HW.pure (i := 6) hH rfl (by kernel_rfl) (Wants.free rfl) rfl (fun _ => hS1) (Rd.move (v := .int .i64 k3) rfl) ?_
        refine HW.pure (i := 7) hH rfl (by kernel_rfl) (Wants.free rfl) rfl (fun _ => hS1) (Rd.iaS (q := a6) (sz := 1) (by rw [← he6]; rfl) rfl Tryd.underlying37 (by kernel_rfl) hi15 hi16) ?_
        refine HW.take (i := 8) hH rfl (by kernel_rfl) (by kernel_rfl) (Wants.free rfl) rfl (fun _ => hS1) (Rd.ld (v := .int .i64 t21) rfl (by kernel_rfl) (fun w h => h.2.1)) ?_
        obtain ⟨J2, hJ2, h1_J2, h2_J2⟩ := h
        suffices K3 : ∀ (s6 : Nat × Int × Int × Int × (Option Addr) × Nat × Nat × Bool) (w16 : World), (CellsAt w16 (a3.add (Int.toNat i1 * 2)) 0 [.int .i64 t19, .int .i64 t20] ∧ w16.cell? (a6.add (Int.toNat k3 * 1)) = some (.int .i64 t21) ∧ True) → Boxes w16 [(s6.1, [.int .i64 0, .int .i64 0, .int .i64 0, .slice none 0 0], 50)] → J2 s6.1 s6.2.1 s6.2.2.1 s6.2.2.2.1 s6.2.2.2.2.1 s6.2.2.2.2.2.1 s6.2.2.2.2.2.2.1 s6.2.2.2.2.2.2.2 w16 → H 2 #[true, true, true, true, true, true, true, true, true, true, true, true, true, true, false, false] [(1, .slice places1 places1n places1c), (2, .slice steps1 steps1n steps1c), (6, .bool x3), (7, .pointer r4), (8, .slice r5 r5n r5c), (10, .int .i64 i1), (15, .int .i64 k3), (16, .pointer (some (⟨s6.1, 0, none⟩ : Addr))), (113, .agg #[.int .i64 s6.2.1, .int .i64 s6.2.2.1, .int .i64 s6.2.2.2.1, .slice s6.2.2.2.2.1 s6.2.2.2.2.2.1 s6.2.2.2.2.2.2.1]), (114, .bool s6.2.2.2.2.2.2.2)] w16 by
         refine HW.two (i := 9) (j := 13) hH (by kernel_rfl) ?_ ?_
         ·have h := h1_J2
          refine H1.call (i := 9) hH rfl (Wants.free rfl) rfl (Cl.fn (f := 17) rfl Tryd.func17 (by kernel_rfl) rfl) h (fun e w17 h_ => ?_)
          clear h
          obtain ⟨r9, r10, r11, r12, r12n, r12c, r13, rfl, hS2, h⟩ := h_
          have hS3 := (⟨hS2.1, hS2.2, trivial⟩ : CellsAt w17 (a3.add (Int.toNat i1 * 2)) 0 [.int .i64 t19, .int .i64 t20] ∧ w17.cell? (a6.add (Int.toNat k3 * 1)) = some (.int .i64 t21) ∧ True)
          refine ⟨_, rfl, (fun _ => hS3), ?_⟩
          refine HW.pure (i := 10) hH rfl (by kernel_rfl) (Wants.free rfl) rfl (fun _ => hS3) (Rd.move (v := .tuple #[.agg #[.int .i64 r9, .int .i64 r10, .int .i64 r11, .slice r12 r12n r12c], .bool r13]) rfl) ?_
          refine HW.pure (i := 11) hH rfl (by kernel_rfl) (Wants.free rfl) rfl (fun _ => hS3) (Rd.extract (v := .agg #[.int .i64 r9, .int .i64 r10, .int .i64 r11, .slice r12 r12n r12c]) rfl rfl) ?_
          refine HW.pure (i := 12) hH rfl (by kernel_rfl) (Wants.free rfl) rfl (fun _ => hS3) (Rd.extract (v := .bool r13) rfl rfl) ?_
          obtain ⟨b3, hb_b3⟩ : ∃ b3, b3 = World.size w17 := ⟨_, rfl⟩
          obtain ⟨w18, hw_w18⟩ : ∃ w18, w18 = World.alloc w17 (.cells #[.int .i64 0, .int .i64 0, .int .i64 0, .slice none 0 0] 50) := ⟨_, rfl⟩
          have hS4 := (⟨cellsAlloc hw_w18 hS3.1, cellAlloc hw_w18 hS3.2.1, trivial⟩ : CellsAt w18 (a3.add (Int.toNat i1 * 2)) 0 [.int .i64 t19, .int .i64 t20] ∧ w18.cell? (a6.add (Int.toNat k3 * 1)) = some (.int .i64 t21) ∧ True)
          refine HW.val (i := 13) hH (by kernel_rfl) rfl (Wants.free rfl) rfl (boxE hb_b3 hw_w18 (Vl.alloc (z := .agg #[.int .i64 0, .int .i64 0, .int .i64 0, .slice none 0 0]) (by kernel_rfl))) (fun _ => hS4) ?_
          have hB := Boxes.alloc (cs := [.int .i64 0, .int .i64 0, .int .i64 0, .slice none 0 0]) (T := 50) (Boxes.nil w17) hb_b3 hw_w18
          have hlo_b3 := sil_lo (Chg.refl [] w17) hb_b3
          have hc_w18 := sil_alloc (Chg.refl [] w17) hw_w18
          replace h := h b3 w18 ⟨hlo_b3, lt_of_heap (hB.at (i := 0) rfl)⟩ hc_w18
          exact HW.sub hH (by exact ⟨rfl, rfl, rfl, rfl, rfl, rfl, rfl, rfl, rfl, rfl, trivial⟩) (K3 (b3, r9, r10, r11, r12, r12n, r12c, r13) w18 hS4 (by exact hB) h)
         ·have h := h2_J2
          obtain ⟨b4, hb_b4⟩ : ∃ b4, b4 = World.size w15 := ⟨_, rfl⟩
          obtain ⟨w19, hw_w19⟩ : ∃ w19, w19 = World.alloc w15 (.cells #[.int .i64 0, .int .i64 0, .int .i64 0, .slice none 0 0] 50) := ⟨_, rfl⟩
          have hS5 := (⟨cellsAlloc hw_w19 hS1.1, cellAlloc hw_w19 hS1.2.1, trivial⟩ : CellsAt w19 (a3.add (Int.toNat i1 * 2)) 0 [.int .i64 t19, .int .i64 t20] ∧ w19.cell? (a6.add (Int.toNat k3 * 1)) = some (.int .i64 t21) ∧ True)
          refine H1.val (i := 13) hH rfl (Wants.free rfl) rfl (boxE hb_b4 hw_w19 (Vl.alloc (z := .agg #[.int .i64 0, .int .i64 0, .int .i64 0, .slice none 0 0]) (by kernel_rfl))) (fun _ => hS5) ?_
          have hB := Boxes.alloc (cs := [.int .i64 0, .int .i64 0, .int .i64 0, .slice none 0 0]) (T := 50) (Boxes.nil w15) hb_b4 hw_w19
          have hlo_b4 := sil_lo (Chg.refl [] w15) hb_b4
          have hc_w19 := sil_alloc (Chg.refl [] w15) hw_w19
          replace h := h b4 w19 ⟨hlo_b4, lt_of_heap (hB.at (i := 0) rfl)⟩ hc_w19
          refine HW.call (i := 9) hH (by kernel_rfl) rfl (Wants.free rfl) rfl (Cl.fn (f := 17) rfl Tryd.func17 (by kernel_rfl) rfl) h (fun e w20 h_ => ?_)
          clear h
          obtain ⟨r14, r15, r16, r17, r17n, r17c, r18, rfl, hS6, h⟩ := h_
          obtain ⟨hsm1, h⟩ := h
          replace hB := Boxes.sameS hB hsm1 (by simp)
          have hS7 := (⟨hS6.1, hS6.2, trivial⟩ : CellsAt w20 (a3.add (Int.toNat i1 * 2)) 0 [.int .i64 t19, .int .i64 t20] ∧ w20.cell? (a6.add (Int.toNat k3 * 1)) = some (.int .i64 t21) ∧ True)
          refine ⟨_, rfl, (fun _ => hS7), ?_⟩
          refine HW.pure (i := 10) hH rfl (by kernel_rfl) (Wants.free rfl) rfl (fun _ => hS7) (Rd.move (v := .tuple #[.agg #[.int .i64 r14, .int .i64 r15, .int .i64 r16, .slice r17 r17n r17c], .bool r18]) rfl) ?_
          refine HW.pure (i := 11) hH rfl (by kernel_rfl) (Wants.free rfl) rfl (fun _ => hS7) (Rd.extract (v := .agg #[.int .i64 r14, .int .i64 r15, .int .i64 r16, .slice r17 r17n r17c]) rfl rfl) ?_
          refine HW.pure (i := 12) hH rfl (by kernel_rfl) (Wants.free rfl) rfl (fun _ => hS7) (Rd.extract (v := .bool r18) rfl rfl) ?_
          exact HW.sub hH (by exact ⟨rfl, rfl, rfl, rfl, rfl, rfl, rfl, rfl, rfl, rfl, trivial⟩) (K3 (b4, r14, r15, r16, r17, r17n, r17c, r18) w20 hS7 (by exact hB) h)
        intro s6 w16 hS8 hB h_
        obtain ⟨b2, x4, x5, x6, x7, x7n, x7c, x8⟩ := s6
        have h := hJ2 b2 x4 x5 x6 x7 x7n x7c x8 w16 h_; clear h_
        obtain ⟨w21, hw_w21⟩ : ∃ x, x = setCells w16 (⟨b2, 0, none⟩ : Addr) 0 [.int .i64 x4, .int .i64 x5, .int .i64 x6, .slice x7 x7n x7c] := ⟨_, rfl⟩
        refine HW.eff (i := 14) hH (by kernel_rfl) rfl (Wants.free rfl) rfl (stNE hw_w21 (Ef.stN (cs := [.int .i64 x4, .int .i64 x5, .int .i64 x6, .slice x7 x7n x7c]) rfl rfl (by kernel_rfl) (List.forall_mem_cons.2 ⟨rfl, (List.forall_mem_cons.2 ⟨rfl, (List.forall_mem_cons.2 ⟨rfl, (List.forall_mem_cons.2 ⟨rfl, (List.forall_mem_nil _)⟩)⟩)⟩)⟩) (has_of (hB.at (i := 0) rfl) (by simp)) (free_of' (hB.at (i := 0) rfl)))) (fun hc => by cases hc) ?_
        replace hB : Boxes w21 [(b2, [.int .i64 x4, .int .i64 x5, .int .i64 x6, .slice x7 x7n x7c], 50)] := Boxes.store (vs := [.int .i64 x4, .int .i64 x5, .int .i64 x6, .slice x7 x7n x7c]) (i := 0) (o := 0) hB rfl rfl rfl rfl hw_w21
        have hc_w21 : Chg [b2] w16 w21 := sil_more (Chg.refl [] w16) (sil_cN hw_w21)
        refine HW.pure (i := 15) hH rfl (by kernel_rfl) (Wants.free rfl) rfl (fun hc => by cases hc) (Rd.assign (v := .bool x8) rfl) ?_
        refine HW.done hH (by kernel_rfl) ?_
        refine NW.then ?_
        refine CW.seq ?_
        obtain ⟨w22, hw_w22⟩ : ∃ x, x = World.drew w21 := ⟨_, rfl⟩
        have hc_w22 := sil_drew hc_w21 hw_w22
        replace hB := hB.drew hw_w22
        refine CW.drawn (fun w => w = w22) 9 (by kernel_rfl) fun H hH => ?_
        rw [← hw_w22]
        refine HW.pure (i := 0) hH rfl (by kernel_rfl) (Wants.free rfl) rfl (fun _ => rfl) (Rd.move (v := .slice r5 r5n r5c) rfl) ?_
        refine HW.pure (i := 1) hH rfl (by kernel_rfl) (Wants.free rfl) rfl (fun _ => rfl) (Rd.move (v := .slice places1 places1n places1c) rfl) ?_
        refine HW.pure (i := 2) hH rfl (by kernel_rfl) (Wants.free rfl) rfl (fun _ => rfl) (Rd.move (v := .int .i64 i1) rfl) ?_
        refine HW.pure (i := 3) hH rfl (by kernel_rfl) (Wants.free rfl) rfl (fun _ => rfl) (Rd.iaS (q := a3) (sz := 2) (by rw [← he3]; rfl) rfl Tryd.underlying22 (by kernel_rfl) hi7 hi8) ?_
        replace h := h  w22  hc_w22
        obtain ⟨t22, t23, hc9, h⟩ := h
        refine HW.take (i := 4) hH rfl (by kernel_rfl) (by kernel_rfl) (Wants.free rfl) rfl (fun _ => rfl) (Rd.ldN (cs := [.int .i64 t22, .int .i64 t23]) rfl (by kernel_rfl) (by kernel_rfl) (cellsS hc9)) ?_
        refine HW.pure (i := 5) hH rfl (by kernel_rfl) (Wants.free rfl) rfl (fun _ => rfl) (Rd.move (v := .slice steps1 steps1n steps1c) rfl) ?_
        refine HW.pure (i := 6) hH rfl (by kernel_rfl) (Wants.free rfl) rfl (fun _ => rfl) (Rd.move (v := .int .i64 k3) rfl) ?_
        refine HW.pure (i := 7) hH rfl (by kernel_rfl) (Wants.free rfl) rfl (fun _ => rfl) (Rd.iaS (q := a6) (sz := 1) (by rw [← he6]; rfl) rfl Tryd.underlying37 (by kernel_rfl) hi15 hi16) ?_
        obtain ⟨t24, hc10, h⟩ := h
        refine HW.take (i := 8) hH rfl (by kernel_rfl) (by kernel_rfl) (Wants.free rfl) rfl (fun _ => rfl) (Rd.ld (v := .int .i64 t24) rfl (by kernel_rfl) (eqs hc10)) ?_
        refine HW.call (i := 9) hH (by kernel_rfl) rfl (Wants.free rfl) rfl (Cl.fn (f := 18) rfl Tryd.func18 (by kernel_rfl) rfl) h (fun e w23 h_ => ?_)
        clear h
        obtain ⟨r19, rfl, h⟩ := h_
        obtain ⟨hsm2, h⟩ := h
        replace hB := Boxes.sameS hB hsm2 (by simp)
        refine ⟨_, rfl, (fun hc => by cases hc), ?_⟩
        refine HW.pure (i := 10) hH rfl (by kernel_rfl) (Wants.free rfl) rfl (fun hc => by cases hc) (Rd.assign (v := .int .i64 r19) rfl) ?_
        refine HW.done hH (by kernel_rfl) ?_
        refine NW.then ?_
        refine CW.seq ?_
        obtain ⟨w24, hw_w24⟩ : ∃ x, x = World.drew w23 := ⟨_, rfl⟩
        have hc_w24 := sil_drew (Chg.refl [] w23) hw_w24
        replace hB := hB.drew hw_w24
        replace h := h  w24  hc_w24
        refine CW.drawn (fun w => Boxes w [(b2, [.int .i64 x4, .int .i64 x5, .int .i64 x6, .slice x7 x7n x7c], 50)]) 23 (by kernel_rfl) fun H hH => ?_
        rw [← hw_w24]
        have hS9 : Boxes w24 [(b2, [.int .i64 x4, .int .i64 x5, .int .i64 x6, .slice x7 x7n x7c], 50)] := hB
        refine HW.pure (i := 0) hH rfl (by kernel_rfl) (Wants.free rfl) rfl (fun _ => hS9) (Rd.move (v := .bool x8) rfl) ?_
        refine HW.pure (i := 1) hH rfl (by kernel_rfl) (Wants.free rfl) rfl (fun _ => hS9) (Rd.move (v := .int .i64 r19) rfl) ?_
        refine HW.pure (i := 2) hH rfl (by kernel_rfl) (Wants.free rfl) rfl (fun _ => hS9) (Rd.bin (v := .bool (decide (r19 ≥ 0))) rfl rfl (fun w => by kernel_rfl)) ?_
        refine HW.pure (i := 3) hH rfl (by kernel_rfl) (Wants.free rfl) rfl (fun _ => hS9) (Rd.bin (v := .bool (!(x8 == (decide (r19 ≥ 0))))) rfl rfl (fun w => by kernel_rfl)) ?_
        refine HW.pure (i := 4) hH rfl (by kernel_rfl) (Wants.free rfl) rfl (fun _ => hS9) (Rd.move (v := .bool (!(x8 == (decide (r19 ≥ 0))))) rfl) ?_
        obtain ⟨J3, hJ3, h1_J3, h0_J3⟩ := h
        suffices K4 : ∀ (b5 : Bool) (w25 : World), (Boxes w25 [(b2, [.int .i64 x4, .int .i64 x5, .int .i64 x6, .slice x7 x7n x7c], 50)]) → Boxes w25 [(b2, [.int .i64 x4, .int .i64 x5, .int .i64 x6, .slice x7 x7n x7c], 50)] → J3 b5 w25 → H 10 #[true, true, true, true, true, true, true, true, true, true, true, true, true, true, true, true, true, false, false, false, false, false, false, false, false, false, false] [(1, .slice places1 places1n places1c), (2, .slice steps1 steps1n steps1c), (6, .bool x3), (7, .pointer r4), (8, .slice r5 r5n r5c), (10, .int .i64 i1), (15, .int .i64 k3), (16, .pointer (some (⟨b2, 0, none⟩ : Addr))), (17, .bool x8), (141, .bool b5)] w25 by
         rcases Bool.eq_false_or_eq_true (!(x8 == (decide (r19 ≥ 0)))) with hb14 | hb14
         ·have h := h0_J3 hb14
          refine HW.skip (i := 5) hH rfl (by kernel_rfl) (Skips.on rfl rfl rfl rfl rfl hb14) rfl (fun _ => hS9) ?_
          refine HW.skip (i := 6) hH rfl (by kernel_rfl) (Skips.on rfl rfl rfl rfl rfl hb14) rfl (fun _ => hS9) ?_
          refine HW.skip (i := 7) hH rfl (by kernel_rfl) (Skips.un rfl rfl rfl rfl rfl) rfl (fun _ => hS9) ?_
          refine HW.skip (i := 8) hH rfl (by kernel_rfl) (Skips.un rfl rfl rfl rfl rfl) rfl (fun _ => hS9) ?_
          refine HW.skip (i := 9) hH rfl (by kernel_rfl) (Skips.un rfl rfl rfl rfl rfl) rfl (fun _ => hS9) ?_
          refine HW.skip (i := 10) hH rfl (by kernel_rfl) (Skips.un rfl rfl rfl rfl rfl) rfl (fun _ => hS9) ?_
          refine HW.skip (i := 11) hH rfl (by kernel_rfl) (Skips.un rfl rfl rfl rfl rfl) rfl (fun _ => hS9) ?_
          refine HW.skip (i := 12) hH rfl (by kernel_rfl) (Skips.un rfl rfl rfl rfl rfl) rfl (fun _ => hS9) ?_
          refine HW.skip (i := 13) hH rfl (by kernel_rfl) (Skips.un rfl rfl rfl rfl rfl) rfl (fun _ => hS9) ?_
          refine HW.skip (i := 14) hH rfl (by kernel_rfl) (Skips.un rfl rfl rfl rfl rfl) rfl (fun _ => hS9) ?_
          refine HW.skip (i := 15) hH rfl (by kernel_rfl) (Skips.on rfl rfl rfl rfl rfl hb14) rfl (fun _ => hS9) ?_
          refine HW.pure (i := 16) hH rfl (by kernel_rfl) (Wants.free rfl) rfl (fun _ => hS9) (Rd.pickT rfl hb14 rfl) ?_
          exact HW.sub hH (by exact ⟨rfl, rfl, rfl, rfl, rfl, rfl, rfl, rfl, rfl, rfl, trivial⟩) (K4 true w24 hS9 (by exact hB) h)
         ·have h := h1_J3 hb14
          refine HW.pure (i := 5) hH rfl (by kernel_rfl) (Wants.on rfl rfl rfl rfl rfl hb14) rfl (fun _ => hS9) (Rd.move (v := .bool x8) rfl) ?_
          refine HW.pure (i := 6) hH rfl (by kernel_rfl) (Wants.on rfl rfl rfl rfl rfl hb14) rfl (fun _ => hS9) (Rd.move (v := .bool x8) rfl) ?_
          obtain ⟨J4, hJ4, h1_J4, h0_J4⟩ := h
          suffices K5 : ∀ (b6 : Bool) (w26 : World), (Boxes w26 [(b2, [.int .i64 x4, .int .i64 x5, .int .i64 x6, .slice x7 x7n x7c], 50)]) → Boxes w26 [(b2, [.int .i64 x4, .int .i64 x5, .int .i64 x6, .slice x7 x7n x7c], 50)] → J4 b6 w26 → H 11 #[true, true, true, true, true, true, true, true, true, true, true, true, true, true, true, true, false, false, false, false, false, false, false, false, false, false, false] [(1, .slice places1 places1n places1c), (2, .slice steps1 steps1n steps1c), (6, .bool x3), (7, .pointer r4), (8, .slice r5 r5n r5c), (10, .int .i64 i1), (15, .int .i64 k3), (16, .pointer (some (⟨b2, 0, none⟩ : Addr))), (17, .bool x8), (129, .bool (!(x8 == (decide (r19 ≥ 0))))), (140, .bool b6)] w26 by
           rcases Bool.eq_false_or_eq_true x8 with hb15 | hb15
           ·have h := h1_J4 hb15
            refine HW.take (i := 7) hH rfl (by kernel_rfl) (by kernel_rfl) (Wants.on rfl rfl rfl rfl rfl hb15) rfl (fun _ => hS9) (Rd.ldN (cs := [.int .i64 x4, .int .i64 x5, .int .i64 x6, .slice x7 x7n x7c]) rfl (by kernel_rfl) (by kernel_rfl) (fun w h => cellsAt_get (box_cells (Boxes.at (i := 0) h rfl) rfl))) ?_
            refine HW.pure (i := 8) hH rfl (by kernel_rfl) (Wants.on rfl rfl rfl rfl rfl hb15) rfl (fun _ => hS9) (Rd.move (v := .slice r5 r5n r5c) rfl) ?_
            refine HW.pure (i := 9) hH rfl (by kernel_rfl) (Wants.on rfl rfl rfl rfl rfl hb15) rfl (fun _ => hS9) (Rd.move (v := .int .i64 r19) rfl) ?_
            refine HW.pure (i := 10) hH rfl (by kernel_rfl) (Wants.on rfl rfl rfl rfl rfl hb15) rfl (fun _ => hS9) (Rd.builtin (v := .int .i64 (if r19 < 0 then 0 else r19)) rfl (fun _ _ => valB (maxI _ _ _ _ _ _))) ?_
            obtain ⟨a7, he7, hi21, hi22, h⟩ := h
            refine HW.pure (i := 11) hH rfl (by kernel_rfl) (Wants.on rfl rfl rfl rfl rfl hb15) rfl (fun _ => hS9) (Rd.iaS (q := a7) (sz := 4) (by rw [← he7]; rfl) rfl Tryd.underlying39 (by kernel_rfl) hi21 hi22) ?_
            obtain ⟨t25, t26, t27, t28, t28n, t28c, hc11, h⟩ := h
            refine HW.val (i := 12) hH (by kernel_rfl) rfl (Wants.on rfl rfl rfl rfl rfl hb15) rfl (fun a ha => (Rd.ldN (cs := [.int .i64 t25, .int .i64 t26, .int .i64 t27, .slice t28 t28n t28c]) rfl (by kernel_rfl) (by kernel_rfl) (cellsS hc11)) a ha _ rfl) (fun _ => hS9) ?_
            refine HW.call (i := 13) hH (by kernel_rfl) rfl (Wants.on rfl rfl rfl rfl rfl hb15) rfl (Cl.fn (f := 16) rfl Tryd.func16 (by kernel_rfl) rfl) h (fun e w27 h_ => ?_)
            clear h
            obtain ⟨r20, rfl, h⟩ := h_
            obtain ⟨hsm3, h⟩ := h
            replace hB := Boxes.sameS hB hsm3 (by simp)
            have hS10 : Boxes w27 [(b2, [.int .i64 x4, .int .i64 x5, .int .i64 x6, .slice x7 x7n x7c], 50)] := hB
            refine ⟨_, rfl, (fun _ => hS10), ?_⟩
            refine HW.pure (i := 14) hH rfl (by kernel_rfl) (Wants.on rfl rfl rfl rfl rfl hb15) rfl (fun _ => hS10) (Rd.un (v := .bool (!r20)) rfl (fun _ => by kernel_rfl)) ?_
            refine HW.pure (i := 15) hH rfl (by kernel_rfl) (Wants.on rfl rfl rfl rfl rfl hb14) rfl (fun _ => hS10) (Rd.pickT rfl hb15 rfl) ?_
            exact HW.sub hH (by exact ⟨rfl, rfl, rfl, rfl, rfl, rfl, rfl, rfl, rfl, rfl, rfl, trivial⟩) (K5 (!r20) w27 hS10 (by exact hB) h)
           ·have h := h0_J4 hb15
            refine HW.skip (i := 7) hH rfl (by kernel_rfl) (Skips.on rfl rfl rfl rfl rfl hb15) rfl (fun _ => hS9) ?_
            refine HW.skip (i := 8) hH rfl (by kernel_rfl) (Skips.on rfl rfl rfl rfl rfl hb15) rfl (fun _ => hS9) ?_
            refine HW.skip (i := 9) hH rfl (by kernel_rfl) (Skips.on rfl rfl rfl rfl rfl hb15) rfl (fun _ => hS9) ?_
            refine HW.skip (i := 10) hH rfl (by kernel_rfl) (Skips.on rfl rfl rfl rfl rfl hb15) rfl (fun _ => hS9) ?_
            refine HW.skip (i := 11) hH rfl (by kernel_rfl) (Skips.on rfl rfl rfl rfl rfl hb15) rfl (fun _ => hS9) ?_
            refine HW.skip (i := 12) hH rfl (by kernel_rfl) (Skips.on rfl rfl rfl rfl rfl hb15) rfl (fun _ => hS9) ?_
            refine HW.skip (i := 13) hH rfl (by kernel_rfl) (Skips.on rfl rfl rfl rfl rfl hb15) rfl (fun _ => hS9) ?_
            refine HW.skip (i := 14) hH rfl (by kernel_rfl) (Skips.on rfl rfl rfl rfl rfl hb15) rfl (fun _ => hS9) ?_
            refine HW.pure (i := 15) hH rfl (by kernel_rfl) (Wants.on rfl rfl rfl rfl rfl hb14) rfl (fun _ => hS9) (Rd.pickF rfl hb15 rfl) ?_
            exact HW.sub hH (by exact ⟨rfl, rfl, rfl, rfl, rfl, rfl, rfl, rfl, rfl, rfl, rfl, trivial⟩) (K5 false w24 hS9 (by exact hB) h)
          clear hB
          intro b6 w26 hS11 hB h_
          have h := hJ4 b6 w26 h_; clear h_
          refine HW.pure (i := 16) hH rfl (by kernel_rfl) (Wants.free rfl) rfl (fun _ => hS11) (Rd.pickF rfl hb14 rfl) ?_
          exact HW.sub hH (by exact ⟨rfl, rfl, rfl, rfl, rfl, rfl, rfl, rfl, rfl, rfl, trivial⟩) (K4 b6 w26 hS11 (by exact hB) h)
        clear hB
        intro b5 w25 hS12 hB h_
        have h := hJ3 b5 w25 h_; clear h_
        refine HW.pure (i := 17) hH rfl (by kernel_rfl) (Wants.free rfl) rfl (fun _ => hS12) (Rd.move (v := .bool b5) rfl) ?_
        obtain ⟨J5, hJ5, h1_J5, h0_J5⟩ := h
        suffices K6 : ∀ (b7 : Bool) (w28 : World), J5 b7 w28 → H 0 #[true, true, true, true, true, true, true, true, true, true, true, true, true, true, true, true, true, true, true, true, true, true, true, true, true, true, true] [(1, .slice places1 places1n places1c), (2, .slice steps1 steps1n steps1c), (6, .bool x3), (7, .pointer r4), (8, .slice r5 r5n r5c), (10, .int .i64 i1), (15, .int .i64 k3), (151, .bool b7)] w28 by
         rcases Bool.eq_false_or_eq_true b5 with hb16 | hb16
         ·have h := h0_J5 hb16
          refine HW.skip (i := 18) hH rfl (by kernel_rfl) (Skips.on rfl rfl rfl rfl rfl hb16) rfl (fun _ => hS12) ?_
          refine HW.skip (i := 19) hH rfl (by kernel_rfl) (Skips.on rfl rfl rfl rfl rfl hb16) rfl (fun _ => hS12) ?_
          refine HW.skip (i := 20) hH rfl (by kernel_rfl) (Skips.on rfl rfl rfl rfl rfl hb16) rfl (fun _ => hS12) ?_
          refine HW.skip (i := 21) hH rfl (by kernel_rfl) (Skips.un rfl rfl rfl rfl rfl) rfl (fun _ => hS12) ?_
          refine HW.skip (i := 22) hH rfl (by kernel_rfl) (Skips.un rfl rfl rfl rfl rfl) rfl (fun _ => hS12) ?_
          refine HW.skip1 (i := 23) hH (by kernel_rfl) rfl (Skips.un rfl rfl rfl rfl rfl) rfl (fun hc => by cases hc) ?_
          refine HW.skip (i := 24) hH rfl (by kernel_rfl) (Skips.un rfl rfl rfl rfl rfl) rfl (fun hc => by cases hc) ?_
          refine HW.skip (i := 25) hH rfl (by kernel_rfl) (Skips.on rfl rfl rfl rfl rfl hb16) rfl (fun hc => by cases hc) ?_
          refine HW.pure (i := 26) hH rfl (by kernel_rfl) (Wants.free rfl) rfl (fun hc => by cases hc) (Rd.pickT rfl hb16 rfl) ?_
          exact HW.sub hH (by exact ⟨rfl, rfl, rfl, rfl, rfl, rfl, rfl, rfl, trivial⟩) (K6 true w25 h)
         ·have h := h1_J5 hb16
          refine HW.pure (i := 18) hH rfl (by kernel_rfl) (Wants.on rfl rfl rfl rfl rfl hb16) rfl (fun _ => hS12) (Rd.move (v := .bool x8) rfl) ?_
          refine HW.pure (i := 19) hH rfl (by kernel_rfl) (Wants.on rfl rfl rfl rfl rfl hb16) rfl (fun _ => hS12) (Rd.un (v := .bool (!x8)) rfl (fun _ => by kernel_rfl)) ?_
          refine HW.pure (i := 20) hH rfl (by kernel_rfl) (Wants.on rfl rfl rfl rfl rfl hb16) rfl (fun _ => hS12) (Rd.move (v := .bool (!x8)) rfl) ?_
          obtain ⟨J6, hJ6, h1_J6, h0_J6⟩ := h
          suffices K7 : ∀ (b8 : Bool) (w29 : World), J6 b8 w29 → H 1 #[true, true, true, true, true, true, true, true, true, true, true, true, true, true, true, true, true, true, true, true, true, true, true, true, true, true, false] [(1, .slice places1 places1n places1c), (2, .slice steps1 steps1n steps1c), (6, .bool x3), (7, .pointer r4), (8, .slice r5 r5n r5c), (10, .int .i64 i1), (15, .int .i64 k3), (142, .bool b5), (150, .bool b8)] w29 by
           rcases Bool.eq_false_or_eq_true (!x8) with hb17 | hb17
           ·have h := h1_J6 hb17
            refine HW.take (i := 21) hH rfl (by kernel_rfl) (by kernel_rfl) (Wants.on rfl rfl rfl rfl rfl hb17) rfl (fun _ => hS12) (Rd.ldN (cs := [.int .i64 x4, .int .i64 x5, .int .i64 x6, .slice x7 x7n x7c]) rfl (by kernel_rfl) (by kernel_rfl) (fun w h => cellsAt_get (box_cells (Boxes.at (i := 0) h rfl) rfl))) ?_
            refine HW.pure (i := 22) hH rfl (by kernel_rfl) (Wants.on rfl rfl rfl rfl rfl hb17) rfl (fun _ => hS12) (Rd.build (v := .agg #[.int .i64 0, .int .i64 0, .int .i64 0, .slice none 0 0]) rfl (fun _ => by kernel_rfl)) ?_
            refine HW.call (i := 23) hH (by kernel_rfl) rfl (Wants.on rfl rfl rfl rfl rfl hb17) rfl (Cl.fn (f := 16) rfl Tryd.func16 (by kernel_rfl) rfl) h (fun e w30 h_ => ?_)
            clear h
            obtain ⟨r21, rfl, h⟩ := h_
            refine ⟨_, rfl, (fun hc => by cases hc), ?_⟩
            refine HW.pure (i := 24) hH rfl (by kernel_rfl) (Wants.on rfl rfl rfl rfl rfl hb17) rfl (fun hc => by cases hc) (Rd.un (v := .bool (!r21)) rfl (fun _ => by kernel_rfl)) ?_
            refine HW.pure (i := 25) hH rfl (by kernel_rfl) (Wants.on rfl rfl rfl rfl rfl hb16) rfl (fun hc => by cases hc) (Rd.pickT rfl hb17 rfl) ?_
            exact HW.sub hH (by exact ⟨rfl, rfl, rfl, rfl, rfl, rfl, rfl, rfl, rfl, trivial⟩) (K7 (!r21) w30 h)
           ·have h := h0_J6 hb17
            refine HW.skip (i := 21) hH rfl (by kernel_rfl) (Skips.on rfl rfl rfl rfl rfl hb17) rfl (fun _ => hS12) ?_
            refine HW.skip (i := 22) hH rfl (by kernel_rfl) (Skips.on rfl rfl rfl rfl rfl hb17) rfl (fun _ => hS12) ?_
            refine HW.skip1 (i := 23) hH (by kernel_rfl) rfl (Skips.on rfl rfl rfl rfl rfl hb17) rfl (fun hc => by cases hc) ?_
            refine HW.skip (i := 24) hH rfl (by kernel_rfl) (Skips.on rfl rfl rfl rfl rfl hb17) rfl (fun hc => by cases hc) ?_
            refine HW.pure (i := 25) hH rfl (by kernel_rfl) (Wants.on rfl rfl rfl rfl rfl hb16) rfl (fun hc => by cases hc) (Rd.pickF rfl hb17 rfl) ?_
            exact HW.sub hH (by exact ⟨rfl, rfl, rfl, rfl, rfl, rfl, rfl, rfl, rfl, trivial⟩) (K7 false w25 h)
          intro b8 w29 h_
          have h := hJ6 b8 w29 h_; clear h_
          refine HW.pure (i := 26) hH rfl (by kernel_rfl) (Wants.free rfl) rfl (fun hc => by cases hc) (Rd.pickF rfl hb16 rfl) ?_
          exact HW.sub hH (by exact ⟨rfl, rfl, rfl, rfl, rfl, rfl, rfl, rfl, trivial⟩) (K6 b8 w29 h)
        intro b7 w28 h_
        have h := hJ5 b7 w28 h_; clear h_
        refine HW.done hH (by kernel_rfl) ?_
        refine NW.then ?_
        refine CW.cond rfl (fun hb18 => ?_) (fun hb18 => ?_)
        ·replace h := h.1 hb18
         refine CW.seq ?_
         refine CW.region fun L hL => ?_
         refine LW.rd hL rfl (Wants.free rfl) rfl (Rd.assign (v := .bool false) rfl) ?_
         refine LW.nil hL rfl ?_
         refine NW.then ?_
         refine CW.ret ?_
         refine RW.block ?_
         refine RW.then ?_
         refine RW.then ?_
         refine RW.block ?_
         refine RW.block ?_
         refine RW.then ?_
         refine RW.then ?_
         refine RW.block ?_
         refine RW.then ?_
         exact res1 rfl rfl ⟨false, rfl, h⟩
        ·replace h := h.2 hb18
         refine CW.skip ?_
         refine NW.block ?_
         refine NW.then ?_
         refine CW.region fun L hL => ?_
         refine LW.rd hL rfl (Wants.free rfl) rfl (Rd.move (v := .int .i64 k3) rfl) ?_
         refine LW.rd hL rfl (Wants.free rfl) rfl (Rd.bin (v := .int .i64 (IntKind.wrap .i64 (k3 + 1))) rfl rfl (fun w => by kernel_rfl)) ?_
         refine LW.rd hL rfl (Wants.free rfl) rfl (Rd.assign (v := .int .i64 (IntKind.wrap .i64 (k3 + 1))) rfl) ?_
         refine LW.nil hL rfl ?_
         exact NW.loop (S := Bool × Int) (Ek := fun s5 => [(1, .slice places1 places1n places1c), (2, .slice steps1 steps1n steps1c), (7, .pointer r4), (8, .slice r5 r5n r5c), (10, .int .i64 i1), (6, .bool s5.1), (15, .int .i64 s5.2)]) (x3, IntKind.wrap .i64 (k3 + 1)) (by exact ⟨rfl, rfl, rfl, rfl, rfl, rfl, rfl, trivial⟩) h
       ·replace h := h.2 hb13
        refine CW.exit ?_
        refine XW.then ?_
        refine XW.then ?_
        refine XW.hit ?_
        refine NW.block ?_
        refine NW.then ?_
        refine CW.region fun L hL => ?_
        refine LW.rd hL rfl (Wants.free rfl) rfl (Rd.move (v := .int .i64 i1) rfl) ?_
        refine LW.rd hL rfl (Wants.free rfl) rfl (Rd.bin (v := .int .i64 (IntKind.wrap .i64 (i1 + 1))) rfl rfl (fun w => by kernel_rfl)) ?_
        refine LW.rd hL rfl (Wants.free rfl) rfl (Rd.assign (v := .int .i64 (IntKind.wrap .i64 (i1 + 1))) rfl) ?_
        refine LW.nil hL rfl ?_
        exact NW.loop (S := Bool × Int) (Ek := fun s1 => [(1, .slice places1 places1n places1c), (2, .slice steps1 steps1n steps1c), (7, .pointer r4), (8, .slice r5 r5n r5c), (6, .bool s1.1), (10, .int .i64 s1.2)]) (x3, IntKind.wrap .i64 (i1 + 1)) (by exact ⟨rfl, rfl, rfl, rfl, rfl, rfl, trivial⟩) h
   ·replace h := h.2 hb7
    refine CW.exit ?_
    refine XW.then ?_
    refine XW.then ?_
    refine XW.hit ?_
    refine NW.then ?_
    refine CW.seq ?_
    refine CW.region fun L hL => ?_
    refine LW.call hL rfl (Wants.free rfl) rfl (Cl.fn (f := 7) rfl Tryd.func7 (by kernel_rfl) rfl) h (fun e w31 h_ => ?_)
    clear h
    obtain ⟨r22, rfl, h⟩ := h_
    refine ⟨_, rfl, ?_⟩
    refine LW.rd hL rfl (Wants.free rfl) rfl (Rd.assign (v := .bool r22) rfl) ?_
    refine LW.nil hL rfl ?_
    refine NW.then ?_
    refine CW.ret ?_
    exact res1 rfl rfl ⟨r22, rfl, h⟩
end Go.Proofs.YtfcfkhbkkfpehaaDoor
end
section
/- Histories: Notes, Last; notes compared; QueryNotes' walk. -/
namespace Go.Proofs.YtfcfkhbkkfpehaaDoor
open Go Go.RowKit Go.X Go.XR
def LastIs (w : World) (o : Option Nt) (r1 r2 r3 : Int) (q : Sl) (r5 : Bool) : Prop :=
 (o = none ∧ r1 = 0 ∧ r2 = 0 ∧ r3 = 0 ∧ r5 = false ∧ FromAt w q []) ∨ ∃ n, o = some n ∧ r1 = n.1 ∧ r2 = n.2.1.1 ∧ r3 = n.2.1.2 ∧ r5 = true ∧ FromAt w q n.2.2
theorem LastIs.chg {w w' : World} {f : List Nat} {o : Option Nt} {r1 r2 r3 : Int} {q : Sl} {r5 : Bool} (h : LastIs w o r1 r2 r3 q r5) (hc : Chg f w w') (hf : ∀ i ∈ rowB q.1, i ∉ f) : LastIs w' o r1 r2 r3 q r5 := by
 rcases h with ⟨h1, h2, h3, h4, h5, h6⟩ | ⟨n, h1, h2, h3, h4, h5, h6⟩
 ·exact .inl ⟨h1, h2, h3, h4, h5, h6.chg hc hf⟩
 ·exact .inr ⟨n, h1, h2, h3, h4, h5, h6.chg hc hf⟩
theorem hist_last {w : World} {b : Nat} {ns : List Nt} {cnt last : Int} {fp : List Nat} (h : HistAt w b ns cnt last fp) (hM : ∀ n ∈ ns, n.2.2.length ≤ 1000) (p1 p2 step : Int) :
  Calls Tryd.prog 17 #[.pointer (some ⟨b, 0, none⟩), .agg #[.int .i64 p1, .int .i64 p2], .int .i64 step] w fun e w' => ∃ (r1 r2 r3 : Int) (r4 : Option Addr) (r4n r4c : Nat) (r5 : Bool), e = .returned (.tuple #[.agg #[.int .i64 r1, .int .i64 r2, .int .i64 r3, .slice r4 r4n r4c], .bool r5]) ∧
   (LastIs w' (bef (ofPl ns (p1, p2)) step) r1 r2 r3 (r4, r4n, r4c) r5 ∧ Chg [] w w' ∧ ∀ i ∈ rowB r4, w.heap.size ≤ i) := by
 have hlt := h.lt
 refine go_query_History_Last _ _ _ _ _ _ ?_
 unfold W_query_History_Last
 rintro b2 b1 w2 ⟨l2, u2⟩ ⟨l1, u1⟩ c2
 have s2 := c2.size
 refine (hist_none (h.chg c2 (by simp))).mono ?_
 rintro _ w3 ⟨_, rfl, rfl, hw⟩
 subst w3
 refine ⟨_, rfl, Same.refl _ _, fun h => by simp at h, fun _ => ?_⟩
 refine (hist_before (h.chg c2 (by simp)) p1 p2 step).mono ?_
 rintro _ w5 ⟨r7, r8, r9, r10, r10n, r10c, r11, rfl, hbe, c5⟩
 have s5 := c5.size
 refine ⟨_, _, _, _, _, _, _, rfl, Same.chg c5 (by simp; omega), ?_⟩
 rintro b3 w7 ⟨l3, u3⟩ c7
 have s7 := c7.size
 have fin : ∀ {nt : Nt} {q : Sl}, ReadsP w7 q nt.2.2 → nt.2.2.length ≤ 1000 → r7 = nt.1 → r8 = nt.2.1.1 → r9 = nt.2.1.2 → (r10, r10n, r10c) = q → (∀ (w9 : World) (r4 : Option Addr) (r4n r4c : Nat), FromAt w9 (r4, r4n, r4c) nt.2.2 → LastIs w9 (bef (ofPl ns (p1, p2)) step) nt.1 nt.2.1.1 nt.2.1.2 (r4, r4n, r4c) r11) →
   Calls Tryd.prog 21 #[.agg #[.int .i64 r7, .int .i64 r8, .int .i64 r9, .slice r10 r10n r10c]] w7 fun e w8 => ∃ (r12 r13 r14 : Int) (r15 : Option Addr) (r15n r15c : Nat), e = .returned (.agg #[.int .i64 r12, .int .i64 r13, .int .i64 r14, .slice r15 r15n r15c]) ∧ (Same w7 w8 [b2] ∧ (∀ w9 : World, Chg [b2] w8 w9 → (LastIs w9 (bef (ofPl ns (p1, p2)) step) r12 r13 r14 (r15, r15n, r15c) r11 ∧ Chg [] w w9 ∧ ∀ i ∈ rowB r15, w.heap.size ≤ i))) := by
  rintro nt q hrd hle rfl rfl rfl rfl hfin
  refine (copied_note hrd (by omega)).mono ?_
  rintro _ w8 ⟨r12, r13, r14, r15, r15n, r15c, rfl, e1, e2, e3, hfa, c8, hf8⟩
  subst e1 e2 e3
  have s8 := c8.size
  refine ⟨_, _, _, _, _, _, rfl, Same.chg c8 (by simp; omega), fun w9 c9 => ?_⟩
  have hb2 : ∀ i ∈ rowB r15, i ∉ [b2] := fun i hi hm => by have := hf8 i hi; simp at hm; omega
  exact ⟨hfin w9 r15 r15n r15c (hfa.chg c9 hb2), (((c2.trans0 c5).trans0 c7).trans0 c8).trans c9 (fun i hi hlt' => by simp at hi; omega), fun i hi => by have := hf8 i hi; omega⟩
 rcases hbe with ⟨e, rfl, rfl, rfl, eq, rfl⟩ | ⟨nt, e, h7, h8, h9, h11, hfa, hfs⟩
 ·cases eq
  exact fin (nt := (0, (0, 0), [])) (q := (none, 0, 0)) ⟨rfl, by simp, fun j x hj => by simp at hj⟩ (by simp) rfl rfl rfl rfl (fun w9 r4 r4n r4c hf => .inl ⟨e, rfl, rfl, rfl, rfl, hf⟩)
 ·exact fin (nt := nt) (hfa.chg c7 (by simp)).reads (hM nt (bef_some (u := ((p1, p2), step)) e).1) h7 h8 h9 rfl (fun w9 r4 r4n r4c hf => .inr ⟨nt, e, rfl, rfl, rfl, h11, hf⟩)
theorem push_note {w : World} {p : Option Addr} {n c : Nat} {g : List (Nt × Sl)} (h : RowAt w 50 4 p n c (g.flatMap noteC)) (hn : n = g.length) (hle : n ≤ 1000000000) {x : Nt × Sl} {b : Nat} (hb : w.heap[b]? = some (.cells #[.int .i64 x.1.1, .int .i64 x.1.2.1.1, .int .i64 x.1.2.1.2, .slice x.2.1 x.2.2.1 x.2.2.2] 50 (0, 0))) :
  ∃ (p' : Option Addr) (n' c' : Nat) (w' : World), (Builtin.append_ #[39, 39] 39 #[.slice p n c, .slice (some (⟨b, 0, none⟩ : Addr)) 1 1]).run Tryd.prog w = .ok (.slice p' n' c') w' ∧ RowAt w' 50 4 p' n' c' ((g ++ [x]).flatMap noteC) ∧ n' = (g ++ [x]).length ∧ Chg (rowB p) w w' ∧ ∀ i ∈ rowB p', i ∈ rowB p ∨ w.heap.size ≤ i := by
 obtain ⟨p', c', w', happ, hrow, hc, hnew⟩ := h.append (P := Tryd.prog) (t := 39) (ty := 39) (i := Tryd.t50) (z := .agg #[.int .i64 0, .int .i64 0, .int .i64 0, .slice none 0 0]) (bytes := 48) (by kernel_rfl) (by kernel_rfl) (by kernel_rfl) (by kernel_rfl) (by kernel_rfl) rfl (by omega)
  (a := ⟨b, 0, none⟩) (m := 1) (mc := 1) (news := noteC x) (by simp [noteC]) (fun j u hj => by
   match j, hj with
   | 0, hj => simp [noteC] at hj; subst hj; rw [add_at, cell_of hb]; rfl
   | 1, hj => simp [noteC] at hj; subst hj; rw [add_at, cell_of hb]; rfl
   | 2, hj => simp [noteC] at hj; subst hj; rw [add_at, cell_of hb]; rfl
   | 3, hj => simp [noteC] at hj; subst hj; rw [add_at, cell_of hb]; rfl
   | j + 4, hj => simp [noteC] at hj) (fun u hu => by simp [noteC] at hu; rcases hu with rfl | rfl | rfl | rfl <;> rfl) (by unfold maxLen; omega) (by omega)
 exact ⟨p', n + 1, c', w', happ, by rw [List.flatMap_append]; simpa using hrow, by simp [hn], hc, hnew⟩
structure OwnNotes (w : World) (base : Nat) (p : Option Addr) (n c : Nat) (ns : List Nt) : Prop where
 there : ∃ g : List (Nt × Sl), g.map Prod.fst = ns ∧ RowAt w 50 4 p n c (g.flatMap noteC) ∧ n = g.length ∧ ∀ x ∈ g, FromAt w x.2 x.1.2.2 ∧ ∀ i ∈ rowB x.2.1, base ≤ i
 new : ∀ i ∈ rowB p, base ≤ i
theorem OwnNotes.chg {w w' : World} {base : Nat} {p : Option Addr} {n c : Nat} {ns : List Nt} (h : OwnNotes w base p n c ns) (hc : Chg [] w w') : OwnNotes w' base p n c ns := by
 obtain ⟨g, g1, g2, g3, g4⟩ := h.there
 exact ⟨⟨g, g1, g2.chg hc (by simp), g3, fun x hx => ⟨(g4 x hx).1.chg hc (by simp), (g4 x hx).2⟩⟩, h.new⟩
theorem hist_notes {w : World} {b : Nat} {ns : List Nt} {cnt last : Int} {fp : List Nat} (h : HistAt w b ns cnt last fp) (hM : ∀ n ∈ ns, n.2.2.length ≤ 1000) (p1 p2 : Int) :
  Calls Tryd.prog 15 #[.pointer (some ⟨b, 0, none⟩), .agg #[.int .i64 p1, .int .i64 p2]] w fun e w' => ∃ (r : Option Addr) (rn rc : Nat), e = .returned (.slice r rn rc) ∧
   (OwnNotes w' w.heap.size r rn rc (ofPl ns (p1, p2)) ∧ Chg [] w w') := by
 obtain ⟨m, tbl, g, h1, h2, h3, h4, h5, h6, h7, h8, h9⟩ := h.there
 have hfw := h.few
 refine go_query_History_Notes _ _ _ _ _ ?_
 unfold W_query_History_Notes
 rintro b1 w1 ⟨l1, u1⟩ c1
 have s1 := c1.size
 refine (hist_none (h.chg c1 (by simp))).mono ?_
 rintro _ w2 ⟨_, rfl, rfl, hw⟩
 subst w2
 refine ⟨_, rfl, Same.refl _ _, fun h => by simp at h, fun _ => ⟨_, rfl, fun w3 c3 => ?_⟩⟩
 have c03 := c1.trans0 c3
 have s3 := c03.size
 have hlk := (h2.chg c03 (by simp)).lookup (P := Tryd.prog) (T := 57) uHN keyPlace zeroNotes (p1, p2) false
 obtain ⟨v, hv, hrow, hvl, hvf⟩ : ∃ v : Sl, ((lookK (p1, p2) tbl).map encSl).getD (encSl (none, 0, 0)) = encSl v ∧ RowAt w 50 4 v.1 v.2.1 v.2.2 ((g (p1, p2)).flatMap noteC) ∧ v.2.1 = (g (p1, p2)).length ∧ ∀ i ∈ rowB v.1, i ∈ fp := by
  cases hl : lookK (p1, p2) tbl with
  | none => exact ⟨(none, 0, 0), rfl, by rw [h6 _ hl]; exact RowAt.nil, by rw [h6 _ hl]; rfl, by simp [rowB]⟩
  | some v => exact ⟨v, rfl, h5 _ v hl⟩
 simp only [Bool.false_eq_true, if_false] at hlk
 rw [hv] at hlk
 have hns : (g (p1, p2)).map Prod.fst = ofPl ns (p1, p2) := h9 _
 have hglen : (g (p1, p2)).length ≤ 1000000 := by
  have e1 : ((g (p1, p2)).map Prod.fst).length = (ofPl ns (p1, p2)).length := by rw [hns]
  have e2 := List.length_filter_le (fun n : Nt => decide (n.2.1 = (p1, p2))) ns
  unfold ofPl at e1
  simp only [List.length_map] at e1
  omega
 refine ⟨some m, by rw [cell_of (c03.obj (by simp) h1)]; rfl, v.1, v.2.1, v.2.2, hlk, ?_⟩
 refine ⟨fun out outn outc x w4 => ∃ j : Nat, x = (j : Int) ∧ j ≤ (g (p1, p2)).length ∧ OwnNotes w4 w.heap.size out outn outc ((ofPl ns (p1, p2)).take j) ∧ Chg [] w w4,
  fun _ _ _ x _ => ((g (p1, p2)).length - x).toNat, ⟨0, rfl, Nat.zero_le _, ⟨⟨[], rfl, RowAt.nil, rfl, by simp⟩, by simp [rowB]⟩, c03⟩, ?_⟩
 rintro out outn outc _ w4 ⟨j, rfl, hj, hO, c4⟩
 have hrow4 := hrow.chg c4 (by simp)
 refine ⟨fun hlt => ?_, fun hge => ?_⟩
 ·have hjn : j < (g (p1, p2)).length := by have := of_decide_eq_true hlt; omega
  obtain ⟨x, hx⟩ := get_of hjn
  have hxm := List.mem_of_getElem? hx
  obtain ⟨a, ha, hcs⟩ := note_cells hrow4 hx
  refine ⟨a, ha, by omega, by omega, _, _, _, _, _, _, by simpa using hcs, ?_⟩
  rintro b2 w6 ⟨l2, u2⟩ c6
  have c06 := c4.trans0 c6
  have hnx : x.1 ∈ ns := by
   have : x.1 ∈ ofPl ns (p1, p2) := hns ▸ List.mem_map.2 ⟨x, hxm, rfl⟩
   exact (List.mem_filter.1 this).1
  refine (copied_note (n := x.1) (q := x.2) ((h8 _ x hxm).1.chg c06 (by simp)).reads (by have := hM _ hnx; omega)).mono ?_
  rintro _ w7 ⟨r3, r4, r5, r6, r6n, r6c, rfl, e1, e2, e3, hfa, c7, hf7⟩
  subst e1 e2 e3
  have s6 := c06.size
  have s7 := c7.size
  refine ⟨_, _, _, _, _, _, rfl, ?_⟩
  refine v_alloc fun b3 w8 e3 hb3 c8 => ?_
  have s8 := c8.size
  obtain ⟨gg, g1, g2, g3, g4⟩ := (hO.chg ((c6.trans0 c7).trans0 c8)).there
  have hgl : gg.length ≤ (g (p1, p2)).length := by
   have : (gg.map Prod.fst).length = ((ofPl ns (p1, p2)).take j).length := by rw [g1]
   rw [List.length_map, List.length_take] at this
   omega
  obtain ⟨l1', l1n, l1c, w9, happ, hrow9, hln, c9, hnew⟩ := push_note (x := (x.1, ((r6, r6n, r6c) : Sl))) g2 g3 (by omega) hb3
  have s9 := c9.size
  refine ⟨l1', l1n, l1c, w9, happ, ?_⟩
  rw [wr (by omega) (by omega)]
  have hxo : (ofPl ns (p1, p2))[j]? = some x.1 := by rw [← hns, List.getElem?_map, hx]; rfl
  refine ⟨⟨j + 1, by omega, by omega, ⟨⟨gg ++ [(x.1, ((r6, r6n, r6c) : Sl))], by rw [List.map_append, g1, take_snoc hxo]; rfl, hrow9, hln, fun y hy => ?_⟩, fun i hi => ?_⟩, ((c06.trans0 c7).trans0 c8).trans c9 (fun i hi hlt' => by have := hO.new i hi; omega)⟩, by simp only []; omega⟩
  ·rcases List.mem_append.1 hy with hy | hy
   ·obtain ⟨k1, k2⟩ := g4 y hy
    exact ⟨k1.chg c9 (row_apart k1.row g2 (by decide)), k2⟩
   ·simp at hy; subst hy
    have hfa8 : FromAt w8 (r6, r6n, r6c) x.1.2.2 := hfa.chg c8 (by simp)
    exact ⟨hfa8.chg c9 (row_apart hfa8.row g2 (by decide)), fun i hi => by have := hf7 i hi; omega⟩
  ·rcases hnew i hi with h' | h'
   ·exact hO.new i h'
   ·omega
 ·have hjn : j = (g (p1, p2)).length := by have := of_decide_eq_false hge; omega
  have hlen : (ofPl ns (p1, p2)).length = (g (p1, p2)).length := by rw [← hns, List.length_map]
  rw [hjn, ← hlen, List.take_length] at hO
  exact ⟨hO, c4⟩
theorem alike14 {w : World} {n1 n2 : Nt} {q1 q2 : Sl} (h1 : CellsP w q1 n1.2.2) (h2 : CellsP w q2 n2.2.2) (hl : n1.2.2.length ≤ 1000000000000) :
  Calls Tryd.prog 16 #[.agg #[.int .i64 n1.1, .int .i64 n1.2.1.1, .int .i64 n1.2.1.2, .slice q1.1 q1.2.1 q1.2.2], .agg #[.int .i64 n2.1, .int .i64 n2.2.1.1, .int .i64 n2.2.1.2, .slice q2.1 q2.2.1 q2.2.2]] w fun e w' => ∃ r : Bool, e = .returned (.bool r) ∧ (r = decide (n1 = n2) ∧ Chg [] w w') := by
 refine go_pomanderlaw14_alike _ _ _ _ _ _ _ _ _ _ _ _ _ _ ?_
 unfold W_pomanderlaw14_alike
 rintro b6 b5 w2 _ _ c2
 refine ⟨fun b w3 => b = decide (n1.1 = n2.1 ∧ n1.2.1 = n2.2.1) ∧ Chg [] w w3, ?_, fun he => ⟨?_, c2⟩, fun hne => ⟨?_, c2⟩⟩
 ·rintro _ w3 ⟨rfl, c3⟩
  refine ⟨fun b w4 => b = decide (n1 = n2) ∧ Chg [] w w4, fun b w4 h => h, fun hb => ?_, fun hb => ⟨?_, c3⟩⟩
  ·have hb' := of_decide_eq_true hb
   refine (same_places (h1.chg c3 (by simp)) (h2.chg c3 (by simp)) hl).mono ?_
   rintro _ w5 ⟨_, rfl, rfl, c5⟩
   refine ⟨_, rfl, decide_eq_decide.2 ⟨fun e => ?_, fun e => by rw [e]⟩, c3.trans0 c5⟩
   exact Prod.ext hb'.1 (Prod.ext hb'.2 e)
  ·have hb' := of_decide_eq_false hb
   symm; exact decide_eq_false (fun e => hb' (by rw [e]; exact ⟨rfl, rfl⟩))
 ·have he' : n1.1 = n2.1 := by simpa using he
  by_cases e : n1.2.1 = n2.2.1
  ·rw [decide_eq_true ⟨he', e⟩, e]; simp
  ·rw [decide_eq_false (fun h => e h.2)]
   cases hq : ((n1.2.1.1 == n2.2.1.1) && (n1.2.1.2 == n2.2.1.2)) with
   | false => rfl
   | true => simp at hq; exact absurd (Prod.ext hq.1 hq.2) e
 ·have hne' : ¬ n1.1 = n2.1 := by simpa using hne
  symm; exact decide_eq_false (fun h => hne' h.1)
theorem NotesAt.note {w : World} {S : Nat → Prop} {p : Option Addr} {n c : Nat} {ns : List Nt} (h : NotesAt w S p n c ns) {i : Nat} {nt : Nt} (hnt : ns[i]? = some nt) :
  ∃ (a2 : Addr) (q : Sl), p = some a2 ∧ CellsAt w (a2.add (i * 4)) 0 [.int .i64 nt.1, .int .i64 nt.2.1.1, .int .i64 nt.2.1.2, .slice q.1 q.2.1 q.2.2] ∧ PlacesAt w S q.1 q.2.1 nt.2.2 := by
 obtain ⟨g, g1, g2, g3⟩ := h.there
 obtain ⟨x, hx, hxe⟩ : ∃ x, g[i]? = some x ∧ x.1 = nt := by
  rw [← g1, List.getElem?_map] at hnt
  cases hg : g[i]? with
  | none => rw [hg] at hnt; simp at hnt
  | some x => rw [hg] at hnt; simp at hnt; exact ⟨x, rfl, hnt⟩
 obtain ⟨a2, ha2, hc2⟩ := note_cells g2 hx
 rw [← hxe]
 exact ⟨a2, x.2, ha2, hc2, g3 x (List.mem_of_getElem? hx)⟩
theorem OwnNotes.note {w : World} {base : Nat} {p : Option Addr} {n c : Nat} {ns : List Nt} (h : OwnNotes w base p n c ns) {i : Nat} {nt : Nt} (hnt : ns[i]? = some nt) :
  ∃ (a2 : Addr) (q : Sl), p = some a2 ∧ CellsAt w (a2.add (i * 4)) 0 [.int .i64 nt.1, .int .i64 nt.2.1.1, .int .i64 nt.2.1.2, .slice q.1 q.2.1 q.2.2] ∧ FromAt w q nt.2.2 := by
 obtain ⟨g, g1, g2, g3, g4⟩ := h.there
 obtain ⟨x, hx, hxe⟩ : ∃ x, g[i]? = some x ∧ x.1 = nt := by
  rw [← g1, List.getElem?_map] at hnt
  cases hg : g[i]? with
  | none => rw [hg] at hnt; simp at hnt
  | some x => rw [hg] at hnt; simp at hnt; exact ⟨x, rfl, hnt⟩
 obtain ⟨a2, ha2, hc2⟩ := note_cells g2 hx
 rw [← hxe]
 exact ⟨a2, x.2, ha2, hc2, (g4 x (List.mem_of_getElem? hx)).1⟩
end Go.Proofs.YtfcfkhbkkfpehaaDoor
end
section
/- QueryNotes: the walk. -/
namespace Go.Proofs.YtfcfkhbkkfpehaaDoor
open Go Go.RowKit Go.X Go.XR
theorem notes_walk {w : World} {S : Nat → Prop} {p q t : Option Addr} {n c qn qc tn tc : Nat} {l : List AddV} {ps : List Pl} {ss : List Int} (h : AddsAt w S p n l) (hn : n ≤ maxLen) (hp : PlacesAt w S q qn ps) (hs : StepsAt w S t tn ss) (hS : ∀ i, S i → i < w.heap.size) :
  Calls Tryd.prog 6 #[.slice p n c, .slice q qn qc, .slice t tn tc] w fun e w' => ∃ r : Bool, e = .returned (.bool r) ∧ (r = true ∧ Chg [] w w') := by
 have hl := h.length
 have hpl := hp.length
 have hsl := hs.length
 refine go_pomanderlaw14_QueryNotes _ _ _ _ _ _ _ _ _ _ _ ?_
 unfold W_pomanderlaw14_QueryNotes
 have known : ∀ {A : World}, Chg [] w A → Calls Tryd.prog 7 #[] A fun e w3 => ∃ (r3 : Bool), e = .returned (.bool r3) ∧ (r3 = true ∧ Chg [] w w3) := fun hA => by
  refine (known_ok _).mono ?_
  rintro _ w3 ⟨_, rfl, rfl, c3⟩
  exact ⟨_, rfl, rfl, hA.trans0 c3⟩
 refine (vast14 h hn).mono ?_
 rintro _ w1 ⟨vb, rfl, hv, c1⟩
 refine ⟨vb, rfl, fun _ => known c1, fun hok => ?_⟩
 simp only [Bool.or_eq_false_iff, decide_eq_false_iff_not] at hok
 obtain ⟨⟨hvb, hp10⟩, hs10⟩ := hok
 have hsm := hv hvb
 have s1 := c1.size
 refine (made14 (h.chg (f := []) c1 (by simp)) (fun i hi => by have := hS i hi; omega) hsm).mono ?_
 rintro _ w3 ⟨_, r5, r5n, r5c, _, rfl, rfl, c3, b, fp, rfl, hH, hfp, hN, hNf⟩
 have c03 := c1.trans0 c3
 have s3 := c3.size
 obtain ⟨ns, hnsd⟩ : ∃ ns, ns = (madeA l).1 := ⟨_, rfl⟩
 rw [← hnsd] at hH hN
 have few : ns.length ≤ 1000 := by
  have := madeA_few l hsm l.length
  rw [List.take_length, ← hnsd] at this
  have := hsm.1; omega
 have six : ∀ nt ∈ ns, nt.2.2.length ≤ 1000 := fun nt hnt => by have := madeA_small l (fun x hx => (hsm.2 x hx).2) nt (by rw [← hnsd]; exact hnt); omega
 have hNl := hN.len
 refine ⟨_, _, _, _, _, rfl, fun hbad => by simp at hbad, fun _ => ?_⟩
 refine ⟨fun _ i w4 => ∃ j : Nat, i = (j : Int) ∧ j ≤ ps.length ∧ Chg [] w3 w4, fun _ i _ => (ps.length - i).toNat, ⟨0, rfl, Nat.zero_le _, Chg.refl _ _⟩, ?_⟩
 rintro x1 _ w4 ⟨j, rfl, hj, c4⟩
 refine ⟨fun hlt => ?_, fun hge => known (c03.trans0 c4)⟩
 have hjn : j < ps.length := by have := of_decide_eq_true hlt; omega
 obtain ⟨x, hx⟩ := get_of hjn
 have s4 := c4.size
 refine ⟨fun want wantn wantc k w5 => ∃ m : Nat, k = (m : Int) ∧ m ≤ ns.length ∧ NotesAt w5 S want wantn wantc (ofPl (ns.take m) x) ∧ (∀ i ∈ rowB want, w3.heap.size ≤ i) ∧ Chg [] w3 w5, fun _ _ _ k _ => (ns.length - k).toNat, ⟨0, rfl, Nat.zero_le _, by simpa [ofPl] using NotesAt.nil w4 S, by simp [rowB], c4⟩, ?_⟩
 rintro want wantn wantc _ w5 ⟨m, rfl, hm, hW, hWf, c5⟩
 have s5 := c5.size
 have c05 := c03.trans0 c5
 have hN5 := hN.chg c5 (by simp) (by simp)
 refine ⟨fun hlt2 => ?_, fun hge2 => ?_⟩
 ·have hmn : m < ns.length := by have := of_decide_eq_true hlt2; omega
  obtain ⟨nt, hnt⟩ := get_of hmn
  have htk : ofPl (ns.take (m + 1)) x = ofPl (ns.take m) x ++ if nt.2.1 = x then [nt] else [] := by
   unfold ofPl
   rw [take_snoc hnt, List.filter_append]
   by_cases e : nt.2.1 = x <;> simp [e]
  refine ⟨fun want2 want2n want2c w6 => NotesAt w6 S want2 want2n want2c (ofPl (ns.take (m + 1)) x) ∧ (∀ i ∈ rowB want2, w3.heap.size ≤ i) ∧ Chg [] w3 w6, fun want2 want2n want2c w6 kk => ?_, ?_⟩
  ·rw [wr (by omega) (by omega)]
   exact ⟨⟨m + 1, by omega, by omega, kk⟩, by simp only []; omega⟩
  obtain ⟨a1, q1, ha1, hc1, hpl1⟩ := hN5.note hnt
  refine ⟨a1, ha1, by omega, by omega, fun w7 c7 => ?_⟩
  have s7 := c7.size
  have hc17 := c7.cells (by simp) hc1
  obtain ⟨_, _, a2, ha2, _, hcx⟩ := (hp.chg (f := []) (c05.trans0 c7) (by simp)).each j x hx
  have c57 := c5.trans0 c7
  refine ⟨nt.2.1.1, nt.2.1.2, ⟨hc17.2.1, by rw [add_add]; exact hc17.2.2.1, trivial⟩, a2, ha2, by omega, by omega, x.1, x.2, by simpa using hcx, fun he => ?_, fun hne => ?_⟩
  ·have hex : nt.2.1 = x := by simp at he; exact Prod.ext he.1 he.2
   rw [htk, if_pos hex]
   refine ⟨nt.1, nt.2.1.1, nt.2.1.2, q1.1, q1.2.1, q1.2.2, by simpa using hc17, ?_⟩
   refine v_alloc fun b1 w8 e1 hb1 c8 => ?_
   have s8 := c8.size
   have hW8 := (hW.chg (f := []) c7 (by simp) (by simp)).chg (f := []) c8 (by simp) (by simp)
   have hle : (ofPl (ns.take m) x).length ≤ 1000000 := by
    have := List.length_filter_le (fun n : Nt => decide (n.2.1 = x)) (ns.take m)
    rw [List.length_take] at this
    unfold ofPl; omega
   obtain ⟨l2, l2n, l2c, w9, happ, hW9, c9, hnew⟩ := hW8.push (nt := nt) (q := q1) (fun i hi => by have := hS i hi; omega) hle ((hpl1.chg (f := []) c7 (by simp)).chg (f := []) c8 (by simp)) hb1 (fun hmem => by have := hW.lt _ hmem; omega)
   refine ⟨l2, l2n, l2c, w9, happ, hW9, fun i hi => ?_, (c57.trans0 c8).trans c9 (fun i hi hlt' => by have := hWf i hi; omega)⟩
   rcases hnew i hi with h' | h'
   ·exact hWf i h'
   ·omega
  ·have hex : ¬ nt.2.1 = x := fun e => by rw [e] at hne; simp at hne
   rw [htk, if_neg hex, List.append_nil]
   exact ⟨hW.chg (f := []) c7 (by simp) (by simp), hWf, c57⟩
 have hmn : m = ns.length := by have := of_decide_eq_false hge2; omega
 subst hmn
 rw [List.take_length] at hW
 obtain ⟨_, _, a3, ha3, _, hcx⟩ := (hp.chg (f := []) c05 (by simp)).each j x hx
 refine ⟨a3, ha3, by omega, by omega, x.1, x.2, by simpa using hcx, ?_⟩
 refine (hist_notes (hH.chg c5 (by simp)) six x.1 x.2).mono ?_
 rintro _ w10 ⟨r7, r7n, r7c, rfl, hO, c10⟩
 have s10 := c10.size
 have c010 := c05.trans0 c10
 have c310 := c5.trans0 c10
 have hcx10 := c10.cells (by simp) hcx
 have hW10 := hW.chg (f := []) c10 (by simp) (by simp)
 have hWl := hW.len
 obtain ⟨gg, g1, g2, g3, g4⟩ := hO.there
 have hr7 : r7n = (ofPl ns x).length := by
  have : (gg.map Prod.fst).length = (ofPl ns x).length := by rw [g1]
  rw [List.length_map] at this
  omega
 have hofl : (ofPl ns x).length ≤ 1000 := Nat.le_trans (List.length_filter_le _ _) few
 refine ⟨r7, r7n, r7c, rfl, fun hbad => ?_, fun _ => ?_⟩
 ·exfalso; rw [hr7, hWl] at hbad; simp at hbad
 refine ⟨fun _ k w11 => ∃ i : Nat, k = (i : Int) ∧ i ≤ r7n ∧ Chg [] w10 w11, fun _ k _ => (r7n - k).toNat, ⟨0, rfl, Nat.zero_le _, Chg.refl _ _⟩, ?_⟩
 rintro x2 _ w11 ⟨i, rfl, hi, c11⟩
 refine ⟨fun hlt3 => ?_, fun hge3 => ?_⟩
 ·have hin : i < r7n := by have := of_decide_eq_true hlt3; omega
  obtain ⟨nt, hnt⟩ := get_of (l := ofPl ns x) (j := i) (by omega)
  have hntm : nt ∈ ns := (List.mem_filter.1 (List.mem_of_getElem? hnt)).1
  have hO11 := hO.chg c11
  obtain ⟨a4, q4, ha4, hc4, hf4⟩ := hO11.note hnt
  refine ⟨a4, ha4, by omega, by omega, fun w12 c12 => ?_⟩
  have c1012 := c11.trans0 c12
  obtain ⟨a5, q5, ha5, hc5, hf5⟩ := (hW10.chg (f := []) c1012 (by simp) (by simp)).note hnt
  refine ⟨nt.1, nt.2.1.1, nt.2.1.2, q4.1, q4.2.1, q4.2.2, by simpa using c12.cells (by simp) hc4, a5, ha5, by omega, by omega, nt.1, nt.2.1.1, nt.2.1.2, q5.1, q5.2.1, q5.2.2, by simpa using hc5, ?_⟩
  refine (alike14 (hf4.chg c12 (by simp)).reads.cells (hf5.reads (c := q5.2.2)).cells (by have := six nt hntm; omega)).mono ?_
  rintro _ w13 ⟨_, rfl, rfl, c13⟩
  refine ⟨_, rfl, fun hbad => by simp at hbad, fun _ => ?_⟩
  rw [wr (by omega) (by omega)]
  exact ⟨⟨i + 1, by omega, by omega, c1012.trans0 c13⟩, by simp only []; omega⟩
 -- the last notes ahead of steps
 have c311 := c310.trans0 c11
 refine ⟨fun _ k w14 => ∃ m : Nat, k = (m : Int) ∧ m ≤ ss.length ∧ Chg [] w3 w14 ∧ Chg [] w10 w14, fun _ k _ => (ss.length - k).toNat, ⟨0, rfl, Nat.zero_le _, c311, c11⟩, ?_⟩
 rintro x3 _ w14 ⟨m, rfl, hm2, c14, c1014⟩
 refine ⟨fun hlt4 w15 c15 => ?_, fun hge4 => ?_⟩
 ·have hmn : m < ss.length := by have := of_decide_eq_true hlt4; omega
  obtain ⟨s, hsx⟩ := get_of hmn
  have c315 := c14.trans0 c15
  have c1015 := c1014.trans0 c15
  have s15 := c315.size
  have hcx15 := c1015.cells (by simp) hcx10
  obtain ⟨_, a6, ha6, _, hcs⟩ := (hs.chg (f := []) (c03.trans0 c315) (by simp)).each m s hsx
  refine ⟨x.1, x.2, by simpa using hcx15, a6, ha6, by omega, by omega, s, hcs, ?_⟩
  refine ⟨fun b2 x4 x5 x6 x7 x7n x7c x8 w16 => LastIs w16 (bef (ofPl ns x) s) x4 x5 x6 (x7, x7n, x7c) x8 ∧ Chg [] w15 w16 ∧ w15.heap.size ≤ b2 ∧ b2 < w16.heap.size ∧ b2 ∉ rowB x7, ?_, ?_, ?_⟩
  rotate_left
  ·refine (hist_last (hH.chg c315 (by simp)) six x.1 x.2 s).mono ?_
   rintro _ w17 ⟨r9, r10, r11, r12, r12n, r12c, r13, rfl, hL, c17, hf17⟩
   refine ⟨_, _, _, _, _, _, _, rfl, ⟨by simpa using c17.cells (by simp) hcx15, c17.cell (by simp) hcs⟩, ?_⟩
   rintro b3 w18 ⟨l3, u3⟩ c18
   have s17 := c17.size
   refine ⟨hL.chg c18 (by simp), c17.trans0 c18, by omega, u3, fun hmem => ?_⟩
   rcases hL with ⟨_, _, _, _, _, hfa⟩ | ⟨_, _, _, _, _, _, hfa⟩
   ·have := hfa.row.lt _ hmem; omega
   ·have := hfa.row.lt _ hmem; omega
  ·rintro b4 w19 ⟨l4, u4⟩ c19
   refine (hist_last ((hH.chg c315 (by simp)).chg c19 (by simp)) six x.1 x.2 s).mono ?_
   rintro _ w20 ⟨r14, r15, r16, r17, r17n, r17c, r18, rfl, hL, c20, hf20⟩
   have c1520 := c19.trans0 c20
   have s20 := c20.size
   exact ⟨_, _, _, _, _, _, _, rfl, ⟨by simpa using c1520.cells (by simp) hcx15, c1520.cell (by simp) hcs⟩, Same.chg c20 (by simpa using u4), hL, c1520, l4, by omega, fun hmem => by have := hf20 _ hmem; omega⟩
  rintro b2 x4 x5 x6 x7 x7n x7c x8 w16 ⟨hL, c16, hb2, hb2u, hb2n⟩ w22 c22
  have s16 := c16.size
  have s22 := c22.size
  have c1522 : Chg [] w15 w22 := c16.trans c22 (fun i hi hlt' => by simp at hi; omega)
  have hL22 := hL.chg c22 (fun i hi hm => by simp at hm; subst hm; exact hb2n hi)
  have c322 := c315.trans0 c1522
  have hN22 := hN.chg c322 (by simp) (by simp)
  refine ⟨x.1, x.2, by simpa using c1522.cells (by simp) hcx15, s, c1522.cell (by simp) hcs, ?_⟩
  refine (ref_last hN22 (by omega) x s).mono ?_
  rintro _ w23 ⟨r19, rfl, hR, c23⟩
  have s23 := c23.size
  refine ⟨r19, rfl, Same.chg c23 (by simp; omega), fun w24 c24 => ?_⟩
  have c2224 := c23.trans0 c24
  have c324 := c322.trans0 c2224
  have c1024 := (c1015.trans0 c1522).trans0 c2224
  have s24 := c24.size
  have hL24 := hL22.chg c2224 (by simp)
  -- both tell the same
  have hx8 : x8 = decide (r19 ≥ 0) := by
   rcases hL24 with ⟨e, _, _, _, rfl, _⟩ | ⟨nt, e, _, _, _, rfl, _⟩
   ·rcases hR with ⟨_, rfl⟩ | ⟨i', nt', e', _, _⟩
    ·rfl
    ·rw [e] at e'; cases e'
   ·rcases hR with ⟨e', _⟩ | ⟨i', nt', e', rfl, _⟩
    ·rw [e] at e'; cases e'
    ·symm; exact decide_eq_true (by omega)
  refine ⟨fun b5 w25 => b5 = false ∧ Chg [] w24 w25, ?_, fun _ => ?_, fun hbad => by rw [hx8] at hbad; simp at hbad⟩
  ·rintro _ w25 ⟨rfl, c25⟩
   refine ⟨fun b7 w28 => b7 = false ∧ Chg [] w24 w28, ?_, fun _ => ?_, fun h => by simp at h⟩
   ·rintro _ w28 ⟨rfl, c28⟩
    refine ⟨fun h => by simp at h, fun _ => ?_⟩
    rw [wr (by omega) (by omega)]
    exact ⟨⟨m + 1, by omega, by omega, c324.trans0 c28, c1024.trans0 c28⟩, by simp only []; omega⟩
   ·refine ⟨fun b8 w29 => b8 = false ∧ Chg [] w24 w29, fun b8 w29 h => h, fun hf8 => ?_, fun _ => ⟨rfl, c25⟩⟩
    rcases hL24 with ⟨e, rfl, rfl, rfl, _, hfa⟩ | ⟨nt, _, _, _, _, e8, _⟩
    ·refine (alike14 (n1 := (0, (0, 0), [])) (n2 := (0, (0, 0), [])) (q1 := (x7, x7n, x7c)) (q2 := (none, 0, 0)) (hfa.chg c25 (by simp)).reads.cells ⟨rfl, fun j x hj => by simp at hj⟩ (by simp)).mono ?_
     rintro _ w30 ⟨_, rfl, rfl, c30⟩
     exact ⟨_, rfl, by simp, c25.trans0 c30⟩
    ·rw [e8] at hf8; simp at hf8
  ·refine ⟨fun b6 w26 => b6 = false ∧ Chg [] w24 w26, fun b6 w26 h => h, fun ht8 => ?_, fun _ => ⟨rfl, Chg.refl _ _⟩⟩
   rcases hL24 with ⟨_, _, _, _, e8, _⟩ | ⟨nt, e, rfl, rfl, rfl, _, hfa⟩
   ·rw [e8] at ht8; simp at ht8
   ·rcases hR with ⟨e', _⟩ | ⟨i', nt', e', rfl, hnt⟩
    ·rw [e] at e'; cases e'
    ·rw [e] at e'; cases e'
     have hil := (List.getElem?_eq_some_iff.1 hnt).1
     have hntm := List.mem_of_getElem? hnt
     obtain ⟨a7, q7, ha7, hc7, hf7⟩ := (hN22.chg (f := []) c2224 (by simp) (by simp)).note hnt
     have hif : (if (i' : Int) < 0 then 0 else (i' : Int)) = (i' : Int) := by rw [if_neg (by omega)]
     rw [hif]
     refine ⟨a7, ha7, by omega, by omega, nt.1, nt.2.1.1, nt.2.1.2, q7.1, q7.2.1, q7.2.2, by simpa using hc7, ?_⟩
     refine (alike14 (n1 := nt) (n2 := nt) (q1 := (x7, x7n, x7c)) (q2 := q7) hfa.reads.cells (hf7.reads (c := q7.2.2)).cells (by have := six nt hntm; omega)).mono ?_
     rintro _ w27 ⟨_, rfl, rfl, c27⟩
     exact ⟨_, rfl, Same.chg c27 (by simp; omega), by simp, c27⟩
 ·rw [wr (by omega) (by omega)]
  exact ⟨⟨j + 1, by omega, by omega, c14⟩, by simp only []; omega⟩
end Go.Proofs.YtfcfkhbkkfpehaaDoor
end
section
/- The document's flows: New, May, Keep, Put, Mark. -/
namespace Go.Proofs.YtfcfkhbkkfpehaaDoor
open Go Go.RowKit Go.X
/-! ### Rows of equal elements -/
abbrev Pr := (Int × Int) × Int
structure Rf where
 fr : Int
 se : Int
 most : Int
 sets : List Int
 pairs : List Pr
end Go.Proofs.YtfcfkhbkkfpehaaDoor
end
