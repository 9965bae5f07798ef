/- Texts of the claim, merged: XQ1 XHist1 XHist2 XHist3 XWhen XRoots1 XRoots2 XQ2. -/
import Derived.Test.YtfcfkhbkkfpehaaDoorXR1
import Derived.Test.YtfcfkhbkkfpehaaDoorProg
import Derived.Laws.Externs
import Derived.Laws.Cover3
set_option linter.unusedSimpArgs false
set_option linter.unusedVariables false
section
namespace Go.Proofs.YtfcfkhbkkfpehaaDoor
open Go Go.X
/- pomander/query.New -/
def W_query_New  (w : World) (R : (Option Addr) → World → Prop) : Prop :=
 ∀ b1 : Nat, b1 = World.size w → ∀ w1 : World, w1 = World.alloc w (.map #[] 0) → (∀ b2 : Nat, b2 = World.size w1 → ∀ w2 : World, w2 = World.alloc w1 (.cells #[.map (some b1), .int .i64 0, .int .i64 0] 59) → (R (some (⟨b2, 0, none⟩ : Addr)) w2))
set_option maxRecDepth 100000 in
theorem go_query_New  (w : World) (R : (Option Addr) → World → Prop) (h : W_query_New  w R) : Calls Tryd.prog 8 #[] w (fun e w' => ∃ (r1 : Option Addr), e = .returned (.pointer r1) ∧ R r1 w') := by
 unfold W_query_New at h
 refine enter (N := 4) Tryd.func8 rfl rfl ?_
 refine CW.seq ?_
 refine CW.region fun L hL => ?_
 refine LW.rd hL rfl (Wants.free rfl) rfl (Rd.assign (v := .pointer none) rfl) ?_
 refine LW.nil hL rfl ?_
 refine NW.then ?_
 refine CW.seq ?_
 refine CW.region fun L hL => ?_
 obtain ⟨b1, hb_b1⟩ : ∃ b1, b1 = World.size w := ⟨_, rfl⟩
 obtain ⟨w1, hw_w1⟩ : ∃ w1, w1 = World.alloc w (.map #[] 0) := ⟨_, rfl⟩
 replace h := h b1 hb_b1 w1 hw_w1
 refine LW.val hL rfl (Wants.free rfl) rfl (mapE hb_b1 hw_w1 Vl.makeMap) ?_
 refine LW.rd hL rfl (Wants.free rfl) rfl (Rd.build (v := .agg #[.map (some b1), .int .i64 0, .int .i64 0]) rfl (fun _ => by kernel_rfl)) ?_
 obtain ⟨b2, hb_b2⟩ : ∃ b2, b2 = World.size w1 := ⟨_, rfl⟩
 obtain ⟨w2, hw_w2⟩ : ∃ w2, w2 = World.alloc w1 (.cells #[.map (some b1), .int .i64 0, .int .i64 0] 59) := ⟨_, rfl⟩
 replace h := h b2 hb_b2 w2 hw_w2
 refine LW.val hL rfl (Wants.free rfl) rfl (boxE hb_b2 hw_w2 (Vl.box (v := .agg #[.map (some b1), .int .i64 0, .int .i64 0]) rfl)) ?_
 refine LW.rd hL rfl (Wants.free rfl) rfl (Rd.assign (v := .pointer (some (⟨b2, 0, none⟩ : Addr))) rfl) ?_
 refine LW.nil hL rfl ?_
 refine NW.then ?_
 refine CW.ret ?_
 exact res1 rfl rfl ⟨some (⟨b2, 0, none⟩ : Addr), rfl, h⟩
/- (*pomander/query.History).Add -/
def W_query_History_Add (h1 : Option Addr) (step1 : Int) (l1 : Option Addr) (l1n : Nat) (l1c : Nat) (w : World) (R : Int → World → Prop) : Prop :=
 ∃ J1 : Int → World → Prop, (∀ (ev1 : Int) (w1 : World), J1 ev1 w1 → R ev1 w1) ∧ (∃ (I1 : Int → Int → World → Prop) (m1 : Int → Int → World → Nat), I1 0 0 w ∧ ∀ (many1 : Int) (x1 : Int) (w2 : World), I1 many1 x1 w2 → ((decide (x1 < (l1n : Int))) = true → ∃ J2 : Int → World → Prop, (∀ (many2 : Int) (w3 : World), J2 many2 w3 → (I1 many2 (IntKind.wrap .i64 (x1 + 1)) w3 ∧ m1 many2 (IntKind.wrap .i64 (x1 + 1)) w3 < m1 many1 x1 w2)) ∧ (∃ a1 : Addr, l1 = some a1 ∧ (0 : Int) ≤ x1 ∧ x1 < (l1n : Int) ∧ (∃ (t1 : Int) (t2 : Int) (t3 : Option Addr) (t3n : Nat) (t3c : Nat), CellsAt w2 (a1.add (Int.toNat x1 * 3)) 0 [.int .i64 t1, .int .i64 t2, .slice t3 t3n t3c] ∧ (∀ (b1 : Nat) (w5 : World), (w2.heap.size ≤ b1 ∧ b1 < w5.heap.size) → Chg [] w2 w5 → (((!((t1 == 0) && (t2 == 0))) = true → J2 (IntKind.wrap .i64 (many1 + 1)) w5) ∧ ((!((t1 == 0) && (t2 == 0))) = false → J2 many1 w5)))))) ∧ ((decide (x1 < (l1n : Int))) = false → Calls Tryd.prog 20 #[.pointer h1] w2 fun e w6 => ∃ (r2 : Bool), e = .returned (.bool r2) ∧ ((r2 = true → J1 1 w6) ∧ (r2 = false → ∃ J3 : Bool → World → Prop, (∀ (b2 : Bool) (w7 : World), J3 b2 w7 → (b2 = true → J1 2 w7) ∧ (b2 = false → ∃ a3 : Addr, h1 = some a3 ∧ (∃ (t5 : Int), w7.cell? (a3.add 1) = some (.int .i64 t5) ∧ (((decide ((IntKind.wrap .i64 (t5 + many1)) > 1048576)) = true → J1 3 w7) ∧ ((decide ((IntKind.wrap .i64 (t5 + many1)) > 1048576)) = false → ∃ (I2 : Int → World → Prop) (m2 : Int → World → Nat), I2 0 w7 ∧ ∀ (x2 : Int) (w8 : World), I2 x2 w8 → ((decide (x2 < (l1n : Int))) = true → ∃ J4 : World → Prop, (∀ (w9 : World), J4 w9 → (I2 (IntKind.wrap .i64 (x2 + 1)) w9 ∧ m2 (IntKind.wrap .i64 (x2 + 1)) w9 < m2 x2 w8)) ∧ (∃ a4 : Addr, l1 = some a4 ∧ (0 : Int) ≤ x2 ∧ x2 < (l1n : Int) ∧ (∃ (t6 : Int) (t7 : Int) (t8 : Option Addr) (t8n : Nat) (t8c : Nat), CellsAt w8 (a4.add (Int.toNat x2 * 3)) 0 [.int .i64 t6, .int .i64 t7, .slice t8 t8n t8c] ∧ (∀ (b3 : Nat) (w11 : World), (w8.heap.size ≤ b3 ∧ b3 < w11.heap.size) → Chg [] w8 w11 → (((!((t6 == 0) && (t7 == 0))) = true → ∀ (w12 : World), Chg [] w11 w12 → (∃ (t9 : Option Nat), w12.cell? a3 = some (.map t9) ∧ (Calls Tryd.prog 21 #[.agg #[.int .i64 step1, .int .i64 t6, .int .i64 t7, .slice t8 t8n t8c]] w12 fun e w13 => ∃ (r3 : Int) (r4 : Int) (r5 : Int) (r6 : Option Addr) (r6n : Nat) (r6c : Nat), e = .returned (.agg #[.int .i64 r3, .int .i64 r4, .int .i64 r5, .slice r6 r6n r6c]) ∧ ((w13.cell? a3 = some (.map t9)) ∧ (Same w12 w13 [b3] ∧ (∀ b4 : Nat, b4 = World.size w13 → ∀ w14 : World, w14 = World.alloc w13 (.cells #[.int .i64 r3, .int .i64 r4, .int .i64 r5, .slice r6 r6n r6c] 50) → (∃ (v1 : Option Addr) (v1n : Nat) (v1c : Nat) (s3 : Int) (w15 : World), (Instr.mapEntry 57 (.map t9) (.agg #[.int .i64 t6, .int .i64 t7])).run Tryd.prog w14 = .ok (.tuple #[.slice v1 v1n v1c, .int .i64 s3]) w15 ∧ ((w15.cell? a3 = some (.map t9)) ∧ (Same w14 w15 [b3] ∧ (∃ (l2 : Option Addr) (l2n : Nat) (l2c : Nat) (w16 : World), (Builtin.append_ #[39, 39] 39 #[.slice v1 v1n v1c, .slice (some (⟨b4, 0, none⟩ : Addr)) 1 1]).run Tryd.prog w15 = .ok (.slice l2 l2n l2c) w16 ∧ ((w16.cell? a3 = some (.map t9)) ∧ (Same w15 w16 [b3] ∧ (∃ w17 : World, (Instr.entryStore 57 (.map t9) (.int .i64 s3) (.slice l2 l2n l2c)).run Tryd.prog w16 = .ok () w17 ∧ ((∃ o : Value, w17.cell? (a3.add 2) = some o) ∧ w17.frozen? (a3.add 2) = false ∧ ∀ w18 : World, w18 = World.setCell w17 (a3.add 2) (.int .i64 step1) → (J4 w18))))))))))))))) ∧ ((!((t6 == 0) && (t7 == 0))) = false → J4 w11)))))) ∧ ((decide (x2 < (l1n : Int))) = false → ∃ (t10 : Int), w8.cell? (a3.add 1) = some (.int .i64 t10) ∧ ((∃ o : Value, w8.cell? (a3.add 1) = some o) ∧ w8.frozen? (a3.add 1) = false ∧ ∀ w19 : World, w19 = World.setCell w8 (a3.add 1) (.int .i64 (IntKind.wrap .i64 (t10 + many1))) → (R 0 w19)))))))) ∧ (((decide (step1 < 0)) = false → ∃ a2 : Addr, h1 = some a2 ∧ (∃ (t4 : Int), w6.cell? (a2.add 2) = some (.int .i64 t4) ∧ (J3 (decide (step1 < t4)) w6))) ∧ ((decide (step1 < 0)) = true → J3 true w6))))))
set_option maxRecDepth 100000 in
theorem go_query_History_Add (h1 : Option Addr) (step1 : Int) (l1 : Option Addr) (l1n : Nat) (l1c : Nat) (w : World) (R : Int → World → Prop) (h : W_query_History_Add h1 step1 l1 l1n l1c w R) : Calls Tryd.prog 9 #[.pointer h1, .int .i64 step1, .slice l1 l1n l1c] w (fun e w' => ∃ (r1 : Int), e = .returned (.int .i64 r1) ∧ R r1 w') := by
 unfold W_query_History_Add at h
 refine enter (N := 86) Tryd.func9 rfl rfl ?_
 refine CW.seq ?_
 refine CW.region fun L hL => ?_
 refine LW.rd hL rfl (Wants.free rfl) rfl (Rd.assign (v := .int .i64 0) rfl) ?_
 refine LW.nil hL rfl ?_
 refine NW.then ?_
 obtain ⟨J1, hJ1, h⟩ := h
 refine CW.scope (S := Int) 0 (fun ev1 => [(6, .int .i64 ev1)]) (fun ev1 w1 => J1 ev1 w1) rfl (fun ev1 w1 h_ => ?_) ?_
 ·replace h := hJ1 ev1 w1 h_; clear h_
  refine CW.seq ?_
  refine CW.skip ?_
  refine NW.then ?_
  refine CW.seq ?_
  refine CW.region fun L hL => ?_
  refine LW.rd hL rfl (Wants.free rfl) rfl (Rd.move (v := .int .i64 ev1) rfl) ?_
  refine LW.rd hL rfl (Wants.free rfl) rfl (Rd.assign (v := .int .i64 ev1) rfl) ?_
  refine LW.nil hL rfl ?_
  refine NW.then ?_
  refine CW.ret ?_
  refine RW.jump ?_
  exact res1 rfl rfl ⟨ev1, rfl, h⟩
 ·skip
  refine CW.seq ?_
  refine CW.region fun L hL => ?_
  refine LW.rd hL rfl (Wants.free rfl) rfl (Rd.assign (v := .int .i64 0) rfl) ?_
  refine LW.nil hL rfl ?_
  refine NW.then ?_
  refine CW.seq ?_
  refine CW.seq ?_
  refine CW.region fun L hL => ?_
  refine LW.rd hL rfl (Wants.free rfl) rfl (Rd.move (v := .slice l1 l1n l1c) rfl) ?_
  refine LW.rd hL rfl (Wants.free rfl) rfl (Rd.builtin (v := .int .i64 (l1n : Int)) rfl (fun _ _ => by kernel_rfl)) ?_
  refine LW.rd hL rfl (Wants.free rfl) rfl (Rd.move (v := .int .i64 0) rfl) ?_
  refine LW.nil hL rfl ?_
  refine NW.then ?_
  refine CW.block ?_
  obtain ⟨I1, m1, hI1, h⟩ := h
  refine CW.loop (S := Int × Int) (fun s1 => [(0, .pointer h1), (1, .int .i64 step1), (2, .slice l1 l1n l1c), (6, .int .i64 0), (12, .slice l1 l1n l1c), (13, .int .i64 (l1n : Int)), (7, .int .i64 s1.1), (14, .int .i64 s1.2)]) (fun s1 w2 => I1 s1.1 s1.2 w2) (fun s1 w2 => m1 s1.1 s1.2 w2) (0, 0) (by exact ⟨rfl, rfl, rfl, rfl, rfl, rfl, rfl, rfl, trivial⟩) hI1 (fun s1 w2 hI1 => ?_)
  obtain ⟨many1, x1⟩ := s1; replace h := h many1 x1 w2 hI1
  refine CW.seq ?_
  refine CW.region fun L hL => ?_
  refine LW.rd hL rfl (Wants.free rfl) rfl (Rd.bin (v := .bool (decide (x1 < (l1n : Int)))) rfl rfl (fun w => by kernel_rfl)) ?_
  refine LW.nil hL rfl ?_
  refine NW.then ?_
  refine CW.seq ?_
  refine CW.cond rfl (fun hb1 => ?_) (fun hb1 => ?_)
  ·replace h := h.1 hb1
   refine CW.skip ?_
   refine NW.then ?_
   obtain ⟨J2, hJ2, h⟩ := h
   refine CW.cut (S := Int) (fun many2 => [(0, .pointer h1), (1, .int .i64 step1), (2, .slice l1 l1n l1c), (6, .int .i64 0), (12, .slice l1 l1n l1c), (13, .int .i64 (l1n : Int)), (14, .int .i64 x1), (7, .int .i64 many2)]) (fun many2 w3 => J2 many2 w3) (fun many2 w3 h_ => ?_) ?_
   ·replace h := hJ2 many2 w3 h_; clear h_
    refine CW.region fun L hL => ?_
    refine LW.rd hL rfl (Wants.free rfl) rfl (Rd.bin (v := .int .i64 (IntKind.wrap .i64 (x1 + 1))) rfl rfl (fun w => by kernel_rfl)) ?_
    refine LW.rd hL rfl (Wants.free rfl) rfl (Rd.move (v := .int .i64 (IntKind.wrap .i64 (x1 + 1))) rfl) ?_
    refine LW.nil hL rfl ?_
    exact NW.loop (S := Int × Int) (Ek := fun s1 => [(0, .pointer h1), (1, .int .i64 step1), (2, .slice l1 l1n l1c), (6, .int .i64 0), (12, .slice l1 l1n l1c), (13, .int .i64 (l1n : Int)), (7, .int .i64 s1.1), (14, .int .i64 s1.2)]) (many2, IntKind.wrap .i64 (x1 + 1)) (by exact ⟨rfl, rfl, rfl, rfl, rfl, rfl, rfl, rfl, trivial⟩) h
   ·skip
    refine CW.block ?_
    refine CW.seq ?_
    refine CW.region fun L hL => ?_
    obtain ⟨a1, he1, hi1, hi2, h⟩ := h
    refine LW.rd hL rfl (Wants.free rfl) rfl (Rd.iaS (q := a1) (sz := 3) (by rw [← he1]; rfl) rfl Tryd.underlying45 (by kernel_rfl) hi1 hi2) ?_
    obtain ⟨t1, t2, t3, t3n, t3c, hc1, h⟩ := h
    refine LW.rd hL rfl (Wants.free rfl) rfl (Rd.ldN (cs := [.int .i64 t1, .int .i64 t2, .slice t3 t3n t3c]) rfl (by kernel_rfl) (by kernel_rfl) (cellsS hc1)) ?_
    obtain ⟨b1, hb_b1⟩ : ∃ b1, b1 = World.size w2 := ⟨_, rfl⟩
    obtain ⟨w4, hw_w4⟩ : ∃ w4, w4 = World.alloc w2 (.cells #[.int .i64 0, .int .i64 0, .slice none 0 0] 33) := ⟨_, rfl⟩
    refine LW.val hL rfl (Wants.free rfl) rfl (boxE hb_b1 hw_w4 (Vl.alloc (z := .agg #[.int .i64 0, .int .i64 0, .slice none 0 0]) (by kernel_rfl))) ?_
    have hB := Boxes.alloc (cs := [.int .i64 0, .int .i64 0, .slice none 0 0]) (T := 33) (Boxes.nil w2) hb_b1 hw_w4
    have hlo_b1 := sil_lo (Chg.refl [] w2) hb_b1
    have hc_w4 := sil_alloc (Chg.refl [] w2) hw_w4
    obtain ⟨w5, hw_w5⟩ : ∃ x, x = setCells w4 (⟨b1, 0, none⟩ : Addr) 0 [.int .i64 t1, .int .i64 t2, .slice t3 t3n t3c] := ⟨_, rfl⟩
    refine LW.eff hL rfl (Wants.free rfl) rfl (stNE hw_w5 (Ef.stN (cs := [.int .i64 t1, .int .i64 t2, .slice t3 t3n t3c]) rfl rfl (by kernel_rfl) (List.forall_mem_cons.2 ⟨rfl, (List.forall_mem_cons.2 ⟨rfl, (List.forall_mem_cons.2 ⟨rfl, (List.forall_mem_nil _)⟩)⟩)⟩) (has_of (hB.at (i := 0) rfl) (by simp)) (free_of' (hB.at (i := 0) rfl)))) ?_
    replace hB : Boxes w5 [(b1, [.int .i64 t1, .int .i64 t2, .slice t3 t3n t3c], 33)] := Boxes.store (vs := [.int .i64 t1, .int .i64 t2, .slice t3 t3n t3c]) (i := 0) (o := 0) hB rfl rfl rfl rfl hw_w5
    have hc_w5 := sil_new hc_w4 (sil_cN hw_w5) hlo_b1
    refine LW.nil hL rfl ?_
    refine NW.then ?_
    refine CW.seq ?_
    refine CW.region fun L hL => ?_
    refine LW.rd hL rfl (Wants.free rfl) rfl (Rd.fa (v := .pointer (some (⟨b1, 0, none⟩ : Addr))) rfl (fun _ => by kernel_rfl)) ?_
    refine LW.rd hL rfl (Wants.free rfl) rfl (Rd.ldN (cs := [.int .i64 t1, .int .i64 t2]) rfl (by kernel_rfl) (by kernel_rfl) (cellsS (box_cells (hB.at (i := 0) rfl) rfl))) ?_
    refine LW.rd hL rfl (Wants.free rfl) rfl (Rd.build (v := .agg #[.int .i64 0, .int .i64 0]) rfl (fun _ => by kernel_rfl)) ?_
    refine LW.rd hL rfl (Wants.free rfl) rfl (Rd.bin (v := .bool (!((t1 == 0) && (t2 == 0)))) rfl rfl (fun w => neS_27 _ _ _ _ w)) ?_
    refine LW.nil hL rfl ?_
    refine NW.then ?_
    replace h := h b1 w5 ⟨hlo_b1, lt_of_heap (hB.at (i := 0) rfl)⟩ hc_w5
    refine CW.cond rfl (fun hb2 => ?_) (fun hb2 => ?_)
    ·replace h := h.1 hb2
     refine CW.region fun L hL => ?_
     refine LW.rd hL rfl (Wants.free rfl) rfl (Rd.move (v := .int .i64 many1) rfl) ?_
     refine LW.rd hL rfl (Wants.free rfl) rfl (Rd.bin (v := .int .i64 (IntKind.wrap .i64 (many1 + 1))) rfl rfl (fun w => by kernel_rfl)) ?_
     refine LW.rd hL rfl (Wants.free rfl) rfl (Rd.assign (v := .int .i64 (IntKind.wrap .i64 (many1 + 1))) rfl) ?_
     refine LW.nil hL rfl ?_
     refine NW.block ?_
     exact NW.cut (S := Int) (Ek := fun many2 => [(0, .pointer h1), (1, .int .i64 step1), (2, .slice l1 l1n l1c), (6, .int .i64 0), (12, .slice l1 l1n l1c), (13, .int .i64 (l1n : Int)), (14, .int .i64 x1), (7, .int .i64 many2)]) (IntKind.wrap .i64 (many1 + 1)) (by exact ⟨rfl, rfl, rfl, rfl, rfl, rfl, rfl, rfl, trivial⟩) h
    ·replace h := h.2 hb2
     refine CW.skip ?_
     refine NW.block ?_
     exact NW.cut (S := Int) (Ek := fun many2 => [(0, .pointer h1), (1, .int .i64 step1), (2, .slice l1 l1n l1c), (6, .int .i64 0), (12, .slice l1 l1n l1c), (13, .int .i64 (l1n : Int)), (14, .int .i64 x1), (7, .int .i64 many2)]) many1 (by exact ⟨rfl, rfl, rfl, rfl, rfl, rfl, rfl, rfl, trivial⟩) h
  ·replace h := h.2 hb1
   refine CW.exit ?_
   refine XW.then ?_
   refine XW.then ?_
   refine XW.hit ?_
   refine NW.then ?_
   refine CW.seq ?_
   refine CW.seq ?_
   refine CW.region fun L hL => ?_
   refine LW.rd hL rfl (Wants.free rfl) rfl (Rd.assign (v := .int .i64 1) rfl) ?_
   refine LW.nil hL rfl ?_
   refine NW.then ?_
   refine CW.seq ?_
   refine CW.region fun L hL => ?_
   refine LW.rd hL rfl (Wants.free rfl) rfl (Rd.move (v := .pointer h1) rfl) ?_
   refine LW.call hL rfl (Wants.free rfl) rfl (Cl.fn (f := 20) rfl Tryd.func20 (by kernel_rfl) rfl) h (fun e w6 h_ => ?_)
   clear h
   obtain ⟨r2, rfl, h⟩ := h_
   refine ⟨_, rfl, ?_⟩
   refine LW.nil hL rfl ?_
   refine NW.then ?_
   refine CW.cond rfl (fun hb3 => ?_) (fun hb3 => ?_)
   ·replace h := h.1 hb3
    refine CW.goto ?_
    refine GW.then ?_
    exact GW.hit (S := Int) (Ek := fun ev1 => [(6, .int .i64 ev1)]) 1 (by exact ⟨rfl, trivial⟩) h
   ·replace h := h.2 hb3
    refine CW.skip ?_
    refine NW.then ?_
    refine CW.seq ?_
    refine CW.seq ?_
    refine CW.region fun L hL => ?_
    refine LW.rd hL rfl (Wants.free rfl) rfl (Rd.assign (v := .int .i64 2) rfl) ?_
    refine LW.nil hL rfl ?_
    refine NW.then ?_
    refine CW.seq ?_
    refine CW.region fun L hL => ?_
    refine LW.rd hL rfl (Wants.free rfl) rfl (Rd.move (v := .int .i64 step1) rfl) ?_
    refine LW.rd hL rfl (Wants.free rfl) rfl (Rd.bin (v := .bool (decide (step1 < 0))) rfl rfl (fun w => by kernel_rfl)) ?_
    refine LW.rd hL rfl (Wants.free rfl) rfl (Rd.move (v := .bool (decide (step1 < 0))) rfl) ?_
    obtain ⟨J3, hJ3, h1_J3, h0_J3⟩ := h
    suffices K1 : ∀ (b2 : Bool) (w7 : World), J3 b2 w7 → L 10 [(0, .pointer h1), (1, .int .i64 step1), (2, .slice l1 l1n l1c), (6, .int .i64 2), (7, .int .i64 many1), (36, .bool b2)] w7 by
     rcases Bool.eq_false_or_eq_true (decide (step1 < 0)) with hb4 | hb4
     ·have h := h0_J3 hb4
      refine LW.skip hL rfl (Skips.on rfl rfl rfl rfl rfl hb4) rfl ?_
      refine LW.skip hL rfl (Skips.on rfl rfl rfl rfl rfl hb4) rfl ?_
      refine LW.skip hL rfl (Skips.on rfl rfl rfl rfl rfl hb4) rfl ?_
      refine LW.skip hL rfl (Skips.on rfl rfl rfl rfl rfl hb4) rfl ?_
      refine LW.skip hL rfl (Skips.on rfl rfl rfl rfl rfl hb4) rfl ?_
      refine LW.skip hL rfl (Skips.on rfl rfl rfl rfl rfl hb4) rfl ?_
      refine LW.rd hL rfl (Wants.free rfl) rfl (Rd.pickT rfl hb4 rfl) ?_
      exact LW.sub hL (by exact ⟨rfl, rfl, rfl, rfl, rfl, rfl, trivial⟩) (K1 true w6 h)
     ·have h := h1_J3 hb4
      refine LW.rd hL rfl (Wants.on rfl rfl rfl rfl rfl hb4) rfl (Rd.move (v := .int .i64 step1) rfl) ?_
      refine LW.rd hL rfl (Wants.on rfl rfl rfl rfl rfl hb4) rfl (Rd.move (v := .pointer h1) rfl) ?_
      obtain ⟨a2, ha1, h⟩ := h
      refine LW.rd hL rfl (Wants.on rfl rfl rfl rfl rfl hb4) rfl (Rd.nil (q := a2) (by rw [← ha1]; rfl)) ?_
      refine LW.rd hL rfl (Wants.on rfl rfl rfl rfl rfl hb4) rfl (Rd.fa (v := .pointer (some (a2.add 2))) rfl (fun _ => by kernel_rfl)) ?_
      obtain ⟨t4, hc2, h⟩ := h
      refine LW.rd hL rfl (Wants.on rfl rfl rfl rfl rfl hb4) rfl (Rd.ld (v := .int .i64 t4) rfl (by kernel_rfl) (eqs hc2)) ?_
      refine LW.rd hL rfl (Wants.on rfl rfl rfl rfl rfl hb4) rfl (Rd.bin (v := .bool (decide (step1 < t4))) rfl rfl (fun w => by kernel_rfl)) ?_
      refine LW.rd hL rfl (Wants.free rfl) rfl (Rd.pickF rfl hb4 rfl) ?_
      exact LW.sub hL (by exact ⟨rfl, rfl, rfl, rfl, rfl, rfl, trivial⟩) (K1 (decide (step1 < t4)) w6 h)
    intro b2 w7 h_
    have h := hJ3 b2 w7 h_; clear h_
    refine LW.nil hL rfl ?_
    refine NW.then ?_
    refine CW.cond rfl (fun hb5 => ?_) (fun hb5 => ?_)
    ·replace h := h.1 hb5
     refine CW.goto ?_
     refine GW.then ?_
     exact GW.hit (S := Int) (Ek := fun ev1 => [(6, .int .i64 ev1)]) 2 (by exact ⟨rfl, trivial⟩) h
    ·replace h := h.2 hb5
     refine CW.skip ?_
     refine NW.then ?_
     refine CW.seq ?_
     refine CW.seq ?_
     refine CW.region fun L hL => ?_
     refine LW.rd hL rfl (Wants.free rfl) rfl (Rd.assign (v := .int .i64 3) rfl) ?_
     refine LW.nil hL rfl ?_
     refine NW.then ?_
     refine CW.seq ?_
     refine CW.region fun L hL => ?_
     refine LW.rd hL rfl (Wants.free rfl) rfl (Rd.move (v := .pointer h1) rfl) ?_
     obtain ⟨a3, ha2, h⟩ := h
     refine LW.rd hL rfl (Wants.free rfl) rfl (Rd.nil (q := a3) (by rw [← ha2]; rfl)) ?_
     refine LW.rd hL rfl (Wants.free rfl) rfl (Rd.fa (v := .pointer (some (a3.add 1))) rfl (fun _ => by kernel_rfl)) ?_
     obtain ⟨t5, hc3, h⟩ := h
     refine LW.rd hL rfl (Wants.free rfl) rfl (Rd.ld (v := .int .i64 t5) rfl (by kernel_rfl) (eqs hc3)) ?_
     refine LW.rd hL rfl (Wants.free rfl) rfl (Rd.move (v := .int .i64 many1) rfl) ?_
     refine LW.rd hL rfl (Wants.free rfl) rfl (Rd.bin (v := .int .i64 (IntKind.wrap .i64 (t5 + many1))) rfl rfl (fun w => by kernel_rfl)) ?_
     refine LW.rd hL rfl (Wants.free rfl) rfl (Rd.bin (v := .bool (decide ((IntKind.wrap .i64 (t5 + many1)) > 1048576))) rfl rfl (fun w => by kernel_rfl)) ?_
     refine LW.nil hL rfl ?_
     refine NW.then ?_
     refine CW.cond rfl (fun hb6 => ?_) (fun hb6 => ?_)
     ·replace h := h.1 hb6
      refine CW.goto ?_
      refine GW.then ?_
      exact GW.hit (S := Int) (Ek := fun ev1 => [(6, .int .i64 ev1)]) 3 (by exact ⟨rfl, trivial⟩) h
     ·replace h := h.2 hb6
      refine CW.skip ?_
      refine NW.then ?_
      refine CW.seq ?_
      refine CW.seq ?_
      refine CW.region fun L hL => ?_
      refine LW.rd hL rfl (Wants.free rfl) rfl (Rd.move (v := .slice l1 l1n l1c) rfl) ?_
      refine LW.rd hL rfl (Wants.free rfl) rfl (Rd.builtin (v := .int .i64 (l1n : Int)) rfl (fun _ _ => by kernel_rfl)) ?_
      refine LW.rd hL rfl (Wants.free rfl) rfl (Rd.move (v := .int .i64 0) rfl) ?_
      refine LW.nil hL rfl ?_
      refine NW.then ?_
      refine CW.block ?_
      obtain ⟨I2, m2, hI2, h⟩ := h
      refine CW.loop (S := Int) (fun x2 => [(0, .pointer h1), (1, .int .i64 step1), (6, .int .i64 3), (7, .int .i64 many1), (44, .slice l1 l1n l1c), (45, .int .i64 (l1n : Int)), (46, .int .i64 x2)]) (fun x2 w8 => I2 x2 w8) (fun x2 w8 => m2 x2 w8) 0 (by exact ⟨rfl, rfl, rfl, rfl, rfl, rfl, rfl, trivial⟩) hI2 (fun x2 w8 hI2 => ?_)
      replace h := h x2 w8 hI2
      refine CW.seq ?_
      refine CW.region fun L hL => ?_
      refine LW.rd hL rfl (Wants.free rfl) rfl (Rd.bin (v := .bool (decide (x2 < (l1n : Int)))) rfl rfl (fun w => by kernel_rfl)) ?_
      refine LW.nil hL rfl ?_
      refine NW.then ?_
      refine CW.seq ?_
      refine CW.cond rfl (fun hb7 => ?_) (fun hb7 => ?_)
      ·replace h := h.1 hb7
       refine CW.skip ?_
       refine NW.then ?_
       obtain ⟨J4, hJ4, h⟩ := h
       refine CW.cut (S := Unit) (fun s2 => [(0, .pointer h1), (1, .int .i64 step1), (6, .int .i64 3), (7, .int .i64 many1), (44, .slice l1 l1n l1c), (45, .int .i64 (l1n : Int)), (46, .int .i64 x2)]) (fun s2 w9 => J4 w9) (fun s2 w9 h_ => ?_) ?_
       ·replace h := hJ4 w9 h_; clear h_
        refine CW.region fun L hL => ?_
        refine LW.rd hL rfl (Wants.free rfl) rfl (Rd.bin (v := .int .i64 (IntKind.wrap .i64 (x2 + 1))) rfl rfl (fun w => by kernel_rfl)) ?_
        refine LW.rd hL rfl (Wants.free rfl) rfl (Rd.move (v := .int .i64 (IntKind.wrap .i64 (x2 + 1))) rfl) ?_
        refine LW.nil hL rfl ?_
        exact NW.loop (S := Int) (Ek := fun x2 => [(0, .pointer h1), (1, .int .i64 step1), (6, .int .i64 3), (7, .int .i64 many1), (44, .slice l1 l1n l1c), (45, .int .i64 (l1n : Int)), (46, .int .i64 x2)]) (IntKind.wrap .i64 (x2 + 1)) (by exact ⟨rfl, rfl, rfl, rfl, rfl, rfl, rfl, trivial⟩) h
       ·skip
        refine CW.block ?_
        refine CW.seq ?_
        refine CW.region fun L hL => ?_
        obtain ⟨a4, he2, hi3, hi4, h⟩ := h
        refine LW.rd hL rfl (Wants.free rfl) rfl (Rd.iaS (q := a4) (sz := 3) (by rw [← he2]; rfl) rfl Tryd.underlying45 (by kernel_rfl) hi3 hi4) ?_
        obtain ⟨t6, t7, t8, t8n, t8c, hc4, h⟩ := h
        refine LW.rd hL rfl (Wants.free rfl) rfl (Rd.ldN (cs := [.int .i64 t6, .int .i64 t7, .slice t8 t8n t8c]) rfl (by kernel_rfl) (by kernel_rfl) (cellsS hc4)) ?_
        obtain ⟨b3, hb_b3⟩ : ∃ b3, b3 = World.size w8 := ⟨_, rfl⟩
        obtain ⟨w10, hw_w10⟩ : ∃ w10, w10 = World.alloc w8 (.cells #[.int .i64 0, .int .i64 0, .slice none 0 0] 33) := ⟨_, rfl⟩
        refine LW.val hL rfl (Wants.free rfl) rfl (boxE hb_b3 hw_w10 (Vl.alloc (z := .agg #[.int .i64 0, .int .i64 0, .slice none 0 0]) (by kernel_rfl))) ?_
        have hB := Boxes.alloc (cs := [.int .i64 0, .int .i64 0, .slice none 0 0]) (T := 33) (Boxes.nil w8) hb_b3 hw_w10
        have hlo_b3 := sil_lo (Chg.refl [] w8) hb_b3
        have hc_w10 := sil_alloc (Chg.refl [] w8) hw_w10
        obtain ⟨w11, hw_w11⟩ : ∃ x, x = setCells w10 (⟨b3, 0, none⟩ : Addr) 0 [.int .i64 t6, .int .i64 t7, .slice t8 t8n t8c] := ⟨_, rfl⟩
        refine LW.eff hL rfl (Wants.free rfl) rfl (stNE hw_w11 (Ef.stN (cs := [.int .i64 t6, .int .i64 t7, .slice t8 t8n t8c]) rfl rfl (by kernel_rfl) (List.forall_mem_cons.2 ⟨rfl, (List.forall_mem_cons.2 ⟨rfl, (List.forall_mem_cons.2 ⟨rfl, (List.forall_mem_nil _)⟩)⟩)⟩) (has_of (hB.at (i := 0) rfl) (by simp)) (free_of' (hB.at (i := 0) rfl)))) ?_
        replace hB : Boxes w11 [(b3, [.int .i64 t6, .int .i64 t7, .slice t8 t8n t8c], 33)] := Boxes.store (vs := [.int .i64 t6, .int .i64 t7, .slice t8 t8n t8c]) (i := 0) (o := 0) hB rfl rfl rfl rfl hw_w11
        have hc_w11 := sil_new hc_w10 (sil_cN hw_w11) hlo_b3
        refine LW.nil hL rfl ?_
        refine NW.then ?_
        refine CW.seq ?_
        refine CW.region fun L hL => ?_
        refine LW.rd hL rfl (Wants.free rfl) rfl (Rd.fa (v := .pointer (some (⟨b3, 0, none⟩ : Addr))) rfl (fun _ => by kernel_rfl)) ?_
        refine LW.rd hL rfl (Wants.free rfl) rfl (Rd.ldN (cs := [.int .i64 t6, .int .i64 t7]) rfl (by kernel_rfl) (by kernel_rfl) (cellsS (box_cells (hB.at (i := 0) rfl) rfl))) ?_
        refine LW.rd hL rfl (Wants.free rfl) rfl (Rd.build (v := .agg #[.int .i64 0, .int .i64 0]) rfl (fun _ => by kernel_rfl)) ?_
        refine LW.rd hL rfl (Wants.free rfl) rfl (Rd.bin (v := .bool (!((t6 == 0) && (t7 == 0)))) rfl rfl (fun w => neS_27 _ _ _ _ w)) ?_
        refine LW.nil hL rfl ?_
        refine NW.then ?_
        replace h := h b3 w11 ⟨hlo_b3, lt_of_heap (hB.at (i := 0) rfl)⟩ hc_w11
        refine CW.cond rfl (fun hb8 => ?_) (fun hb8 => ?_)
        ·replace h := h.1 hb8
         refine CW.seq ?_
         obtain ⟨w12, hw_w12⟩ : ∃ x, x = World.drew w11 := ⟨_, rfl⟩
         have hc_w12 := sil_drew (Chg.refl [] w11) hw_w12
         replace hB := hB.drew hw_w12
         replace h := h  w12  hc_w12
         obtain ⟨t9, hc5, h⟩ := h
         refine CW.drawn (fun w => w.cell? a3 = some (.map t9) ∧ Boxes w [(b3, [.int .i64 t6, .int .i64 t7, .slice t8 t8n t8c], 33)]) 18 (by kernel_rfl) fun H hH => ?_
         rw [← hw_w12]
         have hS1 : w12.cell? a3 = some (.map t9) ∧ Boxes w12 [(b3, [.int .i64 t6, .int .i64 t7, .slice t8 t8n t8c], 33)] := ⟨hc5, hB⟩
         refine HW.pure (i := 0) hH rfl (by kernel_rfl) (Wants.free rfl) rfl (fun _ => hS1) (Rd.move (v := .pointer h1) rfl) ?_
         refine HW.pure (i := 1) hH rfl (by kernel_rfl) (Wants.free rfl) rfl (fun _ => hS1) (Rd.nil (q := a3) (by rw [← ha2]; rfl)) ?_
         refine HW.pure (i := 2) hH rfl (by kernel_rfl) (Wants.free rfl) rfl (fun _ => hS1) (Rd.fa (v := .pointer (some a3)) rfl (fun _ => by kernel_rfl)) ?_
         refine HW.take (i := 3) hH rfl (by kernel_rfl) (by kernel_rfl) (Wants.free rfl) rfl (fun _ => hS1) (Rd.ld (v := .map t9) rfl (by kernel_rfl) (fun w h => h.1)) ?_
         refine HW.pure (i := 4) hH rfl (by kernel_rfl) (Wants.free rfl) rfl (fun _ => hS1) (Rd.fa (v := .pointer (some (⟨b3, 0, none⟩ : Addr))) rfl (fun _ => by kernel_rfl)) ?_
         refine HW.take (i := 5) hH rfl (by kernel_rfl) (by kernel_rfl) (Wants.free rfl) rfl (fun _ => hS1) (Rd.ldN (cs := [.int .i64 t6, .int .i64 t7]) rfl (by kernel_rfl) (by kernel_rfl) (fun w h => cellsAt_get (box_cells (Boxes.at (i := 0) h.2 rfl) rfl))) ?_
         refine HW.pure (i := 6) hH rfl (by kernel_rfl) (Wants.free rfl) rfl (fun _ => hS1) (Rd.move (v := .int .i64 step1) rfl) ?_
         refine HW.pure (i := 7) hH rfl (by kernel_rfl) (Wants.free rfl) rfl (fun _ => hS1) (Rd.fa (v := .pointer (some (⟨b3, 0, none⟩ : Addr))) rfl (fun _ => by kernel_rfl)) ?_
         refine HW.take (i := 8) hH rfl (by kernel_rfl) (by kernel_rfl) (Wants.free rfl) rfl (fun _ => hS1) (Rd.ldN (cs := [.int .i64 t6, .int .i64 t7]) rfl (by kernel_rfl) (by kernel_rfl) (fun w h => cellsAt_get (box_cells (Boxes.at (i := 0) h.2 rfl) rfl))) ?_
         refine HW.pure (i := 9) hH rfl (by kernel_rfl) (Wants.free rfl) rfl (fun _ => hS1) (Rd.fa (v := .pointer (some (⟨b3, 2, none⟩ : Addr))) rfl (fun _ => by kernel_rfl)) ?_
         refine HW.take (i := 10) hH rfl (by kernel_rfl) (by kernel_rfl) (Wants.free rfl) rfl (fun _ => hS1) (Rd.ld (v := .slice t8 t8n t8c) rfl (by kernel_rfl) (fun w h => box_cell (Boxes.at (i := 0) h.2 rfl) rfl)) ?_
         refine HW.pure (i := 11) hH rfl (by kernel_rfl) (Wants.free rfl) rfl (fun _ => hS1) (Rd.build (v := .agg #[.int .i64 step1, .int .i64 t6, .int .i64 t7, .slice t8 t8n t8c]) rfl (fun _ => by kernel_rfl)) ?_
         refine HW.call (i := 12) hH (by kernel_rfl) rfl (Wants.free rfl) rfl (Cl.fn (f := 21) rfl Tryd.func21 (by kernel_rfl) rfl) h (fun e w13 h_ => ?_)
         clear h
         obtain ⟨r3, r4, r5, r6, r6n, r6c, rfl, hS2, h⟩ := h_
         obtain ⟨hsm1, h⟩ := h
         replace hB := Boxes.sameS hB hsm1 (by simp)
         have hS3 := (⟨hS2, hB⟩ : w13.cell? a3 = some (.map t9) ∧ Boxes w13 [(b3, [.int .i64 t6, .int .i64 t7, .slice t8 t8n t8c], 33)])
         refine ⟨_, rfl, (fun _ => hS3), ?_⟩
         obtain ⟨b4, hb_b4⟩ : ∃ b4, b4 = World.size w13 := ⟨_, rfl⟩
         obtain ⟨w14, hw_w14⟩ : ∃ w14, w14 = World.alloc w13 (.cells #[.int .i64 r3, .int .i64 r4, .int .i64 r5, .slice r6 r6n r6c] 50) := ⟨_, rfl⟩
         replace h := h b4 hb_b4 w14 hw_w14
         have hS4 := (⟨cellAlloc hw_w14 hS3.1, ((hS3.2).grow hw_w14)⟩ : w14.cell? a3 = some (.map t9) ∧ Boxes w14 [(b3, [.int .i64 t6, .int .i64 t7, .slice t8 t8n t8c], 33)])
         refine HW.val (i := 13) hH (by kernel_rfl) rfl (Wants.free rfl) rfl (sliceE (n := 1) hb_b4 hw_w14 (fun w => Vl.buildSlice (vs := [(0, .agg #[.int .i64 r3, .int .i64 r4, .int .i64 r5, .slice r6 r6n r6c])]) rfl (by kernel_rfl))) (fun _ => hS4) ?_
         replace hB := hB.grow hw_w14
         obtain ⟨v1, v1n, v1c, s3, w15, hm1, h⟩ := h
         obtain ⟨hS5, h⟩ := h
         obtain ⟨hsm2, h⟩ := h
         replace hB := Boxes.sameS hB hsm2 (by simp)
         have hS6 := (⟨hS5, hB⟩ : w15.cell? a3 = some (.map t9) ∧ Boxes w15 [(b3, [.int .i64 t6, .int .i64 t7, .slice t8 t8n t8c], 33)])
         refine HW.val (i := 14) hH (by kernel_rfl) rfl (Wants.free rfl) rfl (Vl.mapEntry (v := .tuple #[.slice v1 v1n v1c, .int .i64 s3]) rfl rfl hm1) (fun _ => hS6) ?_
         refine HW.pure (i := 15) hH rfl (by kernel_rfl) (Wants.free rfl) rfl (fun _ => hS6) (Rd.extract (v := .slice v1 v1n v1c) rfl rfl) ?_
         refine HW.pure (i := 17) hH rfl (by kernel_rfl) (Wants.free rfl) rfl (fun _ => hS6) (Rd.extract (v := .int .i64 s3) rfl rfl) ?_
         obtain ⟨l2, l2n, l2c, w16, ha3, h⟩ := h
         obtain ⟨hS7, h⟩ := h
         obtain ⟨hsm3, h⟩ := h
         replace hB := Boxes.sameS hB hsm3 (by simp)
         have hS8 := (⟨hS7, hB⟩ : w16.cell? a3 = some (.map t9) ∧ Boxes w16 [(b3, [.int .i64 t6, .int .i64 t7, .slice t8 t8n t8c], 33)])
         refine HW.val (i := 16) hH (by kernel_rfl) rfl (Wants.free rfl) rfl (Vl.builtin (v := .slice l2 l2n l2c) rfl (valB ha3)) (fun _ => hS8) ?_
         obtain ⟨w17, hm2, h⟩ := h
         refine HW.eff (i := 18) hH (by kernel_rfl) rfl (Wants.free rfl) rfl (Ef.entryStore rfl rfl rfl hm2) (fun hc => by cases hc) ?_
         refine HW.done hH (by kernel_rfl) ?_
         refine NW.then ?_
         refine CW.region fun L hL => ?_
         refine LW.rd hL rfl (Wants.free rfl) rfl (Rd.move (v := .pointer h1) rfl) ?_
         refine LW.rd hL rfl (Wants.free rfl) rfl (Rd.move (v := .int .i64 step1) rfl) ?_
         refine LW.rd hL rfl (Wants.free rfl) rfl (Rd.nil (q := a3) (by rw [← ha2]; rfl)) ?_
         refine LW.rd hL rfl (Wants.free rfl) rfl (Rd.fa (v := .pointer (some (a3.add 2))) rfl (fun _ => by kernel_rfl)) ?_
         obtain ⟨⟨o_w18, ho1⟩, hf3, h⟩ := h
         obtain ⟨w18, hw_w18⟩ : ∃ w18, w18 = World.setCell w17 (a3.add 2) (.int .i64 step1) := ⟨_, rfl⟩
         replace h := h w18 hw_w18
         refine LW.eff hL rfl (Wants.free rfl) rfl (stE hw_w18 (Ef.st rfl rfl rfl (by kernel_rfl) ho1 hf3)) ?_
         refine LW.nil hL rfl ?_
         refine NW.block ?_
         exact NW.cut (S := Unit) (Ek := fun s2 => [(0, .pointer h1), (1, .int .i64 step1), (6, .int .i64 3), (7, .int .i64 many1), (44, .slice l1 l1n l1c), (45, .int .i64 (l1n : Int)), (46, .int .i64 x2)]) () (by exact ⟨rfl, rfl, rfl, rfl, rfl, rfl, rfl, trivial⟩) h
        ·replace h := h.2 hb8
         refine CW.skip ?_
         refine NW.block ?_
         exact NW.cut (S := Unit) (Ek := fun s2 => [(0, .pointer h1), (1, .int .i64 step1), (6, .int .i64 3), (7, .int .i64 many1), (44, .slice l1 l1n l1c), (45, .int .i64 (l1n : Int)), (46, .int .i64 x2)]) () (by exact ⟨rfl, rfl, rfl, rfl, rfl, rfl, rfl, trivial⟩) h
      ·replace h := h.2 hb7
       refine CW.exit ?_
       refine XW.then ?_
       refine XW.then ?_
       refine XW.hit ?_
       refine NW.then ?_
       refine CW.seq ?_
       refine CW.region fun L hL => ?_
       refine LW.rd hL rfl (Wants.free rfl) rfl (Rd.move (v := .pointer h1) rfl) ?_
       refine LW.rd hL rfl (Wants.free rfl) rfl (Rd.nil (q := a3) (by rw [← ha2]; rfl)) ?_
       refine LW.rd hL rfl (Wants.free rfl) rfl (Rd.fa (v := .pointer (some (a3.add 1))) rfl (fun _ => by kernel_rfl)) ?_
       obtain ⟨t10, hc6, h⟩ := h
       refine LW.rd hL rfl (Wants.free rfl) rfl (Rd.ld (v := .int .i64 t10) rfl (by kernel_rfl) (eqs hc6)) ?_
       refine LW.rd hL rfl (Wants.free rfl) rfl (Rd.move (v := .int .i64 many1) rfl) ?_
       refine LW.rd hL rfl (Wants.free rfl) rfl (Rd.bin (v := .int .i64 (IntKind.wrap .i64 (t10 + many1))) rfl rfl (fun w => by kernel_rfl)) ?_
       refine LW.rd hL rfl (Wants.free rfl) rfl (Rd.nil (q := a3) (by rw [← ha2]; rfl)) ?_
       refine LW.rd hL rfl (Wants.free rfl) rfl (Rd.fa (v := .pointer (some (a3.add 1))) rfl (fun _ => by kernel_rfl)) ?_
       obtain ⟨⟨o_w19, ho2⟩, hf4, h⟩ := h
       obtain ⟨w19, hw_w19⟩ : ∃ w19, w19 = World.setCell w8 (a3.add 1) (.int .i64 (IntKind.wrap .i64 (t10 + many1))) := ⟨_, rfl⟩
       replace h := h w19 hw_w19
       refine LW.eff hL rfl (Wants.free rfl) rfl (stE hw_w19 (Ef.st rfl rfl rfl (by kernel_rfl) ho2 hf4)) ?_
       refine LW.nil hL rfl ?_
       refine NW.then ?_
       refine CW.seq ?_
       refine CW.seq ?_
       refine CW.region fun L hL => ?_
       refine LW.rd hL rfl (Wants.free rfl) rfl (Rd.assign (v := .int .i64 0) rfl) ?_
       refine LW.nil hL rfl ?_
       refine NW.then ?_
       refine CW.ret ?_
       refine RW.then ?_
       refine RW.jump ?_
       exact res1 rfl rfl ⟨0, rfl, h⟩
/- (*pomander/query.History).Roots -/
def W_query_History_Roots (h1 : Option Addr) (p1 : Int) (p2 : Int) (step1 : Int) (w : World) (R : (Option Addr) → Nat → Nat → World → Prop) : Prop :=
 ∀ b1 : Nat, b1 = World.size w → ∀ w1 : World, w1 = World.alloc w (.cells #[.pointer h1] 28) → (∀ (b2 : Nat) (w2 : World), (w1.heap.size ≤ b2 ∧ b2 < w2.heap.size) → Chg [] w1 w2 → (∃ (t1 : Option Addr), w2.cell? (⟨b1, 0, none⟩ : Addr) = some (.pointer t1) ∧ (Calls Tryd.prog 20 #[.pointer t1] w2 fun e w3 => ∃ (r2 : Bool), e = .returned (.bool r2) ∧ (Same w2 w3 [b2] ∧ ((r2 = true → R none 0 0 w3) ∧ (r2 = false → ∀ b3 : Nat, b3 = World.size w3 → ∀ w4 : World, w4 = World.alloc w3 (.map #[] 0) → (∀ b4 : Nat, b4 = World.size w4 → ∀ w5 : World, w5 = World.alloc w4 (.cells #[.map none] 61) → ((∃ o : Value, w5.cell? (⟨b4, 0, none⟩ : Addr) = some o) ∧ w5.frozen? (⟨b4, 0, none⟩ : Addr) = false ∧ ∀ w6 : World, w6 = World.setCell w5 (⟨b4, 0, none⟩ : Addr) (.map (some b3)) → (Same w5 w6 [b2] ∧ (∀ b5 : Nat, b5 = World.size w6 → ∀ w7 : World, w7 = World.alloc w6 (.map #[] 0) → (∀ b6 : Nat, b6 = World.size w7 → ∀ w8 : World, w8 = World.alloc w7 (.cells #[.map none] 62) → ((∃ o : Value, w8.cell? (⟨b6, 0, none⟩ : Addr) = some o) ∧ w8.frozen? (⟨b6, 0, none⟩ : Addr) = false ∧ ∀ w9 : World, w9 = World.setCell w8 (⟨b6, 0, none⟩ : Addr) (.map (some b5)) → (Same w8 w9 [b2] ∧ (∀ b7 : Nat, b7 = World.size w9 → ∀ w10 : World, w10 = World.alloc w9 (.cells #[.nilFunc] 63) → ((∃ o : Value, w10.cell? (⟨b7, 0, none⟩ : Addr) = some o) ∧ w10.frozen? (⟨b7, 0, none⟩ : Addr) = false ∧ ∀ w11 : World, w11 = World.setCell w10 (⟨b7, 0, none⟩ : Addr) (.func (.func 22) #[] #[.pointer (some (⟨b4, 0, none⟩ : Addr)), .pointer (some (⟨b1, 0, none⟩ : Addr)), .pointer (some (⟨b6, 0, none⟩ : Addr)), .pointer (some (⟨b7, 0, none⟩ : Addr))]) → (Same w10 w11 [b2] ∧ (∃ (t2 : Value), w11.cell? (⟨b7, 0, none⟩ : Addr) = some (t2) ∧ (CallsV Tryd.prog t2 #[.agg #[.int .i64 p1, .int .i64 p2, .int .i64 step1]] w11 fun e w12 => e = .returned (.tuple #[]) ∧ (∃ (t3 : Option Nat), w12.cell? (⟨b6, 0, none⟩ : Addr) = some (.map t3) ∧ (Calls Tryd.prog 25 #[.map t3] w12 fun e w13 => ∃ (r3 : Value), e = .returned (r3) ∧ (Calls Tryd.prog 24 #[r3, .func (.func 26) #[] #[]] w13 fun e w14 => ∃ (r4 : Option Addr) (r4n : Nat) (r4c : Nat), e = .returned (.slice r4 r4n r4c) ∧ (R r4 r4n r4c w14))))))))))))))))))))))
set_option maxRecDepth 100000 in
theorem go_query_History_Roots (h1 : Option Addr) (p1 : Int) (p2 : Int) (step1 : Int) (w : World) (R : (Option Addr) → Nat → Nat → World → Prop) (h : W_query_History_Roots h1 p1 p2 step1 w R) : Calls Tryd.prog 10 #[.pointer h1, .agg #[.int .i64 p1, .int .i64 p2], .int .i64 step1] w (fun e w' => ∃ (r1 : Option Addr) (r1n : Nat) (r1c : Nat), e = .returned (.slice r1 r1n r1c) ∧ R r1 r1n r1c w') := by
 unfold W_query_History_Roots at h
 refine enter (N := 23) Tryd.func10 rfl rfl ?_
 refine CW.seq ?_
 refine CW.region fun L hL => ?_
 obtain ⟨b1, hb_b1⟩ : ∃ b1, b1 = World.size w := ⟨_, rfl⟩
 obtain ⟨w1, hw_w1⟩ : ∃ w1, w1 = World.alloc w (.cells #[.pointer h1] 28) := ⟨_, rfl⟩
 replace h := h b1 hb_b1 w1 hw_w1
 refine LW.val hL rfl (Wants.free rfl) rfl (boxE hb_b1 hw_w1 (Vl.box (v := .pointer h1) rfl)) ?_
 obtain ⟨b2, hb_b2⟩ : ∃ b2, b2 = World.size w1 := ⟨_, rfl⟩
 obtain ⟨w2, hw_w2⟩ : ∃ w2, w2 = World.alloc w1 (.cells #[.int .i64 p1, .int .i64 p2] 27) := ⟨_, rfl⟩
 refine LW.val hL rfl (Wants.free rfl) rfl (boxE hb_b2 hw_w2 (Vl.box (v := .agg #[.int .i64 p1, .int .i64 p2]) rfl)) ?_
 have hB := Boxes.alloc (cs := [.int .i64 p1, .int .i64 p2]) (T := 27) (Boxes.nil w1) hb_b2 hw_w2
 have hlo_b2 := sil_lo (Chg.refl [] w1) hb_b2
 have hc_w2 := sil_alloc (Chg.refl [] w1) hw_w2
 refine LW.rd hL rfl (Wants.free rfl) rfl (Rd.assign (v := .slice none 0 0) rfl) ?_
 refine LW.nil hL rfl ?_
 refine NW.then ?_
 refine CW.seq ?_
 refine CW.seq ?_
 refine CW.region fun L hL => ?_
 replace h := h b2 w2 ⟨hlo_b2, lt_of_heap (hB.at (i := 0) rfl)⟩ hc_w2
 obtain ⟨t1, hc1, h⟩ := h
 refine LW.rd hL rfl (Wants.free rfl) rfl (Rd.ld (v := .pointer t1) rfl (by kernel_rfl) (eqs hc1)) ?_
 refine LW.call hL rfl (Wants.free rfl) rfl (Cl.fn (f := 20) rfl Tryd.func20 (by kernel_rfl) rfl) h (fun e w3 h_ => ?_)
 clear h
 obtain ⟨r2, rfl, h⟩ := h_
 obtain ⟨hsm1, h⟩ := h
 replace hB := Boxes.sameS hB hsm1 (by simp)
 refine ⟨_, rfl, ?_⟩
 refine LW.nil hL rfl ?_
 refine NW.then ?_
 refine CW.cond rfl (fun hb1 => ?_) (fun hb1 => ?_)
 ·replace h := h.1 hb1
  refine CW.seq ?_
  refine CW.region fun L hL => ?_
  refine LW.rd hL rfl (Wants.free rfl) rfl (Rd.assign (v := .slice none 0 0) rfl) ?_
  refine LW.nil hL rfl ?_
  refine NW.then ?_
  refine CW.ret ?_
  refine RW.then ?_
  exact res1 rfl rfl ⟨none, 0, 0, rfl, h⟩
 ·replace h := h.2 hb1
  refine CW.skip ?_
  refine NW.then ?_
  refine CW.seq ?_
  refine CW.region fun L hL => ?_
  obtain ⟨b3, hb_b3⟩ : ∃ b3, b3 = World.size w3 := ⟨_, rfl⟩
  obtain ⟨w4, hw_w4⟩ : ∃ w4, w4 = World.alloc w3 (.map #[] 0) := ⟨_, rfl⟩
  replace h := h b3 hb_b3 w4 hw_w4
  refine LW.val hL rfl (Wants.free rfl) rfl (mapE hb_b3 hw_w4 Vl.makeMap) ?_
  replace hB := hB.grow hw_w4
  obtain ⟨b4, hb_b4⟩ : ∃ b4, b4 = World.size w4 := ⟨_, rfl⟩
  obtain ⟨w5, hw_w5⟩ : ∃ w5, w5 = World.alloc w4 (.cells #[.map none] 61) := ⟨_, rfl⟩
  replace h := h b4 hb_b4 w5 hw_w5
  refine LW.val hL rfl (Wants.free rfl) rfl (boxE hb_b4 hw_w5 (Vl.alloc (z := .map none) (by kernel_rfl))) ?_
  replace hB := hB.grow hw_w5
  obtain ⟨⟨o_w6, ho1⟩, hf1, h⟩ := h
  obtain ⟨w6, hw_w6⟩ : ∃ w6, w6 = World.setCell w5 (⟨b4, 0, none⟩ : Addr) (.map (some b3)) := ⟨_, rfl⟩
  replace h := h w6 hw_w6
  refine LW.eff hL rfl (Wants.free rfl) rfl (stE hw_w6 (Ef.st rfl rfl rfl (by kernel_rfl) ho1 hf1)) ?_
  obtain ⟨hsm2, h⟩ := h
  replace hB := Boxes.sameS hB hsm2 (by simp)
  refine LW.nil hL rfl ?_
  refine NW.then ?_
  refine CW.seq ?_
  refine CW.region fun L hL => ?_
  obtain ⟨b5, hb_b5⟩ : ∃ b5, b5 = World.size w6 := ⟨_, rfl⟩
  obtain ⟨w7, hw_w7⟩ : ∃ w7, w7 = World.alloc w6 (.map #[] 0) := ⟨_, rfl⟩
  replace h := h b5 hb_b5 w7 hw_w7
  refine LW.val hL rfl (Wants.free rfl) rfl (mapE hb_b5 hw_w7 Vl.makeMap) ?_
  replace hB := hB.grow hw_w7
  obtain ⟨b6, hb_b6⟩ : ∃ b6, b6 = World.size w7 := ⟨_, rfl⟩
  obtain ⟨w8, hw_w8⟩ : ∃ w8, w8 = World.alloc w7 (.cells #[.map none] 62) := ⟨_, rfl⟩
  replace h := h b6 hb_b6 w8 hw_w8
  refine LW.val hL rfl (Wants.free rfl) rfl (boxE hb_b6 hw_w8 (Vl.alloc (z := .map none) (by kernel_rfl))) ?_
  replace hB := hB.grow hw_w8
  obtain ⟨⟨o_w9, ho2⟩, hf2, h⟩ := h
  obtain ⟨w9, hw_w9⟩ : ∃ w9, w9 = World.setCell w8 (⟨b6, 0, none⟩ : Addr) (.map (some b5)) := ⟨_, rfl⟩
  replace h := h w9 hw_w9
  refine LW.eff hL rfl (Wants.free rfl) rfl (stE hw_w9 (Ef.st rfl rfl rfl (by kernel_rfl) ho2 hf2)) ?_
  obtain ⟨hsm3, h⟩ := h
  replace hB := Boxes.sameS hB hsm3 (by simp)
  refine LW.nil hL rfl ?_
  refine NW.then ?_
  refine CW.seq ?_
  refine CW.region fun L hL => ?_
  obtain ⟨b7, hb_b7⟩ : ∃ b7, b7 = World.size w9 := ⟨_, rfl⟩
  obtain ⟨w10, hw_w10⟩ : ∃ w10, w10 = World.alloc w9 (.cells #[.nilFunc] 63) := ⟨_, rfl⟩
  replace h := h b7 hb_b7 w10 hw_w10
  refine LW.val hL rfl (Wants.free rfl) rfl (boxE hb_b7 hw_w10 (Vl.alloc (z := .nilFunc) (by kernel_rfl))) ?_
  replace hB := hB.grow hw_w10
  refine LW.nil hL rfl ?_
  refine NW.then ?_
  refine CW.seq ?_
  refine CW.region fun L hL => ?_
  refine LW.rd hL rfl (Wants.free rfl) rfl (Rd.makeFunc rfl) ?_
  obtain ⟨⟨o_w11, ho3⟩, hf3, h⟩ := h
  obtain ⟨w11, hw_w11⟩ : ∃ w11, w11 = World.setCell w10 (⟨b7, 0, none⟩ : Addr) (.func (.func 22) #[] #[.pointer (some (⟨b4, 0, none⟩ : Addr)), .pointer (some (⟨b1, 0, none⟩ : Addr)), .pointer (some (⟨b6, 0, none⟩ : Addr)), .pointer (some (⟨b7, 0, none⟩ : Addr))]) := ⟨_, rfl⟩
  replace h := h w11 hw_w11
  refine LW.eff hL rfl (Wants.free rfl) rfl (stE hw_w11 (Ef.st rfl rfl rfl (by kernel_rfl) ho3 hf3)) ?_
  obtain ⟨hsm4, h⟩ := h
  replace hB := Boxes.sameS hB hsm4 (by simp)
  refine LW.nil hL rfl ?_
  refine NW.then ?_
  refine CW.seq ?_
  refine CW.region fun L hL => ?_
  obtain ⟨t2, hc2, h⟩ := h
  refine LW.rd hL rfl (Wants.free rfl) rfl (Rd.ld (v := t2) rfl (by kernel_rfl) (eqs hc2)) ?_
  refine LW.rd hL rfl (Wants.free rfl) rfl (Rd.ldN (cs := [.int .i64 p1, .int .i64 p2]) rfl (by kernel_rfl) (by kernel_rfl) (cellsS (box_cells (hB.at (i := 0) rfl) rfl))) ?_
  refine LW.rd hL rfl (Wants.free rfl) rfl (Rd.move (v := .int .i64 step1) rfl) ?_
  refine LW.rd hL rfl (Wants.free rfl) rfl (Rd.build (v := .agg #[.int .i64 p1, .int .i64 p2, .int .i64 step1]) rfl (fun _ => by kernel_rfl)) ?_
  obtain ⟨f1, cap_f1, fn_f1, he_f1, hf_f1, hn_f1, hb_f1, h⟩ := h
  refine LW.call hL rfl (Wants.free rfl) rfl (Cl.fv (f := f1) (cap := cap_f1) (by rw [← he_f1]; rfl) rfl hf_f1 hn_f1 hb_f1) h (fun e w12 h_ => ?_)
  clear h
  obtain ⟨rfl, h⟩ := h_
  refine ⟨_, rfl, ?_⟩
  refine LW.nil hL rfl ?_
  refine NW.then ?_
  refine CW.seq ?_
  refine CW.region fun L hL => ?_
  obtain ⟨t3, hc3, h⟩ := h
  refine LW.rd hL rfl (Wants.free rfl) rfl (Rd.ld (v := .map t3) rfl (by kernel_rfl) (eqs hc3)) ?_
  refine LW.call hL rfl (Wants.free rfl) rfl (Cl.fn (f := 25) rfl Tryd.func25 (by kernel_rfl) rfl) h (fun e w13 h_ => ?_)
  clear h
  obtain ⟨r3, rfl, h⟩ := h_
  refine ⟨_, rfl, ?_⟩
  refine LW.call hL rfl (Wants.free rfl) rfl (Cl.fn (f := 24) rfl Tryd.func24 (by kernel_rfl) rfl) h (fun e w14 h_ => ?_)
  clear h
  obtain ⟨r4, r4n, r4c, rfl, h⟩ := h_
  refine ⟨_, rfl, ?_⟩
  refine LW.rd hL rfl (Wants.free rfl) rfl (Rd.assign (v := .slice r4 r4n r4c) rfl) ?_
  refine LW.nil hL rfl ?_
  refine NW.then ?_
  refine CW.ret ?_
  exact res1 rfl rfl ⟨r4, r4n, r4c, rfl, h⟩
/- (*pomander/query.History).none -/
def W_query_History_none (h1 : Option Addr) (w : World) (R : Bool → World → Prop) : Prop :=
 ∃ J1 : Bool → World → Prop, (∀ (b1 : Bool) (w1 : World), J1 b1 w1 → R b1 w1) ∧ (((Option.isNone h1) = false → ∃ a1 : Addr, h1 = some a1 ∧ (∃ (t1 : Option Nat), w.cell? a1 = some (.map t1) ∧ (J1 (Option.isNone t1) w))) ∧ ((Option.isNone h1) = true → J1 true w))
set_option maxRecDepth 100000 in
theorem go_query_History_none (h1 : Option Addr) (w : World) (R : Bool → World → Prop) (h : W_query_History_none h1 w R) : Calls Tryd.prog 20 #[.pointer h1] w (fun e w' => ∃ (r1 : Bool), e = .returned (.bool r1) ∧ R r1 w') := by
 unfold W_query_History_none at h
 refine enter (N := 12) Tryd.func20 rfl rfl ?_
 refine CW.seq ?_
 refine CW.region fun L hL => ?_
 refine LW.rd hL rfl (Wants.free rfl) rfl (Rd.assign (v := .bool false) rfl) ?_
 refine LW.nil hL rfl ?_
 refine NW.then ?_
 refine CW.seq ?_
 refine CW.region fun L hL => ?_
 refine LW.rd hL rfl (Wants.free rfl) rfl (Rd.move (v := .pointer h1) rfl) ?_
 refine LW.rd hL rfl (Wants.free rfl) rfl (Rd.bin (v := .bool (Option.isNone h1)) rfl rfl (fun w => ptr_nil_eq (by kernel_rfl) h1 w)) ?_
 refine LW.rd hL rfl (Wants.free rfl) rfl (Rd.move (v := .bool (Option.isNone h1)) rfl) ?_
 obtain ⟨J1, hJ1, h1_J1, h0_J1⟩ := h
 suffices K1 : ∀ (b1 : Bool) (w1 : World), J1 b1 w1 → L 9 [(2, .bool false), (11, .bool b1)] w1 by
  rcases Bool.eq_false_or_eq_true (Option.isNone h1) with hb1 | hb1
  ·have h := h0_J1 hb1
   refine LW.skip hL rfl (Skips.on rfl rfl rfl rfl rfl hb1) rfl ?_
   refine LW.skip hL rfl (Skips.on rfl rfl rfl rfl rfl hb1) rfl ?_
   refine LW.skip hL rfl (Skips.on rfl rfl rfl rfl rfl hb1) rfl ?_
   refine LW.skip hL rfl (Skips.on rfl rfl rfl rfl rfl hb1) rfl ?_
   refine LW.skip hL rfl (Skips.on rfl rfl rfl rfl rfl hb1) rfl ?_
   refine LW.rd hL rfl (Wants.free rfl) rfl (Rd.pickT rfl hb1 rfl) ?_
   exact LW.sub hL (by exact ⟨rfl, rfl, trivial⟩) (K1 true w h)
  ·have h := h1_J1 hb1
   refine LW.rd hL rfl (Wants.on rfl rfl rfl rfl rfl hb1) rfl (Rd.move (v := .pointer h1) rfl) ?_
   obtain ⟨a1, ha1, h⟩ := h
   refine LW.rd hL rfl (Wants.on rfl rfl rfl rfl rfl hb1) rfl (Rd.nil (q := a1) (by rw [← ha1]; rfl)) ?_
   refine LW.rd hL rfl (Wants.on rfl rfl rfl rfl rfl hb1) rfl (Rd.fa (v := .pointer (some a1)) rfl (fun _ => by kernel_rfl)) ?_
   obtain ⟨t1, hc1, h⟩ := h
   refine LW.rd hL rfl (Wants.on rfl rfl rfl rfl rfl hb1) rfl (Rd.ld (v := .map t1) rfl (by kernel_rfl) (eqs hc1)) ?_
   refine LW.rd hL rfl (Wants.on rfl rfl rfl rfl rfl hb1) rfl (Rd.bin (v := .bool (Option.isNone t1)) rfl rfl (fun w => map_nil_eq (by kernel_rfl) t1 w)) ?_
   refine LW.rd hL rfl (Wants.free rfl) rfl (Rd.pickF rfl hb1 rfl) ?_
   exact LW.sub hL (by exact ⟨rfl, rfl, trivial⟩) (K1 (Option.isNone t1) w h)
 intro b1 w1 h_
 have h := hJ1 b1 w1 h_; clear h_
 refine LW.rd hL rfl (Wants.free rfl) rfl (Rd.assign (v := .bool b1) rfl) ?_
 refine LW.nil hL rfl ?_
 refine NW.then ?_
 refine CW.ret ?_
 exact res1 rfl rfl ⟨b1, rfl, h⟩
/- pomander/query.copied -/
def W_query_copied (n1 : Int) (n2 : Int) (n3 : Int) (n4 : Option Addr) (n4n : Nat) (n4c : Nat) (w : World) (R : Int → Int → Int → (Option Addr) → Nat → Nat → World → Prop) : Prop :=
 ∀ (b2 b1 : Nat) (w2 : World), (w.heap.size ≤ b2 ∧ b2 < w2.heap.size) → (w.heap.size ≤ b1 ∧ b1 < w2.heap.size) → Chg [] w w2 → (Calls Tryd.prog 31 #[.slice n4 n4n n4c] w2 fun e w3 => ∃ (r5 : Option Addr) (r5n : Nat) (r5c : Nat), e = .returned (.slice r5 r5n r5c) ∧ (Same w2 w3 [b2, b1] ∧ (∀ (w5 : World), Chg [b1, b2] w3 w5 → (R n1 n2 n3 r5 r5n r5c w5))))
set_option maxRecDepth 100000 in
theorem go_query_copied (n1 : Int) (n2 : Int) (n3 : Int) (n4 : Option Addr) (n4n : Nat) (n4c : Nat) (w : World) (R : Int → Int → Int → (Option Addr) → Nat → Nat → World → Prop) (h : W_query_copied n1 n2 n3 n4 n4n n4c w R) : Calls Tryd.prog 21 #[.agg #[.int .i64 n1, .int .i64 n2, .int .i64 n3, .slice n4 n4n n4c]] w (fun e w' => ∃ (r1 : Int) (r2 : Int) (r3 : Int) (r4 : Option Addr) (r4n : Nat) (r4c : Nat), e = .returned (.agg #[.int .i64 r1, .int .i64 r2, .int .i64 r3, .slice r4 r4n r4c]) ∧ R r1 r2 r3 r4 r4n r4c w') := by
 unfold W_query_copied at h
 refine enter (N := 8) Tryd.func21 rfl rfl ?_
 refine CW.seq ?_
 refine CW.region fun L hL => ?_
 obtain ⟨b1, hb_b1⟩ : ∃ b1, b1 = World.size w := ⟨_, rfl⟩
 obtain ⟨w1, hw_w1⟩ : ∃ w1, w1 = World.alloc w (.cells #[.int .i64 n1, .int .i64 n2, .int .i64 n3, .slice n4 n4n n4c] 50) := ⟨_, rfl⟩
 refine LW.val hL rfl (Wants.free rfl) rfl (boxE hb_b1 hw_w1 (Vl.box (v := .agg #[.int .i64 n1, .int .i64 n2, .int .i64 n3, .slice n4 n4n n4c]) rfl)) ?_
 have hB := Boxes.alloc (cs := [.int .i64 n1, .int .i64 n2, .int .i64 n3, .slice n4 n4n n4c]) (T := 50) (Boxes.nil w) hb_b1 hw_w1
 have hlo_b1 := sil_lo (Chg.refl [] w) hb_b1
 have hc_w1 := sil_alloc (Chg.refl [] w) hw_w1
 obtain ⟨b2, hb_b2⟩ : ∃ b2, b2 = World.size w1 := ⟨_, rfl⟩
 obtain ⟨w2, hw_w2⟩ : ∃ w2, w2 = World.alloc w1 (.cells #[.int .i64 0, .int .i64 0, .int .i64 0, .slice none 0 0] 50) := ⟨_, rfl⟩
 refine LW.val hL rfl (Wants.free rfl) rfl (boxE hb_b2 hw_w2 (Vl.alloc (z := .agg #[.int .i64 0, .int .i64 0, .int .i64 0, .slice none 0 0]) (by kernel_rfl))) ?_
 replace hB := Boxes.alloc (cs := [.int .i64 0, .int .i64 0, .int .i64 0, .slice none 0 0]) (T := 50) hB hb_b2 hw_w2
 have hlo_b2 := sil_lo hc_w1 hb_b2
 have hc_w2 := sil_alloc hc_w1 hw_w2
 refine LW.nil hL rfl ?_
 refine NW.then ?_
 refine CW.seq ?_
 refine CW.region fun L hL => ?_
 refine LW.rd hL rfl (Wants.free rfl) rfl (Rd.fa (v := .pointer (some (⟨b1, 3, none⟩ : Addr))) rfl (fun _ => by kernel_rfl)) ?_
 refine LW.rd hL rfl (Wants.free rfl) rfl (Rd.ld (v := .slice n4 n4n n4c) rfl (by kernel_rfl) (eqs (box_cell (hB.at (i := 1) rfl) rfl))) ?_
 replace h := h b2 b1 w2 ⟨hlo_b2, lt_of_heap (hB.at (i := 0) rfl)⟩ ⟨hlo_b1, lt_of_heap (hB.at (i := 1) rfl)⟩ hc_w2
 refine LW.call hL rfl (Wants.free rfl) rfl (Cl.fn (f := 31) rfl Tryd.func31 (by kernel_rfl) rfl) h (fun e w3 h_ => ?_)
 clear h
 obtain ⟨r5, r5n, r5c, rfl, h⟩ := h_
 obtain ⟨hsm1, h⟩ := h
 replace hB := Boxes.sameS hB hsm1 (by simp)
 refine ⟨_, rfl, ?_⟩
 refine LW.rd hL rfl (Wants.free rfl) rfl (Rd.fa (v := .pointer (some (⟨b1, 3, none⟩ : Addr))) rfl (fun _ => by kernel_rfl)) ?_
 obtain ⟨w4, hw_w4⟩ : ∃ x, x = World.setCell w3 (⟨b1, 3, none⟩ : Addr) (.slice r5 r5n r5c) := ⟨_, rfl⟩
 refine LW.eff hL rfl (Wants.free rfl) rfl (stE hw_w4 (Ef.st rfl rfl rfl (by kernel_rfl) (box_cell (v := .slice n4 n4n n4c) (hB.at (i := 1) rfl) rfl) (free_of (hB.at (i := 1) rfl) 3))) ?_
 replace hB : Boxes w4 [(b2, [.int .i64 0, .int .i64 0, .int .i64 0, .slice none 0 0], 50), (b1, [.int .i64 n1, .int .i64 n2, .int .i64 n3, .slice r5 r5n r5c], 50)] := Boxes.store1  (i := 1) (o := 3) hB rfl rfl rfl rfl hw_w4
 have hc_w4 : Chg [b1] w3 w4 := sil_more (Chg.refl [] w3) (sil_c1 hw_w4)
 refine LW.nil hL rfl ?_
 refine NW.then ?_
 refine CW.seq ?_
 refine CW.region fun L hL => ?_
 refine LW.rd hL rfl (Wants.free rfl) rfl (Rd.ldN (cs := [.int .i64 n1, .int .i64 n2, .int .i64 n3, .slice r5 r5n r5c]) rfl (by kernel_rfl) (by kernel_rfl) (cellsS (box_cells (hB.at (i := 1) rfl) rfl))) ?_
 obtain ⟨w5, hw_w5⟩ : ∃ x, x = setCells w4 (⟨b2, 0, none⟩ : Addr) 0 [.int .i64 n1, .int .i64 n2, .int .i64 n3, .slice r5 r5n r5c] := ⟨_, rfl⟩
 refine LW.eff hL rfl (Wants.free rfl) rfl (stNE hw_w5 (Ef.stN (cs := [.int .i64 n1, .int .i64 n2, .int .i64 n3, .slice r5 r5n r5c]) rfl rfl (by kernel_rfl) (List.forall_mem_cons.2 ⟨rfl, (List.forall_mem_cons.2 ⟨rfl, (List.forall_mem_cons.2 ⟨rfl, (List.forall_mem_cons.2 ⟨rfl, (List.forall_mem_nil _)⟩)⟩)⟩)⟩) (has_of (hB.at (i := 0) rfl) (by simp)) (free_of' (hB.at (i := 0) rfl)))) ?_
 replace hB : Boxes w5 [(b2, [.int .i64 n1, .int .i64 n2, .int .i64 n3, .slice r5 r5n r5c], 50), (b1, [.int .i64 n1, .int .i64 n2, .int .i64 n3, .slice r5 r5n r5c], 50)] := Boxes.store (vs := [.int .i64 n1, .int .i64 n2, .int .i64 n3, .slice r5 r5n r5c]) (i := 0) (o := 0) hB rfl rfl rfl rfl hw_w5
 have hc_w5 : Chg [b1, b2] w3 w5 := sil_more hc_w4 (sil_cN hw_w5)
 refine LW.nil hL rfl ?_
 refine NW.then ?_
 replace h := h  w5  hc_w5
 refine CW.ret ?_
 exact resN (vs := [.agg #[.int .i64 n1, .int .i64 n2, .int .i64 n3, .slice r5 r5n r5c]]) (ResOK.c rfl (lvN (cs := [.int .i64 n1, .int .i64 n2, .int .i64 n3, .slice r5 r5n r5c]) (by kernel_rfl) (by kernel_rfl) (cellsAt_get (box_cells (hB.at (i := 0) rfl) rfl))) ResOK.nil) rfl ⟨n1, n2, n3, r5, r5n, r5c, rfl, h⟩
/- (*pomander/query.History).Roots$1 -/
def W_query_History_Roots_1 (w1 : Int) (w2 : Int) (w3 : Int) (cap1 : Addr) (cap2 : Addr) (cap3 : Addr) (cap4 : Addr) (w : World) (R : World → Prop) : Prop :=
 ∀ (b1 : Nat) (w5 : World), (w.heap.size ≤ b1 ∧ b1 < w5.heap.size) → Chg [] w w5 → (∃ (t1 : Option Nat), w5.cell? cap1 = some (.map t1) ∧ (∃ (v1 : Int), (Instr.lookup 61 (.map t1) (.agg #[.int .i64 w1, .int .i64 w2, .int .i64 w3]) false).run Tryd.prog w5 = .ok (.int .i64 v1) w5 ∧ (∃ (v2 : Int) (s1 : Int) (w6 : World), (Instr.mapEntry 61 (.map t1) (.agg #[.int .i64 w1, .int .i64 w2, .int .i64 w3])).run Tryd.prog w5 = .ok (.tuple #[.int .i64 v2, .int .i64 s1]) w6 ∧ ((w6.cell? cap1 = some (.map t1) ∧ (Instr.lookup 61 (.map t1) (.agg #[.int .i64 w1, .int .i64 w2, .int .i64 w3]) false).run Tryd.prog w6 = .ok (.int .i64 v1) w6) ∧ (Same w5 w6 [b1] ∧ (∃ w7 : World, (Instr.entryStore 61 (.map t1) (.int .i64 s1) (.int .i64 (IntKind.wrap .i64 (v1 + 1)))).run Tryd.prog w6 = .ok () w7 ∧ (Same w6 w7 [b1] ∧ (∃ (t2 : Option Nat), w7.cell? cap1 = some (.map t2) ∧ (∃ (v3 : Int), (Instr.lookup 61 (.map t2) (.agg #[.int .i64 w1, .int .i64 w2, .int .i64 w3]) false).run Tryd.prog w7 = .ok (.int .i64 v3) w7 ∧ (((decide (v3 > 1)) = true → R w7) ∧ ((decide (v3 > 1)) = false → ∃ (t3 : Option Addr), w7.cell? cap2 = some (.pointer t3) ∧ (Calls Tryd.prog 23 #[.pointer t3, .agg #[.int .i64 w1, .int .i64 w2], .int .i64 w3] w7 fun e w8 => ∃ (r1 : Int) (r2 : Int) (r3 : Int) (r4 : Option Addr) (r4n : Nat) (r4c : Nat) (r5 : Bool), e = .returned (.tuple #[.agg #[.int .i64 r1, .int .i64 r2, .int .i64 r3, .slice r4 r4n r4c], .bool r5]) ∧ (Same w7 w8 [b1] ∧ (∀ (b2 : Nat) (w10 : World), (w8.heap.size ≤ b2 ∧ b2 < w10.heap.size) → Chg [] w8 w10 → (∃ J1 : World → Prop, (∀ (w11 : World), J1 w11 → ∃ (I1 : Int → World → Prop) (m1 : Int → World → Nat), I1 0 w11 ∧ ∀ (x1 : Int) (w12 : World), I1 x1 w12 → ((decide (x1 < (r4n : Int))) = true → ∃ a1 : Addr, r4 = some a1 ∧ (0 : Int) ≤ x1 ∧ x1 < (r4n : Int) ∧ (∃ (t4 : Int) (t5 : Int), CellsAt w12 (a1.add (Int.toNat x1 * 2)) 0 [.int .i64 t4, .int .i64 t5] ∧ (∀ (b3 : Nat) (w14 : World), (w12.heap.size ≤ b3 ∧ b3 < w14.heap.size) → Chg [] w12 w14 → (∃ (t6 : Value), w14.cell? cap4 = some (t6) ∧ (CallsV Tryd.prog t6 #[.agg #[.int .i64 t4, .int .i64 t5, .int .i64 r1]] w14 fun e w15 => e = .returned (.tuple #[]) ∧ (Same w14 w15 [b2] ∧ ((I1 (IntKind.wrap .i64 (x1 + 1)) w15 ∧ m1 (IntKind.wrap .i64 (x1 + 1)) w15 < m1 x1 w12)))))))) ∧ ((decide (x1 < (r4n : Int))) = false → R w12)) ∧ (((!r5) = true → ∀ (w16 : World), Chg [] w10 w16 → (∃ (t7 : Option Nat), w16.cell? cap3 = some (.map t7) ∧ (∃ (v4 : Int), (Instr.lookup 62 (.map t7) (.agg #[.int .i64 w1, .int .i64 w2]) false).run Tryd.prog w16 = .ok (.int .i64 v4) w16 ∧ (∃ (v5 : Int) (s3 : Int) (w17 : World), (Instr.mapEntry 62 (.map t7) (.agg #[.int .i64 w1, .int .i64 w2])).run Tryd.prog w16 = .ok (.tuple #[.int .i64 v5, .int .i64 s3]) w17 ∧ ((w17.cell? cap3 = some (.map t7) ∧ (Instr.lookup 62 (.map t7) (.agg #[.int .i64 w1, .int .i64 w2]) false).run Tryd.prog w17 = .ok (.int .i64 v4) w17) ∧ (Same w16 w17 [b2, b1] ∧ (∃ w18 : World, (Instr.entryStore 62 (.map t7) (.int .i64 s3) (.int .i64 (IntKind.wrap .i64 (v4 + 1)))).run Tryd.prog w17 = .ok () w18 ∧ (Same w17 w18 [b2] ∧ (J1 w18))))))))) ∧ ((!r5) = false → J1 w10)))))))))))))))))
set_option maxRecDepth 100000 in
theorem go_query_History_Roots_1 (w1 : Int) (w2 : Int) (w3 : Int) (cap1 : Addr) (cap2 : Addr) (cap3 : Addr) (cap4 : Addr) (w : World) (R : World → Prop) (h : W_query_History_Roots_1 w1 w2 w3 cap1 cap2 cap3 cap4 w R) : Calls Tryd.prog 22 #[.agg #[.int .i64 w1, .int .i64 w2, .int .i64 w3], .pointer (some cap1), .pointer (some cap2), .pointer (some cap3), .pointer (some cap4)] w (fun e w' => e = .returned (.tuple #[]) ∧ R w') := by
 unfold W_query_History_Roots_1 at h
 refine enter (N := 52) Tryd.func22 rfl rfl ?_
 refine CW.seq ?_
 refine CW.region fun L hL => ?_
 obtain ⟨b1, hb_b1⟩ : ∃ b1, b1 = World.size w := ⟨_, rfl⟩
 obtain ⟨w4, hw_w4⟩ : ∃ w4, w4 = World.alloc w (.cells #[.int .i64 w1, .int .i64 w2, .int .i64 w3] 65) := ⟨_, rfl⟩
 refine LW.val hL rfl (Wants.free rfl) rfl (boxE hb_b1 hw_w4 (Vl.box (v := .agg #[.int .i64 w1, .int .i64 w2, .int .i64 w3]) rfl)) ?_
 have hB := Boxes.alloc (cs := [.int .i64 w1, .int .i64 w2, .int .i64 w3]) (T := 65) (Boxes.nil w) hb_b1 hw_w4
 have hlo_b1 := sil_lo (Chg.refl [] w) hb_b1
 have hc_w4 := sil_alloc (Chg.refl [] w) hw_w4
 refine LW.nil hL rfl ?_
 refine NW.then ?_
 refine CW.seq ?_
 refine CW.seq ?_
 obtain ⟨w5, hw_w5⟩ : ∃ x, x = World.drew w4 := ⟨_, rfl⟩
 have hc_w5 := sil_drew hc_w4 hw_w5
 replace hB := hB.drew hw_w5
 replace h := h b1 w5 ⟨hlo_b1, lt_of_heap (hB.at (i := 0) rfl)⟩ hc_w5
 obtain ⟨t1, hc1, h⟩ := h
 obtain ⟨v1, hl1, h⟩ := h
 refine CW.drawn (fun w => w.cell? cap1 = some (.map t1) ∧ (Instr.lookup 61 (.map t1) (.agg #[.int .i64 w1, .int .i64 w2, .int .i64 w3]) false).run Tryd.prog w = .ok (.int .i64 v1) w ∧ Boxes w [(b1, [.int .i64 w1, .int .i64 w2, .int .i64 w3], 65)]) 6 (by kernel_rfl) fun H hH => ?_
 rw [← hw_w5]
 have hS1 : w5.cell? cap1 = some (.map t1) ∧ (Instr.lookup 61 (.map t1) (.agg #[.int .i64 w1, .int .i64 w2, .int .i64 w3]) false).run Tryd.prog w5 = .ok (.int .i64 v1) w5 ∧ Boxes w5 [(b1, [.int .i64 w1, .int .i64 w2, .int .i64 w3], 65)] := ⟨hc1, hl1, hB⟩
 refine HW.take (i := 0) hH rfl (by kernel_rfl) (by kernel_rfl) (Wants.free rfl) rfl (fun _ => hS1) (Rd.ld (v := .map t1) rfl (by kernel_rfl) (fun w h => h.1)) ?_
 refine HW.take (i := 1) hH rfl (by kernel_rfl) (by kernel_rfl) (Wants.free rfl) rfl (fun _ => hS1) (Rd.ldN (cs := [.int .i64 w1, .int .i64 w2, .int .i64 w3]) rfl (by kernel_rfl) (by kernel_rfl) (fun w h => cellsAt_get (box_cells (Boxes.at (i := 0) h.2.2 rfl) rfl))) ?_
 refine HW.take (i := 2) hH rfl (by kernel_rfl) (by kernel_rfl) (Wants.free rfl) rfl (fun _ => hS1) (Rd.lookup (v := .int .i64 v1) rfl rfl (fun w h => h.2.1)) ?_
 refine HW.pure (i := 3) hH rfl (by kernel_rfl) (Wants.free rfl) rfl (fun _ => hS1) (Rd.bin (v := .int .i64 (IntKind.wrap .i64 (v1 + 1))) rfl rfl (fun w => by kernel_rfl)) ?_
 obtain ⟨v2, s1, w6, hm1, h⟩ := h
 obtain ⟨hS2, h⟩ := h
 obtain ⟨hsm1, h⟩ := h
 replace hB := Boxes.sameS hB hsm1 (by simp)
 have hS3 := (⟨hS2.1, hS2.2, hB⟩ : w6.cell? cap1 = some (.map t1) ∧ (Instr.lookup 61 (.map t1) (.agg #[.int .i64 w1, .int .i64 w2, .int .i64 w3]) false).run Tryd.prog w6 = .ok (.int .i64 v1) w6 ∧ Boxes w6 [(b1, [.int .i64 w1, .int .i64 w2, .int .i64 w3], 65)])
 refine HW.val (i := 4) hH (by kernel_rfl) rfl (Wants.free rfl) rfl (Vl.mapEntry (v := .tuple #[.int .i64 v2, .int .i64 s1]) rfl rfl hm1) (fun _ => hS3) ?_
 refine HW.pure (i := 5) hH rfl (by kernel_rfl) (Wants.free rfl) rfl (fun _ => hS3) (Rd.extract (v := .int .i64 s1) rfl rfl) ?_
 obtain ⟨w7, hm2, h⟩ := h
 refine HW.eff (i := 6) hH (by kernel_rfl) rfl (Wants.free rfl) rfl (Ef.entryStore rfl rfl rfl hm2) (fun hc => by cases hc) ?_
 obtain ⟨hsm2, h⟩ := h
 replace hB := Boxes.sameS hB hsm2 (by simp)
 refine HW.done hH (by kernel_rfl) ?_
 refine NW.then ?_
 refine CW.seq ?_
 refine CW.region fun L hL => ?_
 obtain ⟨t2, hc2, h⟩ := h
 refine LW.rd hL rfl (Wants.free rfl) rfl (Rd.ld (v := .map t2) rfl (by kernel_rfl) (eqs hc2)) ?_
 refine LW.rd hL rfl (Wants.free rfl) rfl (Rd.ldN (cs := [.int .i64 w1, .int .i64 w2, .int .i64 w3]) rfl (by kernel_rfl) (by kernel_rfl) (cellsS (box_cells (hB.at (i := 0) rfl) rfl))) ?_
 obtain ⟨v3, hl2, h⟩ := h
 refine LW.rd hL rfl (Wants.free rfl) rfl (Rd.lookup (v := .int .i64 v3) rfl rfl (fun _ e => e ▸ hl2)) ?_
 refine LW.rd hL rfl (Wants.free rfl) rfl (Rd.bin (v := .bool (decide (v3 > 1))) rfl rfl (fun w => by kernel_rfl)) ?_
 refine LW.nil hL rfl ?_
 refine NW.then ?_
 refine CW.cond rfl (fun hb1 => ?_) (fun hb1 => ?_)
 ·replace h := h.1 hb1
  refine CW.ret ?_
  refine RW.then ?_
  exact res0 rfl ⟨rfl, h⟩
 ·replace h := h.2 hb1
  refine CW.skip ?_
  refine NW.then ?_
  refine CW.seq ?_
  refine CW.region fun L hL => ?_
  obtain ⟨t3, hc3, h⟩ := h
  refine LW.rd hL rfl (Wants.free rfl) rfl (Rd.ld (v := .pointer t3) rfl (by kernel_rfl) (eqs hc3)) ?_
  refine LW.rd hL rfl (Wants.free rfl) rfl (Rd.fa (v := .pointer (some (⟨b1, 0, none⟩ : Addr))) rfl (fun _ => by kernel_rfl)) ?_
  refine LW.rd hL rfl (Wants.free rfl) rfl (Rd.ldN (cs := [.int .i64 w1, .int .i64 w2]) rfl (by kernel_rfl) (by kernel_rfl) (cellsS (box_cells (hB.at (i := 0) rfl) rfl))) ?_
  refine LW.rd hL rfl (Wants.free rfl) rfl (Rd.fa (v := .pointer (some (⟨b1, 2, none⟩ : Addr))) rfl (fun _ => by kernel_rfl)) ?_
  refine LW.rd hL rfl (Wants.free rfl) rfl (Rd.ld (v := .int .i64 w3) rfl (by kernel_rfl) (eqs (box_cell (hB.at (i := 0) rfl) rfl))) ?_
  refine LW.call hL rfl (Wants.free rfl) rfl (Cl.fn (f := 23) rfl Tryd.func23 (by kernel_rfl) rfl) h (fun e w8 h_ => ?_)
  clear h
  obtain ⟨r1, r2, r3, r4, r4n, r4c, r5, rfl, h⟩ := h_
  obtain ⟨hsm3, h⟩ := h
  replace hB := Boxes.sameS hB hsm3 (by simp)
  refine ⟨_, rfl, ?_⟩
  refine LW.rd hL rfl (Wants.free rfl) rfl (Rd.move (v := .tuple #[.agg #[.int .i64 r1, .int .i64 r2, .int .i64 r3, .slice r4 r4n r4c], .bool r5]) rfl) ?_
  refine LW.rd hL rfl (Wants.free rfl) rfl (Rd.extract (v := .agg #[.int .i64 r1, .int .i64 r2, .int .i64 r3, .slice r4 r4n r4c]) rfl rfl) ?_
  refine LW.rd hL rfl (Wants.free rfl) rfl (Rd.extract (v := .bool r5) rfl rfl) ?_
  obtain ⟨b2, hb_b2⟩ : ∃ b2, b2 = World.size w8 := ⟨_, rfl⟩
  obtain ⟨w9, hw_w9⟩ : ∃ w9, w9 = World.alloc w8 (.cells #[.int .i64 0, .int .i64 0, .int .i64 0, .slice none 0 0] 50) := ⟨_, rfl⟩
  refine LW.val hL rfl (Wants.free rfl) rfl (boxE hb_b2 hw_w9 (Vl.alloc (z := .agg #[.int .i64 0, .int .i64 0, .int .i64 0, .slice none 0 0]) (by kernel_rfl))) ?_
  replace hB := Boxes.alloc (cs := [.int .i64 0, .int .i64 0, .int .i64 0, .slice none 0 0]) (T := 50) hB hb_b2 hw_w9
  have hlo_b2 := sil_lo (Chg.refl [] w8) hb_b2
  have hc_w9 := sil_alloc (Chg.refl [] w8) hw_w9
  obtain ⟨w10, hw_w10⟩ : ∃ x, x = setCells w9 (⟨b2, 0, none⟩ : Addr) 0 [.int .i64 r1, .int .i64 r2, .int .i64 r3, .slice r4 r4n r4c] := ⟨_, rfl⟩
  refine LW.eff hL rfl (Wants.free rfl) rfl (stNE hw_w10 (Ef.stN (cs := [.int .i64 r1, .int .i64 r2, .int .i64 r3, .slice r4 r4n r4c]) rfl rfl (by kernel_rfl) (List.forall_mem_cons.2 ⟨rfl, (List.forall_mem_cons.2 ⟨rfl, (List.forall_mem_cons.2 ⟨rfl, (List.forall_mem_cons.2 ⟨rfl, (List.forall_mem_nil _)⟩)⟩)⟩)⟩) (has_of (hB.at (i := 0) rfl) (by simp)) (free_of' (hB.at (i := 0) rfl)))) ?_
  replace hB : Boxes w10 [(b2, [.int .i64 r1, .int .i64 r2, .int .i64 r3, .slice r4 r4n r4c], 50), (b1, [.int .i64 w1, .int .i64 w2, .int .i64 w3], 65)] := Boxes.store (vs := [.int .i64 r1, .int .i64 r2, .int .i64 r3, .slice r4 r4n r4c]) (i := 0) (o := 0) hB rfl rfl rfl rfl hw_w10
  have hc_w10 := sil_new hc_w9 (sil_cN hw_w10) hlo_b2
  refine LW.rd hL rfl (Wants.free rfl) rfl (Rd.assign (v := .bool r5) rfl) ?_
  refine LW.nil hL rfl ?_
  refine NW.then ?_
  replace h := h b2 w10 ⟨hlo_b2, lt_of_heap (hB.at (i := 0) rfl)⟩ hc_w10
  obtain ⟨J1, hJ1, h⟩ := h
  refine CW.cut (S := Unit) (fun s2 => [(4, .pointer (some cap4)), (6, .pointer (some (⟨b2, 0, none⟩ : Addr)))]) (fun s2 w11 => J1 w11 ∧ Boxes w11 [(b2, [.int .i64 r1, .int .i64 r2, .int .i64 r3, .slice r4 r4n r4c], 50)]) (fun s2 w11 h_ => ?_) ?_
  ·obtain ⟨h_, hB⟩ := h_; replace h := hJ1 w11 h_; clear h_
   refine CW.seq ?_
   refine CW.region fun L hL => ?_
   refine LW.rd hL rfl (Wants.free rfl) rfl (Rd.fa (v := .pointer (some (⟨b2, 3, none⟩ : Addr))) rfl (fun _ => by kernel_rfl)) ?_
   refine LW.rd hL rfl (Wants.free rfl) rfl (Rd.ld (v := .slice r4 r4n r4c) rfl (by kernel_rfl) (eqs (box_cell (hB.at (i := 0) rfl) rfl))) ?_
   refine LW.rd hL rfl (Wants.free rfl) rfl (Rd.builtin (v := .int .i64 (r4n : Int)) rfl (fun _ _ => by kernel_rfl)) ?_
   refine LW.rd hL rfl (Wants.free rfl) rfl (Rd.move (v := .int .i64 0) rfl) ?_
   refine LW.nil hL rfl ?_
   refine NW.then ?_
   refine CW.block ?_
   obtain ⟨I1, m1, hI1, h⟩ := h
   refine CW.loop (S := Int) (fun x1 => [(4, .pointer (some cap4)), (6, .pointer (some (⟨b2, 0, none⟩ : Addr))), (39, .slice r4 r4n r4c), (40, .int .i64 (r4n : Int)), (41, .int .i64 x1)]) (fun x1 w12 => I1 x1 w12 ∧ Boxes w12 [(b2, [.int .i64 r1, .int .i64 r2, .int .i64 r3, .slice r4 r4n r4c], 50)]) (fun x1 w12 => m1 x1 w12) 0 (by exact ⟨rfl, rfl, rfl, rfl, rfl, trivial⟩) ⟨hI1, hB⟩ (fun x1 w12 hI1 => ?_)
   obtain ⟨hI1, hB⟩ := hI1
   replace h := h x1 w12 hI1
   refine CW.seq ?_
   refine CW.region fun L hL => ?_
   refine LW.rd hL rfl (Wants.free rfl) rfl (Rd.bin (v := .bool (decide (x1 < (r4n : Int)))) rfl rfl (fun w => by kernel_rfl)) ?_
   refine LW.nil hL rfl ?_
   refine NW.then ?_
   refine CW.seq ?_
   refine CW.cond rfl (fun hb2 => ?_) (fun hb2 => ?_)
   ·replace h := h.1 hb2
    refine CW.skip ?_
    refine NW.then ?_
    refine CW.seq ?_
    refine CW.block ?_
    refine CW.seq ?_
    refine CW.region fun L hL => ?_
    obtain ⟨a1, he1, hi1, hi2, h⟩ := h
    refine LW.rd hL rfl (Wants.free rfl) rfl (Rd.iaS (q := a1) (sz := 2) (by rw [← he1]; rfl) rfl Tryd.underlying22 (by kernel_rfl) hi1 hi2) ?_
    obtain ⟨t4, t5, hc4, h⟩ := h
    refine LW.rd hL rfl (Wants.free rfl) rfl (Rd.ldN (cs := [.int .i64 t4, .int .i64 t5]) rfl (by kernel_rfl) (by kernel_rfl) (cellsS hc4)) ?_
    obtain ⟨b3, hb_b3⟩ : ∃ b3, b3 = World.size w12 := ⟨_, rfl⟩
    obtain ⟨w13, hw_w13⟩ : ∃ w13, w13 = World.alloc w12 (.cells #[.int .i64 0, .int .i64 0] 27) := ⟨_, rfl⟩
    refine LW.val hL rfl (Wants.free rfl) rfl (boxE hb_b3 hw_w13 (Vl.alloc (z := .agg #[.int .i64 0, .int .i64 0]) (by kernel_rfl))) ?_
    replace hB := Boxes.alloc (cs := [.int .i64 0, .int .i64 0]) (T := 27) hB hb_b3 hw_w13
    have hlo_b3 := sil_lo (Chg.refl [] w12) hb_b3
    have hc_w13 := sil_alloc (Chg.refl [] w12) hw_w13
    obtain ⟨w14, hw_w14⟩ : ∃ x, x = setCells w13 (⟨b3, 0, none⟩ : Addr) 0 [.int .i64 t4, .int .i64 t5] := ⟨_, rfl⟩
    refine LW.eff hL rfl (Wants.free rfl) rfl (stNE hw_w14 (Ef.stN (cs := [.int .i64 t4, .int .i64 t5]) rfl rfl (by kernel_rfl) (List.forall_mem_cons.2 ⟨rfl, (List.forall_mem_cons.2 ⟨rfl, (List.forall_mem_nil _)⟩)⟩) (has_of (hB.at (i := 0) rfl) (by simp)) (free_of' (hB.at (i := 0) rfl)))) ?_
    replace hB : Boxes w14 [(b3, [.int .i64 t4, .int .i64 t5], 27), (b2, [.int .i64 r1, .int .i64 r2, .int .i64 r3, .slice r4 r4n r4c], 50)] := Boxes.store (vs := [.int .i64 t4, .int .i64 t5]) (i := 0) (o := 0) hB rfl rfl rfl rfl hw_w14
    have hc_w14 := sil_new hc_w13 (sil_cN hw_w14) hlo_b3
    refine LW.nil hL rfl ?_
    refine NW.then ?_
    refine CW.region fun L hL => ?_
    replace h := h b3 w14 ⟨hlo_b3, lt_of_heap (hB.at (i := 0) rfl)⟩ hc_w14
    obtain ⟨t6, hc5, h⟩ := h
    refine LW.rd hL rfl (Wants.free rfl) rfl (Rd.ld (v := t6) rfl (by kernel_rfl) (eqs hc5)) ?_
    refine LW.rd hL rfl (Wants.free rfl) rfl (Rd.ldN (cs := [.int .i64 t4, .int .i64 t5]) rfl (by kernel_rfl) (by kernel_rfl) (cellsS (box_cells (hB.at (i := 0) rfl) rfl))) ?_
    refine LW.rd hL rfl (Wants.free rfl) rfl (Rd.fa (v := .pointer (some (⟨b2, 0, none⟩ : Addr))) rfl (fun _ => by kernel_rfl)) ?_
    refine LW.rd hL rfl (Wants.free rfl) rfl (Rd.ld (v := .int .i64 r1) rfl (by kernel_rfl) (eqs (box_cell (hB.at (i := 1) rfl) rfl))) ?_
    refine LW.rd hL rfl (Wants.free rfl) rfl (Rd.build (v := .agg #[.int .i64 t4, .int .i64 t5, .int .i64 r1]) rfl (fun _ => by kernel_rfl)) ?_
    obtain ⟨f1, cap_f1, fn_f1, he_f1, hf_f1, hn_f1, hb_f1, h⟩ := h
    refine LW.call hL rfl (Wants.free rfl) rfl (Cl.fv (f := f1) (cap := cap_f1) (by rw [← he_f1]; rfl) rfl hf_f1 hn_f1 hb_f1) h (fun e w15 h_ => ?_)
    clear h
    obtain ⟨rfl, h⟩ := h_
    obtain ⟨hsm4, h⟩ := h
    replace hB := Boxes.sameS (hB.sel [1] (by decide) rfl) hsm4 (by simp)
    refine ⟨_, rfl, ?_⟩
    refine LW.nil hL rfl ?_
    refine NW.block ?_
    refine NW.then ?_
    refine CW.region fun L hL => ?_
    refine LW.rd hL rfl (Wants.free rfl) rfl (Rd.bin (v := .int .i64 (IntKind.wrap .i64 (x1 + 1))) rfl rfl (fun w => by kernel_rfl)) ?_
    refine LW.rd hL rfl (Wants.free rfl) rfl (Rd.move (v := .int .i64 (IntKind.wrap .i64 (x1 + 1))) rfl) ?_
    refine LW.nil hL rfl ?_
    exact NW.loop (S := Int) (Ek := fun x1 => [(4, .pointer (some cap4)), (6, .pointer (some (⟨b2, 0, none⟩ : Addr))), (39, .slice r4 r4n r4c), (40, .int .i64 (r4n : Int)), (41, .int .i64 x1)]) (IntKind.wrap .i64 (x1 + 1)) (by exact ⟨rfl, rfl, rfl, rfl, rfl, trivial⟩) ⟨⟨h.1, hB⟩, h.2⟩
   ·replace h := h.2 hb2
    refine CW.exit ?_
    refine XW.then ?_
    refine XW.then ?_
    refine XW.hit ?_
    exact res0n rfl (by exact ⟨rfl, h⟩)
  ·skip
   refine CW.seq ?_
   refine CW.region fun L hL => ?_
   refine LW.rd hL rfl (Wants.free rfl) rfl (Rd.move (v := .bool r5) rfl) ?_
   refine LW.rd hL rfl (Wants.free rfl) rfl (Rd.un (v := .bool (!r5)) rfl (fun _ => by kernel_rfl)) ?_
   refine LW.nil hL rfl ?_
   refine NW.then ?_
   refine CW.cond rfl (fun hb3 => ?_) (fun hb3 => ?_)
   ·replace h := h.1 hb3
    obtain ⟨w16, hw_w16⟩ : ∃ x, x = World.drew w10 := ⟨_, rfl⟩
    have hc_w16 := sil_drew (Chg.refl [] w10) hw_w16
    replace hB := hB.drew hw_w16
    replace h := h  w16  hc_w16
    obtain ⟨t7, hc6, h⟩ := h
    obtain ⟨v4, hl3, h⟩ := h
    refine CW.drawn (fun w => w.cell? cap3 = some (.map t7) ∧ (Instr.lookup 62 (.map t7) (.agg #[.int .i64 w1, .int .i64 w2]) false).run Tryd.prog w = .ok (.int .i64 v4) w ∧ Boxes w [(b1, [.int .i64 w1, .int .i64 w2, .int .i64 w3], 65)]) 7 (by kernel_rfl) fun H hH => ?_
    rw [← hw_w16]
    have hS4 : w16.cell? cap3 = some (.map t7) ∧ (Instr.lookup 62 (.map t7) (.agg #[.int .i64 w1, .int .i64 w2]) false).run Tryd.prog w16 = .ok (.int .i64 v4) w16 ∧ Boxes w16 [(b1, [.int .i64 w1, .int .i64 w2, .int .i64 w3], 65)] := ⟨hc6, hl3, (hB.sel [1] (by decide) rfl)⟩
    refine HW.take (i := 0) hH rfl (by kernel_rfl) (by kernel_rfl) (Wants.free rfl) rfl (fun _ => hS4) (Rd.ld (v := .map t7) rfl (by kernel_rfl) (fun w h => h.1)) ?_
    refine HW.pure (i := 1) hH rfl (by kernel_rfl) (Wants.free rfl) rfl (fun _ => hS4) (Rd.fa (v := .pointer (some (⟨b1, 0, none⟩ : Addr))) rfl (fun _ => by kernel_rfl)) ?_
    refine HW.take (i := 2) hH rfl (by kernel_rfl) (by kernel_rfl) (Wants.free rfl) rfl (fun _ => hS4) (Rd.ldN (cs := [.int .i64 w1, .int .i64 w2]) rfl (by kernel_rfl) (by kernel_rfl) (fun w h => cellsAt_get (box_cells (Boxes.at (i := 0) h.2.2 rfl) rfl))) ?_
    refine HW.take (i := 3) hH rfl (by kernel_rfl) (by kernel_rfl) (Wants.free rfl) rfl (fun _ => hS4) (Rd.lookup (v := .int .i64 v4) rfl rfl (fun w h => h.2.1)) ?_
    refine HW.pure (i := 4) hH rfl (by kernel_rfl) (Wants.free rfl) rfl (fun _ => hS4) (Rd.bin (v := .int .i64 (IntKind.wrap .i64 (v4 + 1))) rfl rfl (fun w => by kernel_rfl)) ?_
    obtain ⟨v5, s3, w17, hm3, h⟩ := h
    obtain ⟨hS5, h⟩ := h
    obtain ⟨hsm5, h⟩ := h
    replace hB := Boxes.sameS hB hsm5 (by simp)
    have hS6 := (⟨hS5.1, hS5.2, (hB.sel [1] (by decide) rfl)⟩ : w17.cell? cap3 = some (.map t7) ∧ (Instr.lookup 62 (.map t7) (.agg #[.int .i64 w1, .int .i64 w2]) false).run Tryd.prog w17 = .ok (.int .i64 v4) w17 ∧ Boxes w17 [(b1, [.int .i64 w1, .int .i64 w2, .int .i64 w3], 65)])
    refine HW.val (i := 5) hH (by kernel_rfl) rfl (Wants.free rfl) rfl (Vl.mapEntry (v := .tuple #[.int .i64 v5, .int .i64 s3]) rfl rfl hm3) (fun _ => hS6) ?_
    refine HW.pure (i := 6) hH rfl (by kernel_rfl) (Wants.free rfl) rfl (fun _ => hS6) (Rd.extract (v := .int .i64 s3) rfl rfl) ?_
    obtain ⟨w18, hm4, h⟩ := h
    refine HW.eff (i := 7) hH (by kernel_rfl) rfl (Wants.free rfl) rfl (Ef.entryStore rfl rfl rfl hm4) (fun hc => by cases hc) ?_
    obtain ⟨hsm6, h⟩ := h
    replace hB := Boxes.sameS (hB.sel [0] (by decide) rfl) hsm6 (by simp)
    refine HW.done hH (by kernel_rfl) ?_
    exact NW.cut (S := Unit) (Ek := fun s2 => [(4, .pointer (some cap4)), (6, .pointer (some (⟨b2, 0, none⟩ : Addr)))]) () (by exact ⟨rfl, rfl, trivial⟩) ⟨h, hB⟩
   ·replace h := h.2 hb3
    refine CW.skip ?_
    exact NW.cut (S := Unit) (Ek := fun s2 => [(4, .pointer (some cap4)), (6, .pointer (some (⟨b2, 0, none⟩ : Addr)))]) () (by exact ⟨rfl, rfl, trivial⟩) ⟨h, (hB.sel [0] (by decide) rfl)⟩
/- (*pomander/query.History).before -/
def W_query_History_before (h1 : Option Addr) (p1 : Int) (p2 : Int) (step1 : Int) (w : World) (R : Int → Int → Int → (Option Addr) → Nat → Nat → Bool → World → Prop) : Prop :=
 ∃ a1 : Addr, h1 = some a1 ∧ (∀ (b4 b3 b2 b1 : Nat) (w5 : World), (w.heap.size ≤ b4 ∧ b4 < w5.heap.size) → (w.heap.size ≤ b3 ∧ b3 < w5.heap.size) → (w.heap.size ≤ b2 ∧ b2 < w5.heap.size) → (w.heap.size ≤ b1 ∧ b1 < w5.heap.size) → Chg [] w w5 → (∃ (t1 : Option Nat), w5.cell? a1 = some (.map t1) ∧ (∃ (v1 : Option Addr) (v1n : Nat) (v1c : Nat), (Instr.lookup 57 (.map t1) (.agg #[.int .i64 p1, .int .i64 p2]) false).run Tryd.prog w5 = .ok (.slice v1 v1n v1c) w5 ∧ (Calls Tryd.prog 32 #[.slice v1 v1n v1c] w5 fun e w6 => ∃ (r6 : Value), e = .returned (r6) ∧ (Same w5 w6 [b4, b3, b2] ∧ (∃ (S1 Sp1 : List (Int × Int × Int × Int × (Option Addr) × Nat × Nat) → Prop) (keep1 : List Nat), XR.IsFn Tryd.prog r6 ∧ XR.Iterates Tryd.prog r6 (fun x : Int × Int × Int × Int × (Option Addr) × Nat × Nat => #[.int .i64 x.1, .agg #[.int .i64 x.2.1, .int .i64 x.2.2.1, .int .i64 x.2.2.2.1, .slice x.2.2.2.2.1 x.2.2.2.2.2.1 x.2.2.2.2.2.2]]) S1 Sp1 keep1 w6 ∧ (∀ i_ ∈ keep1, i_ < w6.heap.size) ∧ ∃ (I1 : List Nat → List (Int × Int × Int × Int × (Option Addr) × Nat × Nat) → World → Prop) (X1 : Int → Int → Int → (Option Addr) → Nat → Nat → Bool → List Nat → List (Int × Int × Int × Int × (Option Addr) × Nat × Nat) → World → Prop), (∀ (pre_ : List (Int × Int × Int × Int × (Option Addr) × Nat × Nat)), XR.Stab w6 (fun O_ w_ => I1 O_ pre_ w_)) ∧ (∀ (c1 : Int) (c2 : Int) (c3 : Int) (c4 : Option Addr) (c4n : Nat) (c4c : Nat) (c5 : Bool) (pre_ : List (Int × Int × Int × Int × (Option Addr) × Nat × Nat)), XR.Stab w6 (fun O_ w_ => X1 c1 c2 c3 c4 c4n c4c c5 O_ pre_ w_)) ∧ (∀ (O1 : List Nat) (w7 : World), Chg [] w6 w7 → XR.InO w6 O1 w7 → I1 O1 ([]) w7) ∧ (∀ (l1 : Nat) (O1 : List Nat) (pre1 : List (Int × Int × Int × Int × (Option Addr) × Nat × Nat)) (x1 : Int) (x2 : Int) (x3 : Int) (x4 : Int) (x5 : Option Addr) (x5n : Nat) (x5c : Nat) (w7 : World), XR.InO w6 O1 w7 → l1 ∈ O1 → Sp1 (pre1 ++ [(x1, x2, x3, x4, x5, x5n, x5c)]) → I1 O1 pre1 w7 → (∀ (b5 : Nat) (w10 : World), (w7.heap.size ≤ b5 ∧ b5 < w10.heap.size) → Chg [l1] w7 w10 → (((decide (x2 < step1)) = true → ∀ (w12 : World), Chg [b3, b4] w10 w12 → ((w10.heap.size ≤ w12.heap.size ∧ X1 x2 x3 x4 x5 x5n x5c true O1 (pre1 ++ [(x1, x2, x3, x4, x5, x5n, x5c)]) w12 ∧ Same w10 w12 (keep1 ++ O1)))) ∧ ((decide (x2 < step1)) = false → (w10.heap.size ≤ w10.heap.size ∧ I1 O1 (pre1 ++ [(x1, x2, x3, x4, x5, x5n, x5c)]) w10 ∧ Same w10 w10 (keep1 ++ O1)))))) ∧ (∀ (d1 : Nat) (O2 : List Nat) (xs1 : List (Int × Int × Int × Int × (Option Addr) × Nat × Nat)) (w13 : World), XR.InO w6 O2 w13 → d1 ∈ O2 → S1 xs1 → I1 O2 xs1 w13 → (∀ (w15 : World), Chg [b3, b4] w13 w15 → (∀ w16 : World, Chg [d1] w15 w16 → (R 0 0 0 none 0 0 false w16)))) ∧ (∀ (d2 : Nat) (O3 : List Nat) (xs2 : List (Int × Int × Int × Int × (Option Addr) × Nat × Nat)) (c1 : Int) (c2 : Int) (c3 : Int) (c4 : Option Addr) (c4n : Nat) (c4c : Nat) (c5 : Bool) (w17 : World), XR.InO w6 O3 w17 → d2 ∈ O3 → Sp1 xs2 → X1 c1 c2 c3 c4 c4n c4c c5 O3 xs2 w17 → (∀ w18 : World, Chg [d2] w17 w18 → (R c1 c2 c3 c4 c4n c4c c5 w18)))))))))
set_option maxRecDepth 100000 in
theorem go_query_History_before (h1 : Option Addr) (p1 : Int) (p2 : Int) (step1 : Int) (w : World) (R : Int → Int → Int → (Option Addr) → Nat → Nat → Bool → World → Prop) (h : W_query_History_before h1 p1 p2 step1 w R) : Calls Tryd.prog 23 #[.pointer h1, .agg #[.int .i64 p1, .int .i64 p2], .int .i64 step1] w (fun e w' => ∃ (r1 : Int) (r2 : Int) (r3 : Int) (r4 : Option Addr) (r4n : Nat) (r4c : Nat) (r5 : Bool), e = .returned (.tuple #[.agg #[.int .i64 r1, .int .i64 r2, .int .i64 r3, .slice r4 r4n r4c], .bool r5]) ∧ R r1 r2 r3 r4 r4n r4c r5 w') := by
 unfold W_query_History_before at h
 refine XR.enterM (N := 25) Tryd.func23 rfl rfl ?_
 refine CW.seq ?_
 refine CW.region fun L hL => ?_
 obtain ⟨b1, hb_b1⟩ : ∃ b1, b1 = World.size w := ⟨_, rfl⟩
 obtain ⟨w1, hw_w1⟩ : ∃ w1, w1 = World.alloc w (.cells #[.int .i64 p1, .int .i64 p2] 27) := ⟨_, rfl⟩
 refine LW.val hL rfl (Wants.free rfl) rfl (boxE hb_b1 hw_w1 (Vl.box (v := .agg #[.int .i64 p1, .int .i64 p2]) rfl)) ?_
 have hB := Boxes.alloc (cs := [.int .i64 p1, .int .i64 p2]) (T := 27) (Boxes.nil w) hb_b1 hw_w1
 have hlo_b1 := sil_lo (Chg.refl [] w) hb_b1
 have hc_w1 := sil_alloc (Chg.refl [] w) hw_w1
 obtain ⟨b2, hb_b2⟩ : ∃ b2, b2 = World.size w1 := ⟨_, rfl⟩
 obtain ⟨w2, hw_w2⟩ : ∃ w2, w2 = World.alloc w1 (.cells #[.int .i64 step1] 2) := ⟨_, rfl⟩
 refine LW.val hL rfl (Wants.free rfl) rfl (boxE hb_b2 hw_w2 (Vl.box (v := .int .i64 step1) rfl)) ?_
 replace hB := Boxes.alloc (cs := [.int .i64 step1]) (T := 2) hB hb_b2 hw_w2
 have hlo_b2 := sil_lo hc_w1 hb_b2
 have hc_w2 := sil_alloc hc_w1 hw_w2
 obtain ⟨b3, hb_b3⟩ : ∃ b3, b3 = World.size w2 := ⟨_, rfl⟩
 obtain ⟨w3, hw_w3⟩ : ∃ w3, w3 = World.alloc w2 (.cells #[.int .i64 0, .int .i64 0, .int .i64 0, .slice none 0 0] 50) := ⟨_, rfl⟩
 refine LW.val hL rfl (Wants.free rfl) rfl (boxE hb_b3 hw_w3 (Vl.alloc (z := .agg #[.int .i64 0, .int .i64 0, .int .i64 0, .slice none 0 0]) (by kernel_rfl))) ?_
 replace hB := Boxes.alloc (cs := [.int .i64 0, .int .i64 0, .int .i64 0, .slice none 0 0]) (T := 50) hB hb_b3 hw_w3
 have hlo_b3 := sil_lo hc_w2 hb_b3
 have hc_w3 := sil_alloc hc_w2 hw_w3
 obtain ⟨b4, hb_b4⟩ : ∃ b4, b4 = World.size w3 := ⟨_, rfl⟩
 obtain ⟨w4, hw_w4⟩ : ∃ w4, w4 = World.alloc w3 (.cells #[.bool false] 4) := ⟨_, rfl⟩
 refine LW.val hL rfl (Wants.free rfl) rfl (boxE hb_b4 hw_w4 (Vl.alloc (z := .bool false) (by kernel_rfl))) ?_
 replace hB := Boxes.alloc (cs := [.bool false]) (T := 4) hB hb_b4 hw_w4
 have hlo_b4 := sil_lo hc_w3 hb_b4
 have hc_w4 := sil_alloc hc_w3 hw_w4
 refine LW.nil hL rfl ?_
 refine NW.then ?_
 refine CW.seq ?_
 refine CW.seq ?_
 obtain ⟨w5, hw_w5⟩ : ∃ x, x = World.drew w4 := ⟨_, rfl⟩
 have hc_w5 := sil_drew hc_w4 hw_w5
 replace hB := hB.drew hw_w5
 refine CW.drawn (fun w => w = w5) 6 (by kernel_rfl) fun H hH => ?_
 rw [← hw_w5]
 refine HW.pure (i := 0) hH rfl (by kernel_rfl) (Wants.free rfl) rfl (fun _ => rfl) (Rd.move (v := .pointer h1) rfl) ?_
 obtain ⟨a1, ha1, h⟩ := h
 refine HW.pure (i := 1) hH rfl (by kernel_rfl) (Wants.free rfl) rfl (fun _ => rfl) (Rd.nil (q := a1) (by rw [← ha1]; rfl)) ?_
 refine HW.pure (i := 2) hH rfl (by kernel_rfl) (Wants.free rfl) rfl (fun _ => rfl) (Rd.fa (v := .pointer (some a1)) rfl (fun _ => by kernel_rfl)) ?_
 replace h := h b4 b3 b2 b1 w5 ⟨hlo_b4, lt_of_heap (hB.at (i := 0) rfl)⟩ ⟨hlo_b3, lt_of_heap (hB.at (i := 1) rfl)⟩ ⟨hlo_b2, lt_of_heap (hB.at (i := 2) rfl)⟩ ⟨hlo_b1, lt_of_heap (hB.at (i := 3) rfl)⟩ hc_w5
 obtain ⟨t1, hc1, h⟩ := h
 refine HW.take (i := 3) hH rfl (by kernel_rfl) (by kernel_rfl) (Wants.free rfl) rfl (fun _ => rfl) (Rd.ld (v := .map t1) rfl (by kernel_rfl) (eqs hc1)) ?_
 refine HW.take (i := 4) hH rfl (by kernel_rfl) (by kernel_rfl) (Wants.free rfl) rfl (fun _ => rfl) (Rd.ldN (cs := [.int .i64 p1, .int .i64 p2]) rfl (by kernel_rfl) (by kernel_rfl) (cellsS (box_cells (hB.at (i := 3) rfl) rfl))) ?_
 obtain ⟨v1, v1n, v1c, hl1, h⟩ := h
 refine HW.take (i := 5) hH rfl (by kernel_rfl) (by kernel_rfl) (Wants.free rfl) rfl (fun _ => rfl) (Rd.lookup (v := .slice v1 v1n v1c) rfl rfl (fun _ e => e ▸ hl1)) ?_
 refine HW.call (i := 6) hH (by kernel_rfl) rfl (Wants.free rfl) rfl (Cl.fn (f := 32) rfl Tryd.func32 (by kernel_rfl) rfl) h (fun e w6 h_ => ?_)
 clear h
 obtain ⟨r6, rfl, h⟩ := h_
 obtain ⟨hsm1, h⟩ := h
 replace hB := Boxes.sameS (hB.sel [0, 1, 2] (by decide) rfl) hsm1 (by simp)
 refine ⟨_, rfl, (fun hc => by cases hc), ?_⟩
 refine HW.done hH (by kernel_rfl) ?_
 refine NW.then ?_
 refine CW.block ?_
 obtain ⟨S1, Sp1, keep1, hfn_, hit_, hkp_, I1, X1, hst_I1, hst_X1, h0_, hrd_, hdn_, hso_X1⟩ := h
 refine XR.CW.rangeV (α := Int × Int × Int × Int × (Option Addr) × Nat × Nat) (enc := (fun x : Int × Int × Int × Int × (Option Addr) × Nat × Nat => #[.int .i64 x.1, .agg #[.int .i64 x.2.1, .int .i64 x.2.2.1, .int .i64 x.2.2.2.1, .slice x.2.2.2.2.1 x.2.2.2.2.2.1 x.2.2.2.2.2.2]])) (S := S1) (Sp := Sp1) (keep := keep1) rfl hfn_ (fun _ => rfl) (by decide) hit_ (fun (O_ : List Nat) (pre_ : List (Int × Int × Int × Int × (Option Addr) × Nat × Nat)) (w_ : World) => I1 O_ pre_ w_ ∧ ∃ (u1 u2 u3 u4 u5 : Value), Boxes w_ [(b2, [.int .i64 step1], 2), (b3, [u1, u2, u3, u4], 50), (b4, [u5], 4)]) (fun (c_ : Code) (O_ : List Nat) (pre_ : List (Int × Int × Int × Int × (Option Addr) × Nat × Nat)) (w_ : World) => (c_ = Code.ret ∧ ∃ (c1 : Int) (c2 : Int) (c3 : Int) (c4 : Option Addr) (c4n : Nat) (c4c : Nat) (c5 : Bool), X1 c1 c2 c3 c4 c4n c4c c5 O_ pre_ w_ ∧ Boxes w_ [(b2, [.int .i64 step1], 2), (b3, [.int .i64 c1, .int .i64 c2, .int .i64 c3, .slice c4 c4n c4c], 50), (b4, [.bool c5], 4)])) ?_ ?_ ?_ hkp_ ?_ ?_ ?_
 ·intro pre_ O_ O2_ A_ B_ hi_ hO_ hc_ hO2_ hg_
  have hB0_ := (hB.sel [2, 1, 0] (by decide) rfl)
  obtain ⟨hi_, u1, u2, u3, u4, u5, hB⟩ := hi_
  exact ⟨hst_I1  pre_ O_ O2_ A_ B_ hi_ hO_ hc_ hO2_ hg_, u1, u2, u3, u4, u5, hB.stab hB0_ rfl hO_ hc_⟩
 ·intro c_ pre_ O_ O2_ A_ B_ hi_ hO_ hc_ hO2_ hg_
  have hB0_ := (hB.sel [2, 1, 0] (by decide) rfl)
  rcases hi_ with ⟨hcc_, c1, c2, c3, c4, c4n, c4c, c5, hi_, hB⟩
  ·exact ⟨hcc_, c1, c2, c3, c4, c4n, c4c, c5, hst_X1 c1 c2 c3 c4 c4n c4c c5 pre_ O_ O2_ A_ B_ hi_ hO_ hc_ hO2_ hg_, hB.stab hB0_ rfl hO_ hc_⟩
 ·intro O_ A_ hc_ hO_
  exact ⟨h0_ O_ A_ hc_ hO_, .int .i64 0, .int .i64 0, .int .i64 0, .slice none 0 0, .bool false, Boxes.chg (hB.sel [2, 1, 0] (by decide) rfl) hc_ (by simp)⟩
 ·intro l1 O1 pre1 x_ w7 hO_ hl_ hSp_ hi_
  obtain ⟨x1, x2, x3, x4, x5, x5n, x5c⟩ := x_
  obtain ⟨hi_, u1, u2, u3, u4, u5, hB⟩ := hi_
  have h := hrd_ l1 O1 pre1 x1 x2 x3 x4 x5 x5n x5c w7 hO_ hl_ hSp_ hi_
  refine XR.CW.region fun L hL => ?_
  obtain ⟨b5, hb_b5⟩ : ∃ b5, b5 = World.size w7 := ⟨_, rfl⟩
  obtain ⟨w8, hw_w8⟩ : ∃ w8, w8 = World.alloc w7 (.cells #[.int .i64 0, .int .i64 0, .int .i64 0, .slice none 0 0] 50) := ⟨_, rfl⟩
  refine XR.LW.val hL rfl (Wants.free rfl) rfl (boxE hb_b5 hw_w8 (Vl.alloc (z := .agg #[.int .i64 0, .int .i64 0, .int .i64 0, .slice none 0 0]) (by kernel_rfl))) ?_
  replace hB := Boxes.alloc (cs := [.int .i64 0, .int .i64 0, .int .i64 0, .slice none 0 0]) (T := 50) hB hb_b5 hw_w8
  have hlo_b5 := sil_lo (Chg.refl [] w7) hb_b5
  have hc_w8 := sil_alloc (Chg.refl [] w7) hw_w8
  obtain ⟨w9, hw_w9⟩ : ∃ x, x = setCells w8 (⟨b5, 0, none⟩ : Addr) 0 [.int .i64 x2, .int .i64 x3, .int .i64 x4, .slice x5 x5n x5c] := ⟨_, rfl⟩
  refine XR.LW.eff hL rfl (Wants.free rfl) rfl (stNE hw_w9 (Ef.stN (cs := [.int .i64 x2, .int .i64 x3, .int .i64 x4, .slice x5 x5n x5c]) rfl rfl (by kernel_rfl) (List.forall_mem_cons.2 ⟨rfl, (List.forall_mem_cons.2 ⟨rfl, (List.forall_mem_cons.2 ⟨rfl, (List.forall_mem_cons.2 ⟨rfl, (List.forall_mem_nil _)⟩)⟩)⟩)⟩) (has_of (hB.at (i := 0) rfl) (by simp)) (free_of' (hB.at (i := 0) rfl)))) ?_
  replace hB : Boxes w9 [(b5, [.int .i64 x2, .int .i64 x3, .int .i64 x4, .slice x5 x5n x5c], 50), (b2, [.int .i64 step1], 2), (b3, [u1, u2, u3, u4], 50), (b4, [u5], 4)] := Boxes.store (vs := [.int .i64 x2, .int .i64 x3, .int .i64 x4, .slice x5 x5n x5c]) (i := 0) (o := 0) hB rfl rfl rfl rfl hw_w9
  have hc_w9 := sil_new hc_w8 (sil_cN hw_w9) hlo_b5
  refine XR.LW.nil hL rfl ?_
  refine XR.NW.begin hc_w9 (fun w10 hcb_w10 hlp_ hib_ => ?_)
  have hc_w10 : Chg [l1] w7 w10 := sil_more hc_w9 hcb_w10
  replace hB := hB.notloop hlp_ hcb_w10
  replace h := h b5 w10 ⟨hlo_b5, lt_of_heap (hB.at (i := 0) rfl)⟩ hc_w10
  refine XR.CW.block ?_
  refine XR.CW.seq ?_
  refine XR.CW.region fun L hL => ?_
  refine XR.LW.rd hL rfl (Wants.free rfl) rfl (Rd.fa (v := .pointer (some (⟨b5, 0, none⟩ : Addr))) rfl (fun _ => by kernel_rfl)) ?_
  refine XR.LW.rd hL rfl (Wants.free rfl) rfl (Rd.ld (v := .int .i64 x2) rfl (by kernel_rfl) (eqs (box_cell (hB.at (i := 0) rfl) rfl))) ?_
  refine XR.LW.rd hL rfl (Wants.free rfl) rfl (Rd.ld (v := .int .i64 step1) rfl (by kernel_rfl) (eqs (box_cell (hB.at (i := 1) rfl) rfl))) ?_
  refine XR.LW.rd hL rfl (Wants.free rfl) rfl (Rd.bin (v := .bool (decide (x2 < step1))) rfl rfl (fun w => by kernel_rfl)) ?_
  refine XR.LW.nil hL rfl ?_
  refine XR.NW.then ?_
  refine XR.CW.cond rfl (fun hb1 => ?_) (fun hb1 => ?_)
  ·replace h := h.1 hb1
   refine XR.CW.seq ?_
   refine XR.CW.region fun L hL => ?_
   refine XR.LW.rd hL rfl (Wants.free rfl) rfl (Rd.ldN (cs := [.int .i64 x2, .int .i64 x3, .int .i64 x4, .slice x5 x5n x5c]) rfl (by kernel_rfl) (by kernel_rfl) (cellsS (box_cells (hB.at (i := 0) rfl) rfl))) ?_
   obtain ⟨w11, hw_w11⟩ : ∃ x, x = setCells w10 (⟨b3, 0, none⟩ : Addr) 0 [.int .i64 x2, .int .i64 x3, .int .i64 x4, .slice x5 x5n x5c] := ⟨_, rfl⟩
   refine XR.LW.eff hL rfl (Wants.free rfl) rfl (stNE hw_w11 (Ef.stN (cs := [.int .i64 x2, .int .i64 x3, .int .i64 x4, .slice x5 x5n x5c]) rfl rfl (by kernel_rfl) (List.forall_mem_cons.2 ⟨rfl, (List.forall_mem_cons.2 ⟨rfl, (List.forall_mem_cons.2 ⟨rfl, (List.forall_mem_cons.2 ⟨rfl, (List.forall_mem_nil _)⟩)⟩)⟩)⟩) (has_of (hB.at (i := 2) rfl) (by simp)) (free_of' (hB.at (i := 2) rfl)))) ?_
   replace hB : Boxes w11 [(b5, [.int .i64 x2, .int .i64 x3, .int .i64 x4, .slice x5 x5n x5c], 50), (b2, [.int .i64 step1], 2), (b3, [.int .i64 x2, .int .i64 x3, .int .i64 x4, .slice x5 x5n x5c], 50), (b4, [u5], 4)] := Boxes.store (vs := [.int .i64 x2, .int .i64 x3, .int .i64 x4, .slice x5 x5n x5c]) (i := 2) (o := 0) hB rfl rfl rfl rfl hw_w11
   have hc_w11 : Chg [b3] w10 w11 := sil_more (Chg.refl [] w10) (sil_cN hw_w11)
   obtain ⟨w12, hw_w12⟩ : ∃ x, x = World.setCell w11 (⟨b4, 0, none⟩ : Addr) (.bool true) := ⟨_, rfl⟩
   refine XR.LW.eff hL rfl (Wants.free rfl) rfl (stE hw_w12 (Ef.st rfl rfl rfl (by kernel_rfl) (box_cell (v := u5) (hB.at (i := 3) rfl) rfl) (free_of (hB.at (i := 3) rfl) 0))) ?_
   replace hB : Boxes w12 [(b5, [.int .i64 x2, .int .i64 x3, .int .i64 x4, .slice x5 x5n x5c], 50), (b2, [.int .i64 step1], 2), (b3, [.int .i64 x2, .int .i64 x3, .int .i64 x4, .slice x5 x5n x5c], 50), (b4, [.bool true], 4)] := Boxes.store1  (i := 3) (o := 0) hB rfl rfl rfl rfl hw_w12
   have hc_w12 : Chg [b3, b4] w10 w12 := sil_more hc_w11 (sil_c1 hw_w12)
   refine XR.LW.nil hL rfl ?_
   refine XR.NW.then ?_
   refine XR.CW.ret ?_
   refine RW.block ?_
   replace h := h  w12  hc_w12
   exact fun a_ ha_ => ⟨h.1, (⟨rfl, x2, x3, x4, x5, x5n, x5c, true, h.2.1, (hB.sel [1, 2, 3] (by decide) rfl)⟩), h.2.2⟩
  ·replace h := h.2 hb1
   refine XR.CW.skip ?_
   refine NW.block ?_
   exact fun a_ ha_ => ⟨h.1, ⟨h.2.1, u1, u2, u3, u4, u5, (hB.sel [1, 2, 3] (by decide) rfl)⟩, h.2.2⟩
 ·intro d1 O2 xs1 w13 hO_ hd_ hdh_ hS_ hi_
  obtain ⟨hi_, u1, u2, u3, u4, u5, hB⟩ := hi_
  have h := hdn_ d1 O2 xs1 w13 hO_ hd_ hS_ hi_
  have hK := XR.Marks.cons (XR.Marks.nil _) hdh_ (by simp)
  refine NW.block ?_
  refine NW.then ?_
  refine CW.seq ?_
  refine CW.region fun L hL => ?_
  refine LW.rd hL rfl (Wants.free rfl) rfl (Rd.build (v := .agg #[.int .i64 0, .int .i64 0, .int .i64 0, .slice none 0 0]) rfl (fun _ => by kernel_rfl)) ?_
  obtain ⟨w14, hw_w14⟩ : ∃ x, x = setCells w13 (⟨b3, 0, none⟩ : Addr) 0 [.int .i64 0, .int .i64 0, .int .i64 0, .slice none 0 0] := ⟨_, rfl⟩
  refine LW.eff hL rfl (Wants.free rfl) rfl (stNE hw_w14 (Ef.stN (cs := [.int .i64 0, .int .i64 0, .int .i64 0, .slice none 0 0]) rfl rfl (by kernel_rfl) (List.forall_mem_cons.2 ⟨rfl, (List.forall_mem_cons.2 ⟨rfl, (List.forall_mem_cons.2 ⟨rfl, (List.forall_mem_cons.2 ⟨rfl, (List.forall_mem_nil _)⟩)⟩)⟩)⟩) (has_of (hB.at (i := 1) rfl) (by simp)) (free_of' (hB.at (i := 1) rfl)))) ?_
  replace hK := XR.Marks.set hK (hB.at (i := 1) rfl) (sil_cN hw_w14)
  replace hB : Boxes w14 [(b2, [.int .i64 step1], 2), (b3, [.int .i64 0, .int .i64 0, .int .i64 0, .slice none 0 0], 50), (b4, [u5], 4)] := Boxes.store (vs := [.int .i64 0, .int .i64 0, .int .i64 0, .slice none 0 0]) (i := 1) (o := 0) hB rfl rfl rfl rfl hw_w14
  have hc_w14 : Chg [b3] w13 w14 := sil_more (Chg.refl [] w13) (sil_cN hw_w14)
  obtain ⟨w15, hw_w15⟩ : ∃ x, x = World.setCell w14 (⟨b4, 0, none⟩ : Addr) (.bool false) := ⟨_, rfl⟩
  refine LW.eff hL rfl (Wants.free rfl) rfl (stE hw_w15 (Ef.st rfl rfl rfl (by kernel_rfl) (box_cell (v := u5) (hB.at (i := 2) rfl) rfl) (free_of (hB.at (i := 2) rfl) 0))) ?_
  replace hK := XR.Marks.set hK (hB.at (i := 2) rfl) (sil_c1 hw_w15)
  replace hB : Boxes w15 [(b2, [.int .i64 step1], 2), (b3, [.int .i64 0, .int .i64 0, .int .i64 0, .slice none 0 0], 50), (b4, [.bool false], 4)] := Boxes.store1  (i := 2) (o := 0) hB rfl rfl rfl rfl hw_w15
  have hc_w15 : Chg [b3, b4] w13 w15 := sil_more hc_w14 (sil_c1 hw_w15)
  refine LW.nil hL rfl ?_
  refine NW.then ?_
  replace h := h  w15  hc_w15
  refine CW.ret ?_
  exact XR.resM (ms := [d1]) (vs := [.agg #[.int .i64 0, .int .i64 0, .int .i64 0, .slice none 0 0], .bool false]) hK rfl (fun w_ hc_ => ⟨(ResOK.c rfl (lvN (cs := [.int .i64 0, .int .i64 0, .int .i64 0, .slice none 0 0]) (by kernel_rfl) (by kernel_rfl) (cellsAt_get (box_cells (Boxes.at (i := 1) (hB.marks hK hc_) rfl) rfl))) (ResOK.c rfl (lv1 (by kernel_rfl) (box_cell (Boxes.at (i := 2) (hB.marks hK hc_) rfl) rfl)) ResOK.nil)), 0, 0, 0, none, 0, 0, false, rfl, h w_ hc_⟩)
 ·intro d2 c_ O3 xs2 w17 hO_ hd_ hdh_ hS_ hi_
  rcases hi_ with ⟨rfl, c1, c2, c3, c4, c4n, c4c, c5, hi_, hB⟩
  ·have h := hso_X1 d2 O3 xs2 c1 c2 c3 c4 c4n c4c c5 w17 hO_ hd_ hS_ hi_
   have hK := XR.Marks.cons (XR.Marks.nil _) hdh_ (by simp)
   refine CW.ret ?_
   refine RW.block ?_
   refine RW.then ?_
   exact XR.resM (ms := [d2]) (vs := [.agg #[.int .i64 c1, .int .i64 c2, .int .i64 c3, .slice c4 c4n c4c], .bool c5]) hK rfl (fun w_ hc_ => ⟨(ResOK.c rfl (lvN (cs := [.int .i64 c1, .int .i64 c2, .int .i64 c3, .slice c4 c4n c4c]) (by kernel_rfl) (by kernel_rfl) (cellsAt_get (box_cells (Boxes.at (i := 1) (hB.marks hK hc_) rfl) rfl))) (ResOK.c rfl (lv1 (by kernel_rfl) (box_cell (Boxes.at (i := 2) (hB.marks hK hc_) rfl) rfl)) ResOK.nil)), c1, c2, c3, c4, c4n, c4c, c5, rfl, h w_ hc_⟩)
/- (*pomander/query.History).Len -/
def W_query_History_Len (h1 : Option Addr) (w : World) (R : Int → World → Prop) : Prop :=
 Calls Tryd.prog 20 #[.pointer h1] w fun e w1 => ∃ (r2 : Bool), e = .returned (.bool r2) ∧ ((r2 = true → R 0 w1) ∧ (r2 = false → ∃ a1 : Addr, h1 = some a1 ∧ (∃ (t1 : Int), w1.cell? (a1.add 1) = some (.int .i64 t1) ∧ (R t1 w1))))
set_option maxRecDepth 100000 in
theorem go_query_History_Len (h1 : Option Addr) (w : World) (R : Int → World → Prop) (h : W_query_History_Len h1 w R) : Calls Tryd.prog 27 #[.pointer h1] w (fun e w' => ∃ (r1 : Int), e = .returned (.int .i64 r1) ∧ R r1 w') := by
 unfold W_query_History_Len at h
 refine enter (N := 9) Tryd.func27 rfl rfl ?_
 refine CW.seq ?_
 refine CW.region fun L hL => ?_
 refine LW.rd hL rfl (Wants.free rfl) rfl (Rd.assign (v := .int .i64 0) rfl) ?_
 refine LW.nil hL rfl ?_
 refine NW.then ?_
 refine CW.seq ?_
 refine CW.seq ?_
 refine CW.region fun L hL => ?_
 refine LW.rd hL rfl (Wants.free rfl) rfl (Rd.move (v := .pointer h1) rfl) ?_
 refine LW.call hL rfl (Wants.free rfl) rfl (Cl.fn (f := 20) rfl Tryd.func20 (by kernel_rfl) rfl) h (fun e w1 h_ => ?_)
 clear h
 obtain ⟨r2, rfl, h⟩ := h_
 refine ⟨_, rfl, ?_⟩
 refine LW.nil hL rfl ?_
 refine NW.then ?_
 refine CW.cond rfl (fun hb1 => ?_) (fun hb1 => ?_)
 ·replace h := h.1 hb1
  refine CW.seq ?_
  refine CW.region fun L hL => ?_
  refine LW.rd hL rfl (Wants.free rfl) rfl (Rd.assign (v := .int .i64 0) rfl) ?_
  refine LW.nil hL rfl ?_
  refine NW.then ?_
  refine CW.ret ?_
  refine RW.then ?_
  exact res1 rfl rfl ⟨0, rfl, h⟩
 ·replace h := h.2 hb1
  refine CW.skip ?_
  refine NW.then ?_
  refine CW.seq ?_
  refine CW.region fun L hL => ?_
  refine LW.rd hL rfl (Wants.free rfl) rfl (Rd.move (v := .pointer h1) rfl) ?_
  obtain ⟨a1, ha1, h⟩ := h
  refine LW.rd hL rfl (Wants.free rfl) rfl (Rd.nil (q := a1) (by rw [← ha1]; rfl)) ?_
  refine LW.rd hL rfl (Wants.free rfl) rfl (Rd.fa (v := .pointer (some (a1.add 1))) rfl (fun _ => by kernel_rfl)) ?_
  obtain ⟨t1, hc1, h⟩ := h
  refine LW.rd hL rfl (Wants.free rfl) rfl (Rd.ld (v := .int .i64 t1) rfl (by kernel_rfl) (eqs hc1)) ?_
  refine LW.rd hL rfl (Wants.free rfl) rfl (Rd.assign (v := .int .i64 t1) rfl) ?_
  refine LW.nil hL rfl ?_
  refine NW.then ?_
  refine CW.ret ?_
  exact res1 rfl rfl ⟨t1, rfl, h⟩
/- slices.Clone[[]pomander/api.Place,pomander/api.Place] -/
def W_slices_Clone_194 (s1 : Option Addr) (s1n : Nat) (s1c : Nat) (w : World) (R : (Option Addr) → Nat → Nat → World → Prop) : Prop :=
 ∃ (t1 : Bool), (∀ w : World, ((do eqGuard .eql 22 (.tmp 3) (.const (.slice none 0 0)) (.slice s1 s1n s1c) (.slice none 0 0); binOp .eql 22 (.slice s1 s1n s1c) (.slice none 0 0) : Sem Value)).run Tryd.prog w = .ok (.bool t1) w) ∧ ((t1 = true → R none 0 0 w) ∧ (t1 = false → ∀ b1 : Nat, b1 = World.size w → ∀ w1 : World, w1 = World.alloc w (.cells #[] 27) → (∃ (l1 : Option Addr) (l1n : Nat) (l1c : Nat) (w2 : World), (Builtin.append_ #[22, 22] 22 #[.slice (some (⟨b1, 0, none⟩ : Addr)) 0 0, .slice s1 s1n s1c]).run Tryd.prog w1 = .ok (.slice l1 l1n l1c) w2 ∧ (R l1 l1n l1c w2))))
set_option maxRecDepth 100000 in
theorem go_slices_Clone_194 (s1 : Option Addr) (s1n : Nat) (s1c : Nat) (w : World) (R : (Option Addr) → Nat → Nat → World → Prop) (h : W_slices_Clone_194 s1 s1n s1c w R) : Calls Tryd.prog 31 #[.slice s1 s1n s1c] w (fun e w' => ∃ (r1 : Option Addr) (r1n : Nat) (r1c : Nat), e = .returned (.slice r1 r1n r1c) ∧ R r1 r1n r1c w') := by
 unfold W_slices_Clone_194 at h
 refine enter (N := 8) Tryd.func31 rfl rfl ?_
 refine CW.seq ?_
 refine CW.region fun L hL => ?_
 refine LW.rd hL rfl (Wants.free rfl) rfl (Rd.assign (v := .slice none 0 0) rfl) ?_
 refine LW.nil hL rfl ?_
 refine NW.then ?_
 refine CW.seq ?_
 refine CW.seq ?_
 refine CW.region fun L hL => ?_
 refine LW.rd hL rfl (Wants.free rfl) rfl (Rd.move (v := .slice s1 s1n s1c) rfl) ?_
 obtain ⟨t1, hx1, h⟩ := h
 refine LW.rd hL rfl (Wants.free rfl) rfl (Rd.bin (v := .bool t1) rfl rfl hx1) ?_
 refine LW.nil hL rfl ?_
 refine NW.then ?_
 refine CW.cond rfl (fun hb1 => ?_) (fun hb1 => ?_)
 ·replace h := h.1 hb1
  refine CW.seq ?_
  refine CW.region fun L hL => ?_
  refine LW.rd hL rfl (Wants.free rfl) rfl (Rd.assign (v := .slice none 0 0) rfl) ?_
  refine LW.nil hL rfl ?_
  refine NW.then ?_
  refine CW.ret ?_
  refine RW.then ?_
  exact res1 rfl rfl ⟨none, 0, 0, rfl, h⟩
 ·replace h := h.2 hb1
  refine CW.skip ?_
  refine NW.then ?_
  refine CW.seq ?_
  refine CW.region fun L hL => ?_
  obtain ⟨b1, hb_b1⟩ : ∃ b1, b1 = World.size w := ⟨_, rfl⟩
  obtain ⟨w1, hw_w1⟩ : ∃ w1, w1 = World.alloc w (.cells #[] 27) := ⟨_, rfl⟩
  replace h := h b1 hb_b1 w1 hw_w1
  refine LW.val hL rfl (Wants.free rfl) rfl (sliceE (n := 0) hb_b1 hw_w1 (fun w => Vl.buildSlice (vs := []) rfl (by kernel_rfl))) ?_
  refine LW.rd hL rfl (Wants.free rfl) rfl (Rd.move (v := .slice s1 s1n s1c) rfl) ?_
  obtain ⟨l1, l1n, l1c, w2, ha1, h⟩ := h
  refine LW.val hL rfl (Wants.free rfl) rfl (Vl.builtin (v := .slice l1 l1n l1c) rfl (valB ha1)) ?_
  refine LW.rd hL rfl (Wants.free rfl) rfl (Rd.assign (v := .slice l1 l1n l1c) rfl) ?_
  refine LW.nil hL rfl ?_
  refine NW.then ?_
  refine CW.ret ?_
  exact res1 rfl rfl ⟨l1, l1n, l1c, rfl, h⟩
/- slices.Backward[[]pomander/api.Note,pomander/api.Note] -/
def W_slices_Backward_272 (s1 : Option Addr) (s1n : Nat) (s1c : Nat) (w : World) (R : Value → World → Prop) : Prop :=
 ∀ b1 : Nat, b1 = World.size w → ∀ w1 : World, w1 = World.alloc w (.cells #[.slice s1 s1n s1c] 39) → (R (.func (.func 40) #[] #[.pointer (some (⟨b1, 0, none⟩ : Addr))]) w1)
set_option maxRecDepth 100000 in
theorem go_slices_Backward_272 (s1 : Option Addr) (s1n : Nat) (s1c : Nat) (w : World) (R : Value → World → Prop) (h : W_slices_Backward_272 s1 s1n s1c w R) : Calls Tryd.prog 32 #[.slice s1 s1n s1c] w (fun e w' => ∃ (r1 : Value), e = .returned (r1) ∧ R r1 w') := by
 unfold W_slices_Backward_272 at h
 refine enter (N := 4) Tryd.func32 rfl rfl ?_
 refine CW.seq ?_
 refine CW.region fun L hL => ?_
 obtain ⟨b1, hb_b1⟩ : ∃ b1, b1 = World.size w := ⟨_, rfl⟩
 obtain ⟨w1, hw_w1⟩ : ∃ w1, w1 = World.alloc w (.cells #[.slice s1 s1n s1c] 39) := ⟨_, rfl⟩
 replace h := h b1 hb_b1 w1 hw_w1
 refine LW.val hL rfl (Wants.free rfl) rfl (boxE hb_b1 hw_w1 (Vl.box (v := .slice s1 s1n s1c) rfl)) ?_
 refine LW.rd hL rfl (Wants.free rfl) rfl (Rd.assign (v := .nilFunc) rfl) ?_
 refine LW.nil hL rfl ?_
 refine NW.then ?_
 refine CW.seq ?_
 refine CW.region fun L hL => ?_
 refine LW.rd hL rfl (Wants.free rfl) rfl (Rd.makeFunc rfl) ?_
 refine LW.rd hL rfl (Wants.free rfl) rfl (Rd.assign (v := .func (.func 40) #[] #[.pointer (some (⟨b1, 0, none⟩ : Addr))]) rfl) ?_
 refine LW.nil hL rfl ?_
 refine NW.then ?_
 refine CW.ret ?_
 exact res1 rfl rfl ⟨.func (.func 40) #[] #[.pointer (some (⟨b1, 0, none⟩ : Addr))], rfl, h⟩
/- slices.Backward[[]pomander/api.Note,pomander/api.Note]$1 -/
def W_slices_Backward_272_1 (yield1 : Value) (cap1 : Addr) (w : World) (R : World → Prop) : Prop :=
 ∃ (t1 : Option Addr) (t1n : Nat) (t1c : Nat), w.cell? cap1 = some (.slice t1 t1n t1c) ∧ (∃ (I1 : Int → World → Prop) (m1 : Int → World → Nat), I1 (IntKind.wrap .i64 ((t1n : Int) - 1)) w ∧ ∀ (i1 : Int) (w1 : World), I1 i1 w1 → ((decide (i1 ≥ 0)) = true → ∃ (t2 : Option Addr) (t2n : Nat) (t2c : Nat), w1.cell? cap1 = some (.slice t2 t2n t2c) ∧ (∃ a1 : Addr, t2 = some a1 ∧ (0 : Int) ≤ i1 ∧ i1 < (t2n : Int) ∧ (∃ (t3 : Int) (t4 : Int) (t5 : Int) (t6 : Option Addr) (t6n : Nat) (t6c : Nat), CellsAt w1 (a1.add (Int.toNat i1 * 4)) 0 [.int .i64 t3, .int .i64 t4, .int .i64 t5, .slice t6 t6n t6c] ∧ (XR.CallsY Tryd.prog yield1 #[.int .i64 i1, .agg #[.int .i64 t3, .int .i64 t4, .int .i64 t5, .slice t6 t6n t6c]] w1 fun e w2 => ∃ (r1 : Bool), e = .returned (.bool r1) ∧ (((!r1) = true → R w2) ∧ ((!r1) = false → (I1 (IntKind.wrap .i64 (i1 - 1)) w2 ∧ m1 (IntKind.wrap .i64 (i1 - 1)) w2 < m1 i1 w1))))))) ∧ ((decide (i1 ≥ 0)) = false → R w1))
set_option maxRecDepth 100000 in
theorem go_slices_Backward_272_1 (yield1 : Value) (cap1 : Addr) (w : World) (R : World → Prop) (h : W_slices_Backward_272_1 yield1 cap1 w R) : Calls Tryd.prog 40 #[yield1, .pointer (some cap1)] w (fun e w' => e = .returned (.tuple #[]) ∧ R w') := by
 unfold W_slices_Backward_272_1 at h
 refine enter (N := 19) Tryd.func40 rfl rfl ?_
 refine CW.seq ?_
 refine CW.region fun L hL => ?_
 obtain ⟨t1, t1n, t1c, hc1, h⟩ := h
 refine LW.rd hL rfl (Wants.free rfl) rfl (Rd.ld (v := .slice t1 t1n t1c) rfl (by kernel_rfl) (eqs hc1)) ?_
 refine LW.rd hL rfl (Wants.free rfl) rfl (Rd.builtin (v := .int .i64 (t1n : Int)) rfl (fun _ _ => by kernel_rfl)) ?_
 refine LW.rd hL rfl (Wants.free rfl) rfl (Rd.bin (v := .int .i64 (IntKind.wrap .i64 ((t1n : Int) - 1))) rfl rfl (fun w => by kernel_rfl)) ?_
 refine LW.rd hL rfl (Wants.free rfl) rfl (Rd.assign (v := .int .i64 (IntKind.wrap .i64 ((t1n : Int) - 1))) rfl) ?_
 refine LW.nil hL rfl ?_
 refine NW.then ?_
 refine CW.block ?_
 obtain ⟨I1, m1, hI1, h⟩ := h
 refine CW.loop (S := Int) (fun i1 => [(0, yield1), (1, .pointer (some cap1)), (3, .int .i64 i1)]) (fun i1 w1 => I1 i1 w1) (fun i1 w1 => m1 i1 w1) (IntKind.wrap .i64 ((t1n : Int) - 1)) (by exact ⟨rfl, rfl, rfl, trivial⟩) hI1 (fun i1 w1 hI1 => ?_)
 replace h := h i1 w1 hI1
 refine CW.seq ?_
 refine CW.seq ?_
 refine CW.region fun L hL => ?_
 refine LW.rd hL rfl (Wants.free rfl) rfl (Rd.move (v := .int .i64 i1) rfl) ?_
 refine LW.rd hL rfl (Wants.free rfl) rfl (Rd.bin (v := .bool (decide (i1 ≥ 0))) rfl rfl (fun w => by kernel_rfl)) ?_
 refine LW.nil hL rfl ?_
 refine NW.then ?_
 refine CW.cond rfl (fun hb1 => ?_) (fun hb1 => ?_)
 ·replace h := h.1 hb1
  refine CW.skip ?_
  refine NW.then ?_
  refine CW.seq ?_
  refine CW.block ?_
  refine CW.seq ?_
  refine XR.CW.un ?_
  refine XR.CW.region fun L hL => ?_
  refine XR.LW.rd hL rfl (Wants.free rfl) rfl (Rd.move (v := yield1) rfl) ?_
  refine XR.LW.rd hL rfl (Wants.free rfl) rfl (Rd.move (v := .int .i64 i1) rfl) ?_
  obtain ⟨t2, t2n, t2c, hc2, h⟩ := h
  refine XR.LW.rd hL rfl (Wants.free rfl) rfl (Rd.ld (v := .slice t2 t2n t2c) rfl (by kernel_rfl) (eqs hc2)) ?_
  refine XR.LW.rd hL rfl (Wants.free rfl) rfl (Rd.move (v := .int .i64 i1) rfl) ?_
  obtain ⟨a1, he1, hi1, hi2, h⟩ := h
  refine XR.LW.rd hL rfl (Wants.free rfl) rfl (Rd.iaS (q := a1) (sz := 4) (by rw [← he1]; rfl) rfl Tryd.underlying39 (by kernel_rfl) hi1 hi2) ?_
  obtain ⟨t3, t4, t5, t6, t6n, t6c, hc3, h⟩ := h
  refine XR.LW.rd hL rfl (Wants.free rfl) rfl (Rd.ldN (cs := [.int .i64 t3, .int .i64 t4, .int .i64 t5, .slice t6 t6n t6c]) rfl (by kernel_rfl) (by kernel_rfl) (cellsS hc3)) ?_
  refine XR.LW.callY hL rfl (Wants.free rfl) rfl rfl rfl h (fun e w2 h_ => ?_)
  clear h
  obtain ⟨r1, rfl, h⟩ := h_
  refine ⟨_, rfl, ?_⟩
  refine XR.LW.rd hL rfl (Wants.free rfl) rfl (Rd.un (v := .bool (!r1)) rfl (fun _ => by kernel_rfl)) ?_
  refine XR.LW.nil hL rfl ?_
  refine NW.then ?_
  refine CW.cond rfl (fun hb2 => ?_) (fun hb2 => ?_)
  ·replace h := h.1 hb2
   refine CW.ret ?_
   refine RW.block ?_
   refine RW.then ?_
   refine RW.then ?_
   refine RW.block ?_
   exact res0 rfl ⟨rfl, h⟩
  ·replace h := h.2 hb2
   refine CW.skip ?_
   refine NW.block ?_
   refine NW.then ?_
   refine CW.region fun L hL => ?_
   refine LW.rd hL rfl (Wants.free rfl) rfl (Rd.move (v := .int .i64 i1) rfl) ?_
   refine LW.rd hL rfl (Wants.free rfl) rfl (Rd.bin (v := .int .i64 (IntKind.wrap .i64 (i1 - 1))) rfl rfl (fun w => by kernel_rfl)) ?_
   refine LW.rd hL rfl (Wants.free rfl) rfl (Rd.assign (v := .int .i64 (IntKind.wrap .i64 (i1 - 1))) rfl) ?_
   refine LW.nil hL rfl ?_
   exact NW.loop (S := Int) (Ek := fun i1 => [(0, yield1), (1, .pointer (some cap1)), (3, .int .i64 i1)]) (IntKind.wrap .i64 (i1 - 1)) (by exact ⟨rfl, rfl, rfl, trivial⟩) h
 ·replace h := h.2 hb1
  refine CW.exit ?_
  refine XW.then ?_
  refine XW.then ?_
  refine XW.hit ?_
  exact res0n rfl (by exact ⟨rfl, h⟩)
end Go.Proofs.YtfcfkhbkkfpehaaDoor
end
section
/- Histories of notes (query): what lies in memory; New, none, Len, copies of rows of places. -/
namespace Go.Proofs.YtfcfkhbkkfpehaaDoor
open Go Go.RowKit Go.X Go.XR
abbrev Pl := Int × Int
abbrev Sl := Option Addr × Nat × Nat
abbrev Nt := Int × Pl × List Pl
def encSl (v : Sl) : Value := .slice v.1 v.2.1 v.2.2
def noteC (x : Nt × Sl) : List Value := [.int .i64 x.1.1, .int .i64 x.1.2.1.1, .int .i64 x.1.2.1.2, .slice x.2.1 x.2.2.1 x.2.2.2]
theorem uHN : Tryd.prog.underlying 57 = some (.map 27 39) := by kernel_rfl
theorem zeroNotes (w : World) : (zeroValue 39).run Tryd.prog w = .ok (encSl (none, 0, 0)) w := by simp [go_sem, zeroValue]; rfl
structure FromAt (w : World) (q : Sl) (ps : List Pl) : Prop where
 row : RowAt w 27 2 q.1 q.2.1 q.2.2 (ps.flatMap encPl)
 len : q.2.1 = ps.length
 wide : ∀ p ∈ ps, i64s p.1 ∧ i64s p.2
theorem FromAt.chg {w w' : World} {q : Sl} {ps : List Pl} {f : List Nat} (h : FromAt w q ps) (hc : Chg f w w') (hf : ∀ b ∈ rowB q.1, b ∉ f) : FromAt w' q ps := ⟨h.row.chg hc hf, h.len, h.wide⟩
structure HistAt (w : World) (b : Nat) (ns : List Nt) (cnt last : Int) (fp : List Nat) : Prop where
 there : ∃ (m : Nat) (tbl : List (Pl × Sl)) (g : Pl → List (Nt × Sl)),
  w.heap[b]? = some (.cells #[.map (some m), .int .i64 cnt, .int .i64 last] 59 (0, 0)) ∧ MapIs w m encP encSl tbl ∧ b ∈ fp ∧ m ∈ fp ∧
  (∀ p v, lookK p tbl = some v → RowAt w 50 4 v.1 v.2.1 v.2.2 ((g p).flatMap noteC) ∧ v.2.1 = (g p).length ∧ ∀ i ∈ rowB v.1, i ∈ fp) ∧
  (∀ p, lookK p tbl = none → g p = []) ∧
  (∀ p p' v v', lookK p tbl = some v → lookK p' tbl = some v' → p ≠ p' → ∀ i ∈ rowB v.1, i ∉ rowB v'.1) ∧
  (∀ p, ∀ x ∈ g p, FromAt w x.2 x.1.2.2 ∧ ∀ i ∈ rowB x.2.1, i ∈ fp) ∧
  (∀ p, (g p).map Prod.fst = ns.filter (fun n => decide (n.2.1 = p)))
 few : ns.length ≤ 1000000
 lt : ∀ i ∈ fp, i < w.heap.size
 last0 : 0 ≤ last ∧ last ≤ 9223372036854775807
 steps : ∀ n ∈ ns, i64s n.1 ∧ i64s n.2.1.1 ∧ i64s n.2.1.2
theorem row_obj {w : World} {e : TypeId} {size : Nat} {p : Option Addr} {n c : Nat} {xs : List Value} (h : RowAt w e size p n c xs) {b : Nat} (hb : b ∈ rowB p) : ∃ cur, w.heap[b]? = some (.cells cur e (0, 0)) := by
 obtain ⟨a, rfl, rfl⟩ := mem_rowB.1 hb
 rcases h.2 with ⟨hn, _⟩ | ⟨g, cap, cur, hv, h1, h2, _⟩
 ·cases hn
 ·cases hv; exact ⟨cur, h2⟩
theorem _root_.Go.X.RowAt.same {w w' : World} {e : TypeId} {size : Nat} {p : Option Addr} {n c : Nat} {xs : List Value} (h : RowAt w e size p n c xs) (hs : ∀ b ∈ rowB p, w'.heap[b]? = w.heap[b]?) : RowAt w' e size p n c xs := by
 refine ⟨h.1, ?_⟩
 rcases h.2 with hn | ⟨g, cap, cur, hv, hb, hg, rest⟩
 ·exact .inl hn
 ·cases hv
  exact .inr ⟨g, c, cur, rfl, hb, by rw [hs g (mem_rowB.2 ⟨_, rfl, rfl⟩)]; exact hg, rest⟩
theorem row_apart {w : World} {e e' : TypeId} {s s' : Nat} {p p' : Option Addr} {n c n' c' : Nat} {xs xs' : List Value} (h : RowAt w e s p n c xs) (h' : RowAt w e' s' p' n' c' xs') (hne : e ≠ e') : ∀ b ∈ rowB p, b ∉ rowB p' := fun b hb hb' => by
 obtain ⟨c1, h1⟩ := row_obj h hb
 obtain ⟨c2, h2⟩ := row_obj h' hb'
 rw [h1] at h2
 cases h2; exact hne rfl
theorem row_block {w : World} {e e' : TypeId} {s : Nat} {p : Option Addr} {n c : Nat} {xs : List Value} (h : RowAt w e s p n c xs) {b : Nat} {cs : Array Value} {fr : Nat × Nat} (hb : w.heap[b]? = some (.cells cs e' fr)) (hne : e ≠ e') : b ∉ rowB p := fun hm => by
 obtain ⟨c1, h1⟩ := row_obj h hm
 rw [h1] at hb
 cases hb; exact hne rfl
theorem row_map {w : World} {e : TypeId} {s : Nat} {p : Option Addr} {n c : Nat} {xs : List Value} (h : RowAt w e s p n c xs) {b : Nat} {K V : Type} {ke : K → Value} {ve : V → Value} {l : List (K × V)} (hb : MapIs w b ke ve l) : b ∉ rowB p := fun hm => by
 obtain ⟨c1, h1⟩ := row_obj h hm
 obtain ⟨es, clk, h2, _⟩ := hb
 rw [h1] at h2
 cases h2
theorem HistAt.chg {w w' : World} {b : Nat} {ns : List Nt} {cnt last : Int} {fp f : List Nat} (h : HistAt w b ns cnt last fp) (hc : Chg f w w') (hf : ∀ i ∈ fp, i ∉ f) : HistAt w' b ns cnt last fp := by
 obtain ⟨m, tbl, g, h1, h2, h3, h4, h5, h6, h7, h8, h9⟩ := h.there
 refine ⟨⟨m, tbl, g, hc.obj (hf _ h3) h1, h2.chg hc (hf _ h4), h3, h4, fun p v hv => ?_, h6, h7, fun p x hx => ?_, h9⟩, h.few, fun i hi => Nat.lt_of_lt_of_le (h.lt i hi) hc.size, h.last0, h.steps⟩
 ·obtain ⟨a1, a2, a3⟩ := h5 p v hv
  exact ⟨a1.chg hc (fun i hi => hf i (a3 i hi)), a2, a3⟩
 ·obtain ⟨a1, a2⟩ := h8 p x hx
  exact ⟨a1.chg hc (fun i hi => hf i (a2 i hi)), a2⟩
theorem query_new (w : World) : Calls Tryd.prog 8 #[] w fun e w' => ∃ r : Option Addr, e = .returned (.pointer r) ∧ (∃ b fp, r = some ⟨b, 0, none⟩ ∧ HistAt w' b [] 0 0 fp ∧ Chg [] w w' ∧ ∀ i ∈ fp, w.heap.size ≤ i) := by
 refine go_query_New _ _ ?_
 unfold W_query_New
 refine v_alloc fun b1 w1 e1 hb1 c1 => ?_
 refine v_alloc fun b2 w2 e2 hb2 c2 => ?_
 have s1 := c1.size
 have l1 := lt_of_heap hb1
 have l2 := lt_of_heap hb2
 refine ⟨b2, [b2, b1], rfl, ⟨⟨b1, [], fun _ => [], hb2, ⟨#[], 0, c2.obj (by simp) hb1, rfl, by simp, by simp, by simp⟩, by simp, by simp, fun p v h => by simp [lookK_nil] at h, fun p _ => rfl, fun p p' v v' h => by simp [lookK_nil] at h, fun p x h => by simp at h, fun p => rfl⟩, by simp, fun i hi => ?_, by omega, by simp⟩, c1.trans0 c2, fun i hi => ?_⟩
 ·simp at hi; have := c2.size; omega
 ·simp at hi; omega
section
variable {w : World} {b : Nat} {ns : List Nt} {cnt last : Int} {fp : List Nat}
theorem hist_none (h : HistAt w b ns cnt last fp) : Calls Tryd.prog 20 #[.pointer (some ⟨b, 0, none⟩)] w fun e w' => ∃ r : Bool, e = .returned (.bool r) ∧ (r = false ∧ w' = w) := by
 obtain ⟨m, tbl, g, h1, _⟩ := h.there
 refine go_query_History_none _ _ _ ?_
 unfold W_query_History_none
 exact ⟨fun b w' => b = false ∧ w' = w, fun b w' h => h, fun _ => ⟨_, rfl, some m, by rw [cell_of h1]; rfl, rfl, rfl⟩, fun h => by simp at h⟩
theorem hist_len (h : HistAt w b ns cnt last fp) : Calls Tryd.prog 27 #[.pointer (some ⟨b, 0, none⟩)] w fun e w' => ∃ r : Int, e = .returned (.int .i64 r) ∧ (r = cnt ∧ w' = w) := by
 obtain ⟨m, tbl, g, h1, _⟩ := h.there
 refine go_query_History_Len _ _ _ ?_
 unfold W_query_History_Len
 refine (hist_none h).mono ?_
 rintro _ w1 ⟨_, rfl, rfl, hw⟩
 subst w1
 exact ⟨_, rfl, fun h => by simp at h, fun _ => ⟨_, rfl, cnt, by rw [add_at, cell_of h1]; rfl, rfl, rfl⟩⟩
end
/-! ### Copies of rows of places -/
def ReadsP (w : World) (q : Sl) (ps : List Pl) : Prop := q.2.1 = ps.length ∧ (∀ p ∈ ps, i64s p.1 ∧ i64s p.2) ∧ ∀ j x, ps[j]? = some x → ∃ a, q.1 = some a ∧ CellsAt w (a.add (j * 2)) 0 [.int .i64 x.1, .int .i64 x.2]
theorem PlacesAt.reads {w : World} {S : Nat → Prop} {p : Option Addr} {n c : Nat} {ps : List Pl} (h : PlacesAt w S p n ps) : ReadsP w (p, n, c) ps :=
 ⟨h.length.symm, fun p hp => by obtain ⟨j, hj⟩ := List.getElem?_of_mem hp; have := h.each j p hj; exact ⟨this.1, this.2.1⟩, fun j x hj => let ⟨_, _, a, h3, _, h5⟩ := h.each j x hj; ⟨a, h3, h5⟩⟩
theorem add_add (a : Addr) (i j : Nat) : (a.add i).add j = a.add (i + j) := by
 unfold Addr.add
 split <;> split <;> simp_all <;> omega
theorem FromAt.reads {w : World} {q : Sl} {ps : List Pl} (h : FromAt w q ps) : ReadsP w q ps := by
 refine ⟨h.len, h.wide, fun j x hj => ?_⟩
 obtain ⟨g0, g1⟩ := flat_get2 ps j x hj
 obtain ⟨a, ha, c0⟩ := h.row.at g0
 obtain ⟨a', ha', c1⟩ := h.row.at g1
 rw [ha] at ha'
 cases ha'
 refine ⟨a, ha, by rw [add_add]; exact c0, by rw [add_add]; exact c1, trivial⟩
theorem slice_nil_place (p : Option Addr) (n c : Nat) (x y : Operand) (w : World) : ((do eqGuard .eql 22 x y (.slice p n c) (.slice none 0 0); binOp .eql 22 (.slice p n c) (.slice none 0 0) : Sem Value)).run Tryd.prog w = .ok (.bool p.isNone) w := by
 cases p with
 | none =>
  simp only [binOp]
  simp [eqGuard, run_equal_slice_nil w 22 27 none n c (show Tryd.prog.underlying 22 = some (.slice 27) by kernel_rfl)]
 | some a =>
  simp only [binOp]
  simp [eqGuard, run_equal_slice_nil w 22 27 (some a) n c (show Tryd.prog.underlying 22 = some (.slice 27) by kernel_rfl)]
theorem clone_places {w : World} {q : Sl} {ps : List Pl} (h : ReadsP w q ps) (hn : ps.length ≤ 1000000000000) :
  Calls Tryd.prog 31 #[.slice q.1 q.2.1 q.2.2] w fun e w' => ∃ (r : Option Addr) (rn rc : Nat), e = .returned (.slice r rn rc) ∧ (FromAt w' (r, rn, rc) ps ∧ Chg [] w w' ∧ ∀ i ∈ rowB r, w.heap.size ≤ i) := by
 obtain ⟨h1, h2, h3⟩ := h
 refine go_slices_Clone_194 _ _ _ _ _ ?_
 unfold W_slices_Clone_194
 refine ⟨_, slice_nil_place q.1 q.2.1 q.2.2 _ _, fun hq => ?_, fun hq => ?_⟩
 ·have : ps = [] := by
   cases ps with
   | nil => rfl
   | cons x l =>
    obtain ⟨a, ha, _⟩ := h3 0 x rfl
    rw [ha] at hq; simp at hq
  subst this
  exact ⟨⟨RowAt.nil, rfl, by simp⟩, Chg.refl _ _, by simp [rowB]⟩
 obtain ⟨a, ha⟩ : ∃ a, q.1 = some a := by
  cases hq1 : q.1 with
  | none => rw [hq1] at hq; simp at hq
  | some a => exact ⟨a, rfl⟩
 refine v_alloc fun b1 w1 e1 hb1 c1 => ?_
 have h0 : RowAt w1 27 2 (some ⟨b1, 0, none⟩) 0 0 [] := RowAt.of_heap (n := 0) (cs := []) hb1 rfl (Nat.zero_le _)
 obtain ⟨p', c', w', happ, hrow, hc, hf⟩ := h0.append (P := Tryd.prog) (t := 22) (ty := 22) (i := Tryd.t27) (z := .agg #[.int .i64 0, .int .i64 0]) (bytes := 16) (by kernel_rfl) (by kernel_rfl) (by kernel_rfl) (by kernel_rfl) (by kernel_rfl) rfl (by omega)
  (a := a) (m := q.2.1) (mc := q.2.2) (news := ps.flatMap encPl) (by rw [flat_length2, h1]) (fun i u hi => by
   have hil : i < ps.length * 2 := by rw [← flat_length2]; exact (List.getElem?_eq_some_iff.1 hi).1
   have hx : ps[i / 2]? = some ps[i / 2] := List.getElem?_eq_getElem (by omega)
   obtain ⟨g0, g1⟩ := flat_get2 ps (i / 2) _ hx
   obtain ⟨a', ha', k0, k1, _⟩ := h3 _ _ hx
   rw [ha] at ha'
   cases ha'
   rw [add_add] at k0 k1
   rcases Nat.mod_two_eq_zero_or_one i with hm | hm
   ·have e : i / 2 * 2 = i := by omega
    rw [e] at g0
    rw [hi] at g0
    cases g0
    rw [e, Nat.add_zero] at k0
    exact c1.cell (by simp) k0
   ·have e : i / 2 * 2 + 1 = i := by omega
    rw [e] at g1
    rw [hi] at g1
    cases g1
    rw [e] at k1
    exact c1.cell (by simp) k1) (fun u hu => by
   obtain ⟨x, _, hx⟩ := List.mem_flatMap.1 hu
   simp [encPl] at hx
   rcases hx with rfl | rfl <;> rfl) (by simp only [maxLen]; omega) (by omega)
 refine ⟨p', 0 + q.2.1, c', w', by rw [ha]; exact happ, ⟨by simpa using hrow, by simpa using h1, h2⟩, c1.trans hc (fun i hi hlt => by simp [rowB] at hi; omega), fun i hi => ?_⟩
 rcases hf i hi with h | h
 ·simp [rowB] at h; omega
 ·have := c1.size; omega
theorem copied_note {w : World} {n : Nt} {q : Sl} (h : ReadsP w q n.2.2) (hn : n.2.2.length ≤ 1000000000000) :
  Calls Tryd.prog 21 #[.agg #[.int .i64 n.1, .int .i64 n.2.1.1, .int .i64 n.2.1.2, .slice q.1 q.2.1 q.2.2]] w fun e w' => ∃ (r1 r2 r3 : Int) (r4 : Option Addr) (r4n r4c : Nat), e = .returned (.agg #[.int .i64 r1, .int .i64 r2, .int .i64 r3, .slice r4 r4n r4c]) ∧
   (r1 = n.1 ∧ r2 = n.2.1.1 ∧ r3 = n.2.1.2 ∧ FromAt w' (r4, r4n, r4c) n.2.2 ∧ Chg [] w w' ∧ ∀ i ∈ rowB r4, w.heap.size ≤ i) := by
 refine go_query_copied _ _ _ _ _ _ _ _ ?_
 unfold W_query_copied
 rintro b2 b1 w2 ⟨l2, u2⟩ ⟨l1, u1⟩ c2
 have h' : ReadsP w2 q n.2.2 := ⟨h.1, h.2.1, fun j x hj => by obtain ⟨a, ha, hc⟩ := h.2.2 j x hj; exact ⟨a, ha, c2.cells (by simp) hc⟩⟩
 refine (clone_places h' hn).mono ?_
 rintro _ w3 ⟨r, rn, rc, rfl, hr, c3, hf⟩
 refine ⟨r, rn, rc, rfl, Same.chg c3 (by simp; exact ⟨u2, u1⟩), fun w5 c5 => ?_⟩
 have s2 := c2.size
 refine ⟨rfl, rfl, rfl, hr.chg c5 (fun i hi => ?_), (c2.trans0 c3).trans c5 (fun i hi hlt => by simp at hi; omega), fun i hi => Nat.le_trans s2 (hf i hi)⟩
 have := hf i hi
 simp only [List.mem_cons, List.not_mem_nil, or_false, not_or]
 omega
end Go.Proofs.YtfcfkhbkkfpehaaDoor
end
section
/- Histories: the last note of a place ahead of a step; Last, Notes. -/
namespace Go.Proofs.YtfcfkhbkkfpehaaDoor
open Go Go.RowKit Go.X Go.XR
abbrev NtX := Int × Int × Int × Int × (Option Addr) × Nat × Nat
def ntX (i : Nat) (x : Nt × Sl) : NtX := ((i : Int), x.1.1, x.1.2.1.1, x.1.2.1.2, x.2.1, x.2.2.1, x.2.2.2)
def backF (g : List (Nt × Sl)) : List NtX := (g.zipIdx.map (fun y => ntX y.2 y.1)).reverse
theorem backF_len (g : List (Nt × Sl)) : (backF g).length = g.length := by simp [backF]
theorem backF_get {g : List (Nt × Sl)} {i : Nat} {x : Nt × Sl} (h : g[i]? = some x) : (backF g)[g.length - 1 - i]? = some (ntX i x) := by
 have hl := (List.getElem?_eq_some_iff.1 h).1
 unfold backF
 rw [List.getElem?_reverse (by simp; omega)]
 simp only [List.length_map, List.length_zipIdx, List.getElem?_map, List.getElem?_zipIdx]
 rw [show g.length - 1 - (g.length - 1 - i) = i by omega, h]
 simp
theorem flat_get4 : ∀ (xs : List (Nt × Sl)) (j : Nat) (x : Nt × Sl), xs[j]? = some x → ∀ k u, (noteC x)[k]? = some u → (xs.flatMap noteC)[j * 4 + k]? = some u
 | [], j, x, h, k, u, hk => by simp at h
 | a :: l, 0, x, h, k, u, hk => by
  simp at h; subst h
  have hl := (List.getElem?_eq_some_iff.1 hk).1
  simp only [List.flatMap_cons, Nat.zero_mul, Nat.zero_add]
  rw [List.getElem?_append_left hl]; exact hk
 | a :: l, j + 1, x, h, k, u, hk => by
  have := flat_get4 l j x (by simpa using h) k u hk
  simp only [List.flatMap_cons]
  rw [List.getElem?_append_right (by simp [noteC]; omega)]
  rw [show (j + 1) * 4 + k - (noteC a).length = j * 4 + k by simp [noteC]; omega]
  exact this
theorem note_cells {w : World} {p : Option Addr} {n c : Nat} {g : List (Nt × Sl)} (h : RowAt w 50 4 p n c (g.flatMap noteC)) {j : Nat} {x : Nt × Sl} (hj : g[j]? = some x) :
  ∃ a, p = some a ∧ CellsAt w (a.add (j * 4)) 0 [.int .i64 x.1.1, .int .i64 x.1.2.1.1, .int .i64 x.1.2.1.2, .slice x.2.1 x.2.2.1 x.2.2.2] := by
 obtain ⟨a, ha, c0⟩ := h.at (flat_get4 g j x hj 0 _ rfl)
 have hk : ∀ k u, (noteC x)[k]? = some u → w.cell? ((a.add (j * 4)).add k) = some u := fun k u hk => by
  obtain ⟨a', ha', ck⟩ := h.at (flat_get4 g j x hj k u hk)
  rw [ha] at ha'
  cases ha'
  rw [add_add]; exact ck
 exact ⟨a, ha, hk 0 _ rfl, hk 1 _ rfl, hk 2 _ rfl, hk 3 _ rfl, trivial⟩
theorem slices_backward (w : World) (p : Option Addr) (n c : Nat) : Calls Tryd.prog 32 #[.slice p n c] w fun e w' => ∃ r : Value, e = .returned r ∧ ∃ cb, r = .func (.func 40) #[] #[.pointer (some ⟨cb, 0, none⟩)] ∧ cb = w.heap.size ∧ w'.heap[cb]? = some (.cells #[.slice p n c] 39 (0, 0)) ∧ Chg [] w w' := by
 refine go_slices_Backward_272 _ _ _ _ _ ?_
 unfold W_slices_Backward_272
 exact v_alloc fun b w1 e h c => ⟨b, rfl, e, h, c⟩
theorem isFnB (cb : Nat) : IsFn Tryd.prog (.func (.func 40) #[] #[.pointer (some ⟨cb, 0, none⟩)]) := ⟨40, Tryd.f40, _, rfl, Tryd.func40, by kernel_rfl, by kernel_rfl⟩
theorem iterates_back {w : World} {cb : Nat} {p : Option Addr} {n c : Nat} {g : List (Nt × Sl)} (hcb : w.heap[cb]? = some (.cells #[.slice p n c] 39 (0, 0))) (hr : RowAt w 50 4 p n c (g.flatMap noteC)) (hn : n = g.length) (hle : g.length ≤ 1000000000) :
  Iterates Tryd.prog (.func (.func 40) #[] #[.pointer (some ⟨cb, 0, none⟩)]) (fun x : NtX => #[.int .i64 x.1, .agg #[.int .i64 x.2.1, .int .i64 x.2.2.1, .int .i64 x.2.2.2.1, .slice x.2.2.2.2.1 x.2.2.2.2.2.1 x.2.2.2.2.2.2]])
   (fun xs => xs = backF g) (fun pre => pre <+: backF g) (cb :: rowB p) w := by
 intro W yv I Ix hW hI hIx h0 hround
 refine ⟨40, #[.pointer (some ⟨cb, 0, none⟩)], Tryd.f40, rfl, Tryd.func40, by kernel_rfl, by kernel_rfl, ?_⟩
 have hcW := hW.obj (by simp) hcb
 have hrW := hr.chg hW (by simp)
 refine (go_slices_Backward_272_1 yv ⟨cb, 0, none⟩ W (fun w' => ∃ Own, InO W Own w' ∧ ((∃ xs, xs = backF g ∧ I Own xs w') ∨ ∃ pre, pre <+: backF g ∧ Ix Own pre w')) ?_).mono (fun e w' h => ⟨⟨_, h.1⟩, h.2⟩)
 unfold W_slices_Backward_272_1
 refine ⟨p, n, c, by rw [cell_of hcW]; rfl, ?_⟩
 rw [wr (by omega) (by omega)]
 have hin : ∀ A : World, InO W [] A := fun A i hi => by simp at hi
 refine ⟨fun i w2 => ∃ j : Nat, j ≤ g.length ∧ i = (g.length : Int) - 1 - j ∧ I [] ((backF g).take j) w2 ∧ w2.heap[cb]? = some (.cells #[.slice p n c] 39 (0, 0)) ∧ RowAt w2 50 4 p n c (g.flatMap noteC), fun i _ => (i + 1).toNat, ⟨0, Nat.zero_le _, by omega, by simpa using h0, hcW, hrW⟩, ?_⟩
 rintro i w2 ⟨j, hj, rfl, hi, hc2, hr2⟩
 refine ⟨fun hge => ?_, fun hlt => ?_⟩
 ·have hge' : (j : Int) < g.length := by have := of_decide_eq_true hge; omega
  have hj' : j < g.length := by omega
  obtain ⟨x, hx⟩ := get_of (l := g) (j := g.length - 1 - j) (by omega)
  obtain ⟨a, ha, hcs⟩ := note_cells hr2 hx
  have hb := backF_get hx
  rw [show g.length - 1 - (g.length - 1 - j) = j by omega] at hb
  have hidx : (g.length : Int) - 1 - j = ((g.length - 1 - j : Nat) : Int) := by omega
  refine ⟨p, n, c, by rw [cell_of hc2]; rfl, a, ha, by omega, by omega, _, _, _, _, _, _, by rw [hidx]; exact hcs, ?_⟩
  have htk : (backF g).take j ++ [ntX (g.length - 1 - j) x] = (backF g).take (j + 1) := (take_snoc hb).symm
  have hpre : (backF g).take j ++ [ntX (g.length - 1 - j) x] <+: backF g := by rw [htk]; exact List.take_prefix _ _
  have := hround [] ((backF g).take j) (ntX (g.length - 1 - j) x) w2 (hin _) hpre hi
  refine (show CallsY Tryd.prog yv #[.int .i64 ((g.length : Int) - 1 - j), .agg #[.int .i64 x.1.1, .int .i64 x.1.2.1.1, .int .i64 x.1.2.1.2, .slice x.2.1 x.2.2.1 x.2.2.2]] w2 _ from by rw [hidx]; exact this).mono ?_
  rintro e w4 ⟨s4, ⟨rfl, hi4, hs4⟩ | ⟨rfl, hx4⟩⟩
  ·refine ⟨true, rfl, fun h => by simp at h, fun _ => ?_⟩
   rw [wr (by omega) (by omega)]
   have hc4 : w4.heap[cb]? = w2.heap[cb]? := hs4 cb (by simp)
   refine ⟨⟨j + 1, by omega, by omega, by rw [← htk]; exact hi4, by rw [hc4]; exact hc2, ?_⟩, by simp only []; omega⟩
   exact RowAt.same hr2 (fun b hb => hs4 b (by simp [hb]))
  ·exact ⟨false, rfl, fun _ => ⟨[], hin _, .inr ⟨_, hpre, hx4⟩⟩, fun h => by simp at h⟩
 ·have hge' : ¬ (j : Int) < g.length := by have := of_decide_eq_false hlt; omega
  have : j = g.length := by omega
  refine ⟨[], hin _, .inl ⟨_, rfl, ?_⟩⟩
  rw [this, ← backF_len, List.take_length] at hi
  exact hi
def bef (l : List Nt) (step : Int) : Option Nt := l.reverse.find? (fun n => decide (n.1 < step))
def ofPl (ns : List Nt) (p : Pl) : List Nt := ns.filter (fun n => decide (n.2.1 = p))
theorem find_first {α : Type} {l : List α} {f : α → Bool} {j : Nat} {x : α} (hj : l[j]? = some x) (hx : f x = true) (hb : ∀ i y, i < j → l[i]? = some y → f y = false) : l.find? f = some x := by
 induction l generalizing j with
 | nil => simp at hj
 | cons a l ih =>
  cases j with
  | zero => simp at hj; subst hj; simp [hx]
  | succ j =>
   have ha := hb 0 a (by omega) rfl
   rw [List.find?_cons_of_neg (by rw [ha]; simp)]
   exact ih (by simpa using hj) (fun i y hi hy => hb (i + 1) y (by omega) (by simpa using hy))
theorem backF_rev {g : List (Nt × Sl)} {j : Nat} {x : Nt × Sl} (h : g.reverse[j]? = some x) : (backF g)[j]? = some (ntX (g.length - 1 - j) x) := by
 have hl := (List.getElem?_eq_some_iff.1 h).1
 simp at hl
 rw [List.getElem?_reverse hl] at h
 have := backF_get h
 rw [show g.length - 1 - (g.length - 1 - j) = j by omega] at this
 exact this
theorem prefix_last {α : Type} {pre l : List α} {x : α} (h : pre ++ [x] <+: l) : l[pre.length]? = some x := by
 obtain ⟨t, rfl⟩ := h
 simp
def BefIs (w : World) (fp : List Nat) (o : Option Nt) (r1 r2 r3 : Int) (q : Sl) (r5 : Bool) : Prop :=
 (o = none ∧ r1 = 0 ∧ r2 = 0 ∧ r3 = 0 ∧ q = (none, 0, 0) ∧ r5 = false) ∨ ∃ n, o = some n ∧ r1 = n.1 ∧ r2 = n.2.1.1 ∧ r3 = n.2.1.2 ∧ r5 = true ∧ FromAt w q n.2.2 ∧ ∀ i ∈ rowB q.1, i ∈ fp
theorem hist_before {w : World} {b : Nat} {ns : List Nt} {cnt last : Int} {fp : List Nat} (h : HistAt w b ns cnt last fp) (p1 p2 step : Int) :
  Calls Tryd.prog 23 #[.pointer (some ⟨b, 0, none⟩), .agg #[.int .i64 p1, .int .i64 p2], .int .i64 step] w fun e w' => ∃ (r1 r2 r3 : Int) (r4 : Option Addr) (r4n r4c : Nat) (r5 : Bool), e = .returned (.tuple #[.agg #[.int .i64 r1, .int .i64 r2, .int .i64 r3, .slice r4 r4n r4c], .bool r5]) ∧
   (BefIs w' fp (bef (ofPl ns (p1, p2)) step) r1 r2 r3 (r4, r4n, r4c) r5 ∧ Chg [] w w') := by
 obtain ⟨m, tbl, g, h1, h2, h3, h4, h5, h6, h7, h8, h9⟩ := h.there
 have hfw := h.few
 have hlt := h.lt
 refine go_query_History_before _ _ _ _ _ _ ?_
 unfold W_query_History_before
 refine ⟨_, rfl, ?_⟩
 rintro b4 b3 b2 b1 w5 ⟨l4, u4⟩ ⟨l3, u3⟩ ⟨l2, u2⟩ ⟨l1, u1⟩ c5
 have s5 := c5.size
 have h25 := h2.chg c5 (by simp)
 have hlk := h25.lookup (P := Tryd.prog) (T := 57) uHN keyPlace zeroNotes (p1, p2) false
 obtain ⟨v, hv, hrow, hvl, hvf⟩ : ∃ v : Sl, ((lookK (p1, p2) tbl).map encSl).getD (encSl (none, 0, 0)) = encSl v ∧ RowAt w 50 4 v.1 v.2.1 v.2.2 ((g (p1, p2)).flatMap noteC) ∧ v.2.1 = (g (p1, p2)).length ∧ ∀ i ∈ rowB v.1, i ∈ fp := by
  cases hl : lookK (p1, p2) tbl with
  | none => exact ⟨(none, 0, 0), rfl, by rw [h6 _ hl]; exact RowAt.nil, by rw [h6 _ hl]; rfl, by simp [rowB]⟩
  | some v => exact ⟨v, rfl, h5 _ v hl⟩
 simp only [Bool.false_eq_true, if_false] at hlk
 rw [hv] at hlk
 have hglen : (g (p1, p2)).length ≤ 1000000 := by
  have e1 : ((g (p1, p2)).map Prod.fst).length = (ns.filter (fun n => decide (n.2.1 = (p1, p2)))).length := by rw [h9]
  have e2 := List.length_filter_le (fun n : Nt => decide (n.2.1 = (p1, p2))) ns
  simp only [List.length_map] at e1
  omega
 refine ⟨some m, by rw [cell_of (c5.obj (by simp) h1)]; rfl, v.1, v.2.1, v.2.2, hlk, ?_⟩
 refine (slices_backward w5 v.1 v.2.1 v.2.2).mono ?_
 rintro _ w6 ⟨_, rfl, cb, rfl, ecb, hcb, c6⟩
 have s6 := c6.size
 have c06 := c5.trans0 c6
 have hcbl := lt_of_heap hcb
 have hrow6 := hrow.chg c06 (by simp)
 refine ⟨_, rfl, Same.chg c6 (by simp; exact ⟨u4, u3, u2⟩), fun xs => xs = backF (g (p1, p2)), fun pre => pre <+: backF (g (p1, p2)), cb :: rowB v.1, isFnB cb, iterates_back hcb hrow6 hvl (by omega), ?_, ?_⟩
 ·intro i hi
  rcases List.mem_cons.1 hi with rfl | hi
  ·exact hcbl
  ·have := hlt i (hvf i hi); omega
 have hbef : bef (ofPl ns (p1, p2)) step = ((g (p1, p2)).reverse.find? (fun x => decide (x.1.1 < step))).map Prod.fst := by
  unfold bef ofPl
  rw [← h9, ← List.map_reverse, List.find?_map]
  rfl
 refine ⟨fun O pre w' => (∀ i y, i < pre.length → (g (p1, p2)).reverse[i]? = some y → ¬ y.1.1 < step) ∧ Chg [] w w' ∧ w6.heap.size ≤ w'.heap.size,
  fun c1 c2 c3 c4 c4n c4c c5 O pre w' => ∃ x : Nt × Sl, x ∈ g (p1, p2) ∧ (g (p1, p2)).reverse.find? (fun x => decide (x.1.1 < step)) = some x ∧ c1 = x.1.1 ∧ c2 = x.1.2.1.1 ∧ c3 = x.1.2.1.2 ∧ (c4, c4n, c4c) = x.2 ∧ c5 = true ∧ Chg [] w w' ∧ w6.heap.size ≤ w'.heap.size, ?_, ?_, ?_, ?_, ?_, ?_⟩
 ·rintro pre O O' A B ⟨k1, k2, k3⟩ hO hc hO' hg
  exact ⟨k1, k2.trans hc (fun i hi hlt => by have := (hO i hi).1; omega), by have := hc.size; omega⟩
 ·rintro c1 c2 c3 c4 c4n c4c c5 pre O O' A B ⟨x, k1, k2, k3, k4, k5, k6, k7, k8, k9⟩ hO hc hO' hg
  exact ⟨x, k1, k2, k3, k4, k5, k6, k7, k8.trans hc (fun i hi hlt => by have := (hO i hi).1; omega), by have := hc.size; omega⟩
 ·intro O w7 c7 hO
  exact ⟨by simp, c06.trans0 c7, c7.size⟩
 ·rintro l1' O pre x1 x2 x3 x4 x5 x5n x5c w7 hO hl1 hsp ⟨k1, k2, k3⟩ b5 w10 ⟨q1, q2⟩ c10
  have s10 := c10.size
  have hl := hO l1' hl1
  have c010 : Chg [] w w10 := k2.trans c10 (fun i hi hlt => by simp at hi; omega)
  have hx := prefix_last hsp
  have hjl : pre.length < (g (p1, p2)).length := by
   have := (List.getElem?_eq_some_iff.1 hx).1
   rw [backF_len] at this; exact this
  obtain ⟨y, hy⟩ := get_of (l := (g (p1, p2)).reverse) (j := pre.length) (by simpa using hjl)
  have hy2 := backF_rev hy
  rw [hx] at hy2
  unfold ntX at hy2
  simp only [Option.some.injEq, Prod.mk.injEq] at hy2
  obtain ⟨e0, e1, e2, e3, e4, e5, e6⟩ := hy2
  have hym : y ∈ g (p1, p2) := List.mem_reverse.1 (List.mem_of_getElem? hy)
  refine ⟨fun hlt' => ?_, fun hge => ?_⟩
  ·have hlt'' := of_decide_eq_true hlt'
   intro w12 c12
   have s12 := c12.size
   refine ⟨s12, ⟨y, hym, find_first hy (by rw [← e1]; exact decide_eq_true hlt'') (fun i z hi hz => decide_eq_false (k1 i z hi hz)), e1, e2, e3, by rw [e4, e5, e6], rfl, c010.trans c12 (fun i hi hlt => by simp at hi; omega), by omega⟩, Same.of c12 (fun i hi => ?_)⟩
   rcases List.mem_append.1 hi with hi | hi
   ·rcases List.mem_cons.1 hi with rfl | hi
    ·exact ⟨by omega, by simp only [List.mem_cons, List.not_mem_nil, or_false, not_or]; omega⟩
    ·have := hlt i (hvf i hi)
     exact ⟨by omega, by simp only [List.mem_cons, List.not_mem_nil, or_false, not_or]; omega⟩
   ·have := hO i hi
    exact ⟨by omega, by simp only [List.mem_cons, List.not_mem_nil, or_false, not_or]; omega⟩
  ·have hge' := of_decide_eq_false hge
   refine ⟨Nat.le_refl _, ⟨fun i z hi hz => ?_, c010, by omega⟩, Same.refl _ _⟩
   simp only [List.length_append, List.length_singleton] at hi
   by_cases hil : i < pre.length
   ·exact k1 i z hil hz
   ·have : i = pre.length := by omega
    subst this
    rw [hy] at hz
    cases hz
    rw [← e1]; exact hge'
 ·rintro d O xs w13 hO hd rfl ⟨k1, k2, k3⟩ w15 c15 w16 c16
  have hdl := hO d hd
  refine ⟨.inl ⟨?_, rfl, rfl, rfl, rfl, rfl⟩, (k2.trans c15 (fun i hi hlt => by simp at hi; omega)).trans c16 (fun i hi hlt => by simp at hi; omega)⟩
  rw [hbef, List.find?_eq_none.2 (fun y hy => ?_)]; rfl
  obtain ⟨j, hj⟩ := List.getElem?_of_mem hy
  have hjl := (List.getElem?_eq_some_iff.1 hj).1
  simp only [decide_eq_true_eq]
  exact k1 j y (by rw [backF_len]; simpa using hjl) hj
 ·rintro d O pre c1 c2 c3 c4 c4n c4c c5' w17 hO hd hsp ⟨x, k1, k2, k3, k4, k5, k6, k7, k8, k9⟩ w18 c18
  have hdl := hO d hd
  have c018 : Chg [] w w18 := k8.trans c18 (fun i hi hlt => by simp at hi; omega)
  obtain ⟨f1, f2⟩ := h8 _ x k1
  refine ⟨.inr ⟨x.1, by rw [hbef, k2]; rfl, k3, k4, k5, k7, by rw [k6]; exact f1.chg c018 (by simp), by rw [k6]; exact f2⟩, c018⟩
end Go.Proofs.YtfcfkhbkkfpehaaDoor
end
section
/- Histories: Add. -/
namespace Go.Proofs.YtfcfkhbkkfpehaaDoor
open Go Go.RowKit Go.X Go.XR
def newN (step : Int) (ts : List Tch) : List Nt := (ts.filter (fun t => decide (t.1 ≠ (0, 0)))).map (fun t => (step, t.1, t.2))
def lastN (step last : Int) (ts : List Tch) : Int := if newN step ts = [] then last else step
theorem newN_snoc (step : Int) (ts : List Tch) (t : Tch) : newN step (ts ++ [t]) = newN step ts ++ (if t.1 ≠ (0, 0) then [(step, t.1, t.2)] else []) := by
 unfold newN
 rw [List.filter_append, List.map_append]
 by_cases h : t.1 = (0, 0) <;> simp [h]
theorem newN_len (step : Int) (ts : List Tch) : (newN step ts).length ≤ ts.length := by
 unfold newN
 rw [List.length_map]; exact List.length_filter_le _ _
theorem lastN_snoc (step last : Int) (ts : List Tch) (t : Tch) : lastN step last (ts ++ [t]) = if t.1 ≠ (0, 0) then step else lastN step last ts := by
 unfold lastN
 rw [newN_snoc]
 by_cases h : t.1 = (0, 0) <;> simp [h]
theorem to_zero (t1 t2 : Int) : (!((t1 == 0) && (t2 == 0))) = decide (((t1, t2) : Pl) ≠ (0, 0)) := by
 by_cases h1 : t1 = 0 <;> by_cases h2 : t2 = 0 <;> simp [h1, h2]
theorem hist_more {w8 : World} {b : Nat} {ns : List Nt} {cnt last : Int} {fp : List Nat} (h : HistAt w8 b ns cnt last fp) {m : Nat} {tbl : List (Pl × Sl)} {g : Pl → List (Nt × Sl)} {step : Int} {t : Tch} {q : Sl}
  (h1 : w8.heap[b]? = some (.cells #[.map (some m), .int .i64 cnt, .int .i64 last] 59 (0, 0))) (h2 : MapIs w8 m encP encSl tbl) (h3 : b ∈ fp) (h4 : m ∈ fp)
  (h5 : ∀ p v, lookK p tbl = some v → RowAt w8 50 4 v.1 v.2.1 v.2.2 ((g p).flatMap noteC) ∧ v.2.1 = (g p).length ∧ ∀ i ∈ rowB v.1, i ∈ fp)
  (h6 : ∀ p, lookK p tbl = none → g p = []) (h7 : ∀ p p' v v', lookK p tbl = some v → lookK p' tbl = some v' → p ≠ p' → ∀ i ∈ rowB v.1, i ∉ rowB v'.1)
  (h8 : ∀ p, ∀ x ∈ g p, FromAt w8 x.2 x.1.2.2 ∧ ∀ i ∈ rowB x.2.1, i ∈ fp) (h9 : ∀ p, (g p).map Prod.fst = ns.filter (fun n => decide (n.2.1 = p)))
  {w13 : World} (c13 : Chg [] w8 w13) (hq : FromAt w13 q t.2) (hqf : ∀ i ∈ rowB q.1, w8.heap.size ≤ i) (hfew : ns.length + 1 ≤ 1000000) (hs : 0 ≤ step ∧ step ≤ 9223372036854775807) (ht : i64s t.1.1 ∧ i64s t.1.2)
  {b3 : Nat} (hb3 : w8.heap.size ≤ b3 ∧ b3 < w13.heap.size) {K : World → Prop}
  (k : ∀ w18 fp', HistAt w18 b (ns ++ [(step, t.1, t.2)]) cnt step fp' → Chg fp w8 w18 → (∀ i ∈ fp', i ∈ fp ∨ w8.heap.size ≤ i) → K w18) :
  ∀ b4 : Nat, b4 = World.size w13 → ∀ w14 : World, w14 = World.alloc w13 (.cells #[.int .i64 step, .int .i64 t.1.1, .int .i64 t.1.2, .slice q.1 q.2.1 q.2.2] 50) →
   (∃ (v1 : Option Addr) (v1n : Nat) (v1c : Nat) (s3 : Int) (w15 : World), (Instr.mapEntry 57 (.map (some m)) (.agg #[.int .i64 t.1.1, .int .i64 t.1.2])).run Tryd.prog w14 = .ok (.tuple #[.slice v1 v1n v1c, .int .i64 s3]) w15 ∧
    ((w15.cell? (⟨b, 0, none⟩ : Addr) = some (.map (some m))) ∧ (Same w14 w15 [b3] ∧
    (∃ (l2 : Option Addr) (l2n : Nat) (l2c : Nat) (w16 : World), (Builtin.append_ #[39, 39] 39 #[.slice v1 v1n v1c, .slice (some (⟨b4, 0, none⟩ : Addr)) 1 1]).run Tryd.prog w15 = .ok (.slice l2 l2n l2c) w16 ∧
     ((w16.cell? (⟨b, 0, none⟩ : Addr) = some (.map (some m))) ∧ (Same w15 w16 [b3] ∧
     (∃ w17 : World, (Instr.entryStore 57 (.map (some m)) (.int .i64 s3) (.slice l2 l2n l2c)).run Tryd.prog w16 = .ok () w17 ∧
      ((∃ o : Value, w17.cell? ((⟨b, 0, none⟩ : Addr).add 2) = some o) ∧ w17.frozen? ((⟨b, 0, none⟩ : Addr).add 2) = false ∧ ∀ w18 : World, w18 = World.setCell w17 ((⟨b, 0, none⟩ : Addr).add 2) (.int .i64 step) → K w18)))))))) := by
 have hlt := h.lt
 have hbm : b ≠ m := fun e => by
  obtain ⟨es, clk, hm, _⟩ := h2
  rw [← e, h1] at hm; cases hm
 have s13 := c13.size
 refine v_alloc fun b4 w14 e4 hb4 c14 => ?_
 have s14 := c14.size
 have l4 := lt_of_heap hb4
 have c814 := c13.trans0 c14
 have h214 := h2.chg c814 (by simp)
 obtain ⟨v, hv, hrow, hvl, hvf⟩ : ∃ v : Sl, (lookK t.1 tbl).getD (none, 0, 0) = v ∧ RowAt w8 50 4 v.1 v.2.1 v.2.2 ((g t.1).flatMap noteC) ∧ v.2.1 = (g t.1).length ∧ ∀ i ∈ rowB v.1, i ∈ fp := by
  cases hl : lookK t.1 tbl with
  | none => exact ⟨(none, 0, 0), rfl, by rw [h6 _ hl]; exact RowAt.nil, by rw [h6 _ hl]; rfl, by simp [rowB]⟩
  | some v => exact ⟨v, rfl, h5 _ v hl⟩
 have hglen : (g t.1).length ≤ 1000000 := by
  have e1 : ((g t.1).map Prod.fst).length = (ns.filter (fun n => decide (n.2.1 = t.1))).length := by rw [h9]
  have e2 := List.length_filter_le (fun n : Nt => decide (n.2.1 = t.1)) ns
  simp only [List.length_map] at e1
  omega
 obtain ⟨s, w15, hrun, c15, s15, hE⟩ := h214.entry (P := Tryd.prog) (T := 57) uHN keyPlace zeroNotes t.1
 rw [hv] at hrun hE
 have hm8 := hlt _ h4
 have hb8 := hlt _ h3
 have hh15 := c15.obj (by simp [hbm]) (c814.obj (by simp) h1)
 refine ⟨v.1, v.2.1, v.2.2, (s : Int), w15, hrun, by rw [cell_of hh15]; rfl, Same.of c15 (by simp; omega), ?_⟩
 have hrow15 := (hrow.chg c814 (by simp)).chg c15 (fun i hi hm => by simp at hm; subst hm; exact row_map hrow h2 hi)
 have hb415 := c15.obj (by simp; omega) hb4
 obtain ⟨p', c', w16, happ, hrow16, c16, hnew⟩ := hrow15.append (P := Tryd.prog) (t := 39) (ty := 39) (i := Tryd.t50) (z := .agg #[.int .i64 0, .int .i64 0, .int .i64 0, .slice none 0 0]) (bytes := 48) (by kernel_rfl) (by kernel_rfl) (by kernel_rfl) (by kernel_rfl) (by kernel_rfl) rfl (by omega)
  (a := ⟨b4, 0, none⟩) (m := 1) (mc := 1) (news := noteC ((step, t.1, t.2), q)) (by simp [noteC]) (fun j u hj => by
   match j, hj with
   | 0, hj => simp [noteC] at hj; subst hj; rw [add_at, cell_of hb415]; rfl
   | 1, hj => simp [noteC] at hj; subst hj; rw [add_at, cell_of hb415]; rfl
   | 2, hj => simp [noteC] at hj; subst hj; rw [add_at, cell_of hb415]; rfl
   | 3, hj => simp [noteC] at hj; subst hj; rw [add_at, cell_of hb415]; rfl
   | j + 4, hj => simp [noteC] at hj) (fun u hu => by simp [noteC] at hu; rcases hu with rfl | rfl | rfl | rfl <;> rfl) (by rw [hvl]; unfold maxLen; omega) (by rw [hvl]; omega)
 have s16 := c16.size
 have hbv : b ∉ rowB v.1 := row_block hrow h1 (by decide)
 have hmv : m ∉ rowB v.1 := row_map hrow h2
 have hh16 := c16.obj hbv hh15
 have hb3v : b3 ∉ rowB v.1 := fun hm => by have := hlt _ (hvf _ hm); omega
 refine ⟨p', v.2.1 + 1, c', w16, happ, by rw [cell_of hh16]; rfl, Same.of c16 (by simp; exact ⟨by omega, hb3v⟩), ?_⟩
 obtain ⟨w17, hst, c17, s17, hM17⟩ := (hE.chg c16 hmv).store (P := Tryd.prog) (T := 57) ((p', v.2.1 + 1, c') : Sl)
 have hh17 := c17.obj (by simp [hbm]) hh16
 refine ⟨w17, hst, ?_⟩
 refine v_set hh17 (by simp) fun w18 hh18 c18 s18 => ?_
 have hh18' : w18.heap[b]? = some (.cells #[.map (some m), .int .i64 cnt, .int .i64 step] 59 (0, 0)) := hh18
 have c817 : Chg (b :: m :: rowB v.1) w8 w17 := ((c814.nil.trans (c15.mono (g := b :: m :: rowB v.1) (fun i hi _ => by simp at hi; simp [hi])) (fun i hi _ => hi)).trans (c16.mono (g := b :: m :: rowB v.1) (fun i hi _ => by simp [hi])) (fun i hi _ => hi)).trans (c17.mono (g := b :: m :: rowB v.1) (fun i hi _ => by simp at hi; simp [hi])) (fun i hi _ => hi)
 have c818 : Chg (b :: m :: rowB v.1) w8 w18 := c817.trans (c18.mono (g := b :: m :: rowB v.1) (fun i hi _ => by simp at hi; simp [hi])) (fun i hi _ => hi)
 have hnew' : ∀ i ∈ rowB p', i ∈ rowB v.1 ∨ w8.heap.size ≤ i := fun i hi => (hnew i hi).imp id (fun h => by omega)
 have hbp : b ∉ rowB p' := fun hm => by
  rcases hnew' _ hm with h | h
  ·exact hbv h
  ·omega
 have hmp : m ∉ rowB p' := fun hm => by
  rcases hnew' _ hm with h | h
  ·exact hmv h
  ·omega
 have hrow18 : RowAt w18 50 4 p' (v.2.1 + 1) c' ((g t.1).flatMap noteC ++ noteC ((step, t.1, t.2), q)) := (hrow16.chg c17 (fun i hi hm => by simp at hm; subst hm; exact hmp hi)).chg c18 (fun i hi hm => by simp at hm; subst hm; exact hbp hi)
 have hM18 := hM17.chg c18 (by simp; exact fun e => hbm e.symm)
 have hlook : ∀ p, lookK p (upd t.1 ((p', v.2.1 + 1, c') : Sl) (upd t.1 v tbl)) = if p = t.1 then some (p', v.2.1 + 1, c') else lookK p tbl := fun p => by
  rw [lookK_upd, lookK_upd]
  split <;> rfl
 have hother : ∀ p v', lookK p tbl = some v' → p ≠ t.1 → ∀ i ∈ rowB v'.1, i ∉ rowB v.1 := fun p v' hl hne i hi hm => by
  cases hl' : lookK t.1 tbl with
  | none => rw [hl'] at hv; simp at hv; rw [← hv] at hm; simp [rowB] at hm
  | some v2 =>
   rw [hl'] at hv
   simp at hv
   subst hv
   exact h7 p t.1 v' _ hl hl' hne i hi hm
 have hdis : ∀ {e : TypeId} {sz : Nat} {r : Option Addr} {n c : Nat} {xs : List Value}, RowAt w8 e sz r n c xs → e ≠ 59 → (∀ i ∈ rowB r, i ∉ rowB v.1) → RowAt w18 e sz r n c xs := fun hr hne hv => hr.chg c818 (fun i hi hm => by
  rcases List.mem_cons.1 hm with rfl | hm
  ·exact row_block hr h1 hne hi
  rcases List.mem_cons.1 hm with rfl | hm
  ·exact row_map hr h2 hi
  ·exact hv i hi hm)
 refine k w18 (fp ++ (rowB p' ++ rowB q.1)) ⟨⟨m, _, fun p => if p = t.1 then g t.1 ++ [((step, t.1, t.2), q)] else g p, hh18', hM18, by simp [h3], by simp [h4], fun p v' hl => ?_, fun p hl => ?_, fun p p2 v' v2 hl hl2 hne i hi hm => ?_, fun p x hx => ?_, fun p => ?_⟩, by simp; omega, fun i hi => ?_, hs, fun n hn => ?_⟩ (c818.mono fun i hi hlt' => ?_) (fun i hi => ?_)
 ·rw [hlook] at hl
  by_cases hp : p = t.1
  ·simp only [hp, if_true, Option.some.injEq] at hl ⊢
   subst hl
   exact ⟨by rw [List.flatMap_append]; simpa using hrow18, by simp [hvl], fun i hi => by simp [hi]⟩
  ·simp only [hp, if_false] at hl ⊢
   obtain ⟨a1, a2, a3⟩ := h5 p v' hl
   exact ⟨hdis a1 (by decide) (hother p v' hl hp), a2, fun i hi => by simp [a3 i hi]⟩
 ·rw [hlook] at hl
  by_cases hp : p = t.1
  ·simp [hp] at hl
  ·simp only [hp, if_false] at hl ⊢
   exact h6 p hl
 ·rw [hlook] at hl hl2
  by_cases hp : p = t.1
  ·have hp2 : p2 ≠ t.1 := fun e => hne (hp.trans e.symm)
   simp only [hp, if_true, Option.some.injEq] at hl
   simp only [hp2, if_false] at hl2
   subst hl
   rcases hnew' i hi with h | h
   ·exact hother p2 v2 hl2 hp2 i hm h
   ·have := hlt i ((h5 p2 v2 hl2).2.2 i hm); omega
  ·simp only [hp, if_false] at hl
   by_cases hp2 : p2 = t.1
   ·simp only [hp2, if_true, Option.some.injEq] at hl2
    subst hl2
    rcases hnew' i hm with h | h
    ·exact hother p v' hl hp i hi h
    ·have := hlt i ((h5 p v' hl).2.2 i hi); omega
   ·simp only [hp2, if_false] at hl2
    exact h7 p p2 v' v2 hl hl2 hne i hi hm
 ·have hold : ∀ p x, x ∈ g p → FromAt w18 x.2 x.1.2.2 ∧ ∀ i ∈ rowB x.2.1, i ∈ fp ++ (rowB p' ++ rowB q.1) := fun p x hx => by
   obtain ⟨a1, a2⟩ := h8 p x hx
   exact ⟨⟨hdis a1.row (by decide) (row_apart a1.row hrow (by decide)), a1.len, a1.wide⟩, fun i hi => by simp [a2 i hi]⟩
  by_cases hp : p = t.1
  ·simp only [hp, if_true, List.mem_append, List.mem_singleton] at hx
   rcases hx with hx | rfl
   ·exact hold _ x hx
   ·refine ⟨?_, fun i hi => by simp [hi]⟩
    have c1318 : Chg (b :: m :: rowB v.1) w13 w18 := (((c14.nil.trans (c15.mono (g := b :: m :: rowB v.1) (fun i hi _ => by simp at hi; simp [hi])) (fun i hi _ => hi)).trans (c16.mono (g := b :: m :: rowB v.1) (fun i hi _ => by simp [hi])) (fun i hi _ => hi)).trans (c17.mono (g := b :: m :: rowB v.1) (fun i hi _ => by simp at hi; simp [hi])) (fun i hi _ => hi)).trans (c18.mono (g := b :: m :: rowB v.1) (fun i hi _ => by simp at hi; simp [hi])) (fun i hi _ => hi)
    refine hq.chg c1318 (fun i hi hm => ?_)
    have := hqf i hi
    rcases List.mem_cons.1 hm with rfl | hm
    ·omega
    rcases List.mem_cons.1 hm with rfl | hm
    ·omega
    ·have := hlt i (hvf i hm); omega
  ·simp only [hp, if_false] at hx
   exact hold p x hx
 ·rw [List.filter_append]
  by_cases hp : p = t.1
  ·subst hp
   simp [h9]
  ·simp only [hp, if_false]
   rw [h9, List.filter_cons_of_neg (by simp; exact fun e => hp e.symm)]
   simp
 ·have sz : w8.heap.size ≤ w18.heap.size := c818.size
  rcases List.mem_append.1 hi with hi | hi
  ·have := hlt i hi; omega
  rcases List.mem_append.1 hi with hi | hi
  ·exact hrow18.lt i hi
  ·have := hq.row.lt i hi; omega
 ·rcases List.mem_append.1 hn with hn | hn
  ·exact h.steps n hn
  ·simp at hn; subst hn
   exact ⟨by unfold i64s; simp only []; omega, ht.1, ht.2⟩
 ·rcases List.mem_cons.1 hi with rfl | hi
  ·exact h3
  rcases List.mem_cons.1 hi with rfl | hi
  ·exact h4
  ·exact hvf i hi
 ·rcases List.mem_append.1 hi with hi | hi
  ·exact .inl hi
  rcases List.mem_append.1 hi with hi | hi
  ·rcases hnew' i hi with h | h
   ·exact .inl (hvf i h)
   ·exact .inr h
  ·exact .inr (hqf i hi)
theorem hist_add {w : World} {b : Nat} {ns : List Nt} {last : Int} {fp : List Nat} (h : HistAt w b ns ns.length last fp) {S : Nat → Prop} {p : Option Addr} {n c : Nat} {ts : List Tch} (hp : TouchesAt w S p n ts) (hS : ∀ i ∈ fp, ¬ S i)
  (hin : ∀ t ∈ ts, t.2.length ≤ 1000000000000) (hfew : ns.length + ts.length ≤ 1000000) {step : Int} (hs : i64s step) :
  Calls Tryd.prog 9 #[.pointer (some ⟨b, 0, none⟩), .int .i64 step, .slice p n c] w fun e w' => ∃ r : Int, e = .returned (.int .i64 r) ∧
   ∃ fp', Chg fp w w' ∧ (∀ i ∈ fp', i ∈ fp ∨ w.heap.size ≤ i) ∧ if step < 0 ∨ step < last then r = 2 ∧ HistAt w' b ns ns.length last fp' else r = 0 ∧ HistAt w' b (ns ++ newN step ts) (ns ++ newN step ts).length (lastN step last ts) fp' := by
 have hplen := hp.length
 have hl0 := h.last0
 refine go_query_History_Add _ _ _ _ _ _ _ ?_
 unfold W_query_History_Add
 refine ⟨fun e w' => ∃ fp', Chg fp w w' ∧ (∀ i ∈ fp', i ∈ fp ∨ w.heap.size ≤ i) ∧ if step < 0 ∨ step < last then e = 2 ∧ HistAt w' b ns ns.length last fp' else e = 0 ∧ HistAt w' b (ns ++ newN step ts) (ns ++ newN step ts).length (lastN step last ts) fp', fun e w' h => h, ?_⟩
 refine ⟨fun many x w2 => ∃ j : Nat, x = (j : Int) ∧ j ≤ ts.length ∧ many = ((newN step (ts.take j)).length : Int) ∧ Chg [] w w2, fun many x _ => (ts.length - x).toNat, ⟨0, rfl, Nat.zero_le _, by simp [newN], Chg.refl _ _⟩, ?_⟩
 rintro _ _ w2 ⟨j, rfl, hj, rfl, c2⟩
 refine ⟨fun hlt => ?_, fun hge => ?_⟩
 ·have hjn : j < ts.length := by have := of_decide_eq_true hlt; omega
  obtain ⟨t, ht⟩ := get_of hjn
  obtain ⟨i1, i2, a, q, qn, qc, ha, hSa, hcs, hpl⟩ := (hp.chg (f := []) c2 (by simp)).each j t ht
  have hnl := newN_len step (ts.take j)
  rw [List.length_take] at hnl
  refine ⟨fun many2 w3 => many2 = ((newN step (ts.take (j + 1))).length : Int) ∧ Chg [] w w3, ?_, a, ha, by omega, by omega, t.1.1, t.1.2, q, qn, qc, by simpa using hcs, ?_⟩
  ·rintro _ w3 ⟨rfl, c3⟩
   rw [wr (by omega) (by omega)]
   exact ⟨⟨j + 1, by omega, by omega, rfl, c3⟩, by simp only []; omega⟩
  ·rintro b1 w5 ⟨q1, q2⟩ c5
   rw [take_snoc ht, newN_snoc]
   refine ⟨fun hz => ?_, fun hz => ?_⟩
   ·rw [to_zero] at hz
    have hz' : t.1 ≠ (0, 0) := of_decide_eq_true hz
    rw [if_pos hz', wr (by omega) (by omega)]
    exact ⟨by simp, c2.trans0 c5⟩
   ·rw [to_zero] at hz
    have hz' : t.1 = (0, 0) := Decidable.of_not_not (of_decide_eq_false hz)
    rw [if_neg (by simp [hz'])]
    exact ⟨by simp, c2.trans0 c5⟩
 ·have hjn : j = ts.length := by have := of_decide_eq_false hge; omega
  subst hjn
  rw [List.take_length]
  have hnl := newN_len step ts
  have h2 := h.chg c2 (by simp)
  refine (hist_none h2).mono ?_
  rintro _ w6 ⟨_, rfl, rfl, hw⟩
  subst w6
  refine ⟨_, rfl, fun h => by simp at h, fun _ => ?_⟩
  obtain ⟨m0, tbl0, g0, k1, _⟩ := h2.there
  refine ⟨fun bb w7 => w7 = w2 ∧ bb = decide (step < 0 ∨ step < last), ?_, fun hneg => ⟨_, rfl, last, by rw [add_at, cell_of k1]; rfl, rfl, ?_⟩, fun hneg => ⟨rfl, ?_⟩⟩
  rotate_left
  ·have := of_decide_eq_false hneg
   exact decide_eq_decide.2 ⟨.inr, fun h => h.resolve_left this⟩
  ·have := of_decide_eq_true hneg
   symm; exact decide_eq_true (.inl this)
  rintro _ w7 ⟨rfl, rfl⟩
  refine ⟨fun hbad => ?_, fun hok => ?_⟩
  ·have hbad' := of_decide_eq_true hbad
   exact ⟨fp, c2.nil, fun i hi => .inl hi, by rw [if_pos hbad']; exact ⟨rfl, h2⟩⟩
  have hok' := of_decide_eq_false hok
  refine ⟨_, rfl, (ns.length : Int), by rw [add_at, cell_of k1]; rfl, ?_⟩
  rw [wr (by omega) (by omega)]
  refine ⟨fun hbig => by have := of_decide_eq_true hbig; omega, fun _ => ?_⟩
  refine ⟨fun x w8 => ∃ j : Nat, x = (j : Int) ∧ j ≤ ts.length ∧ ∃ fp', HistAt w8 b (ns ++ newN step (ts.take j)) ns.length (lastN step last (ts.take j)) fp' ∧ Chg fp w w8 ∧ ∀ i ∈ fp', i ∈ fp ∨ w.heap.size ≤ i,
   fun x _ => (ts.length - x).toNat, ⟨0, rfl, Nat.zero_le _, fp, by simpa [newN, lastN] using h2, c2.nil, fun i hi => .inl hi⟩, ?_⟩
  rintro _ w8 ⟨j, rfl, hj, fp8, hH, c8, hf8⟩
  refine ⟨fun hlt => ?_, fun hge => ?_⟩
  ·have hjn : j < ts.length := by have := of_decide_eq_true hlt; omega
   obtain ⟨t, ht⟩ := get_of hjn
   have hp8 : TouchesAt w8 S p n ts := hp.chg c8 hS
   obtain ⟨i1, i2, a, q, qn, qc, ha, hSa, hcs, hpl⟩ := hp8.each j t ht
   have s8 := c8.size
   refine ⟨fun w9 => ∃ fp', HistAt w9 b (ns ++ newN step (ts.take (j + 1))) ns.length (lastN step last (ts.take (j + 1))) fp' ∧ Chg fp w w9 ∧ ∀ i ∈ fp', i ∈ fp ∨ w.heap.size ≤ i, ?_, a, ha, by omega, by omega, t.1.1, t.1.2, q, qn, qc, by simpa using hcs, ?_⟩
   ·rintro w9 ⟨fp9, k9⟩
    rw [wr (by omega) (by omega)]
    exact ⟨⟨j + 1, by omega, by omega, fp9, k9⟩, by simp only []; omega⟩
   ·rintro b3 w11 ⟨q1, q2⟩ c11
    rw [take_snoc ht, newN_snoc, lastN_snoc]
    refine ⟨fun hz => ?_, fun hz => ?_⟩
    ·rw [to_zero] at hz
     have hz' : t.1 ≠ (0, 0) := of_decide_eq_true hz
     rw [if_pos hz', if_pos hz']
     intro w12 c12
     have c812 := c11.trans0 c12
     obtain ⟨m, tbl, g, h1, h2', h3, h4, h5, h6, h7, h8, h9⟩ := hH.there
     refine ⟨some m, by rw [cell_of (c812.obj (by simp) h1)]; rfl, ?_⟩
     have hrd := (hpl.chg (f := []) c812 (by simp)).reads (c := qc)
     refine (copied_note (n := (step, t.1, t.2)) (q := (q, qn, qc)) hrd (hin t (List.mem_of_getElem? ht))).mono ?_
     rintro _ w13 ⟨r1, r2, r3, r6, r6n, r6c, rfl, e1, e2, e3, hr6, c13, hf6⟩
     obtain rfl : step = r1 := e1.symm
     obtain rfl := e2.symm
     obtain rfl := e3.symm
     have c813 := c812.trans0 c13
     have s12 := c12.size
     have s11 := c11.size
     have s13 := c13.size
     refine ⟨_, _, _, _, _, _, rfl, by rw [cell_of (c813.obj (by simp) h1)]; rfl, Same.chg c13 (by simp; omega), ?_⟩
     refine hist_more (q := (r6, r6n, r6c)) hH h1 h2' h3 h4 h5 h6 h7 h8 h9 c813 hr6 (fun i hi => by have := hf6 i hi; omega) ?_ ⟨by omega, hs.2⟩ ⟨i1, i2⟩ ⟨q1, by omega⟩ ?_
     ·have := newN_len step (ts.take j)
      rw [List.length_take] at this
      rw [List.length_append]; omega
     ·intro w18 fp' hH' c18 hf'
      rw [List.append_assoc] at hH'
      obtain ⟨e1, e2⟩ := grow_trans c8 hf8 c18 hf'
      exact ⟨fp', hH', e1, e2⟩
    ·rw [to_zero] at hz
     have hz' : t.1 = (0, 0) := Decidable.of_not_not (of_decide_eq_false hz)
     rw [if_neg (by simp [hz']), if_neg (by simp [hz'])]
     rw [List.append_nil]
     exact ⟨fp8, hH.chg c11 (by simp), c8.trans c11 (by simp), hf8⟩
  ·have hjn : j = ts.length := by have := of_decide_eq_false hge; omega
   subst hjn
   rw [List.take_length] at hH
   obtain ⟨m, tbl, g, h1, h2', h3, h4, h5, h6, h7, h8, h9⟩ := hH.there
   refine ⟨(ns.length : Int), by rw [add_at, cell_of h1]; rfl, ?_⟩
   refine v_set h1 (by simp) fun w19 hh c19 s19 => ?_
   rw [wr (by omega) (by omega)] at hh
   have hdis : ∀ {e : TypeId} {sz : Nat} {r : Option Addr} {n c : Nat} {xs : List Value}, RowAt w8 e sz r n c xs → e ≠ 59 → RowAt w19 e sz r n c xs := fun hr hne => hr.chg c19 (fun i hi hm => by simp at hm; subst hm; exact row_block hr h1 hne hi)
   have hbm : m ∉ [b] := fun e => by
    simp at e
    obtain ⟨es, clk, hm, _⟩ := h2'
    rw [e, h1] at hm; cases hm
   refine ⟨fp8, c8.trans c19 (fun i hi hlt => by simp at hi; subst hi; exact (hf8 _ h3).resolve_right (by omega)), hf8, ?_⟩
   rw [if_neg hok']
   refine ⟨rfl, ⟨m, tbl, g, ?_, h2'.chg c19 hbm, h3, h4, fun p v hv => ?_, h6, h7, fun p x hx => ?_, h9⟩, hH.few, fun i hi => by have := hH.lt i hi; have := c19.size; omega, hH.last0, hH.steps⟩
   ·simpa using hh
   ·obtain ⟨a1, a2, a3⟩ := h5 p v hv
    exact ⟨hdis a1 (by decide), a2, a3⟩
   ·obtain ⟨a1, a2⟩ := h8 p x hx
    exact ⟨⟨hdis a1.row (by decide), a1.len, a1.wide⟩, a2⟩
end Go.Proofs.YtfcfkhbkkfpehaaDoor
end
section
/- Keys of a place and a step; counts in maps. -/
namespace Go.Proofs.YtfcfkhbkkfpehaaDoor
open Go Go.RowKit Go.X Go.XR Go.MapKept
abbrev Wh := Pl × Int
def encW (k : Wh) : Value := .agg #[.int .i64 k.1.1, .int .i64 k.1.2, .int .i64 k.2]
def encI (n : Int) : Value := .int .i64 n
theorem encW_inj (a b : Wh) (h : encW a = encW b) : a = b := by
 simp [encW] at h
 exact Prod.ext (Prod.ext h.1 h.2.1) h.2.2
theorem findW (k : Wh) (w : World) : ∀ (es : List MapEntry) (i : Nat), (∀ x ∈ es, ∃ a, x.key = encW a) →
  ((∀ x ∈ es, x.key ≠ encW k) ∧ (Instr.findAsking 65 (encW k) es i).run Tryd.prog w = .ok none w) ∨
  (∃ j e, es[j]? = some e ∧ e.key = encW k ∧ (Instr.findAsking 65 (encW k) es i).run Tryd.prog w = .ok (some (i + j, e.val)) w) := by
 intro es
 induction es with
 | nil => intro i _; exact .inl ⟨by simp, by simp [Instr.findAsking]⟩
 | cons e es ih =>
  intro i h
  obtain ⟨a, ha⟩ := h e (.head _)
  have heq : ∀ w, (Op.equal 65 (encW k) e.key).run Tryd.prog w = .ok (((k.1.1 == a.1.1) && (k.1.2 == a.1.2)) && (k.2 == a.2)) w := by
   intro w
   rw [ha]
   cases h0 : (k.1.1 == a.1.1) <;> cases h1 : (k.1.2 == a.1.2) <;> cases h2 : (k.2 == a.2) <;> simp [go_sem, Op.equal, Op.maxDepth, encW, h0, h1, h2]
  have hd : (((k.1.1 == a.1.1) && (k.1.2 == a.1.2)) && (k.2 == a.2)) = decide (k = a) := by
   by_cases hk : k = a
   ·subst hk; simp
   ·rw [decide_eq_false hk]
    cases hq : (((k.1.1 == a.1.1) && (k.1.2 == a.1.2)) && (k.2 == a.2)) with
    | false => rfl
    | true => simp at hq; exact absurd (Prod.ext (Prod.ext hq.1.1 hq.1.2) hq.2) hk
  by_cases hk : k = a
  ·refine .inr ⟨0, e, rfl, by rw [ha, hk], ?_⟩
   have hb := hd.trans (decide_eq_true hk)
   simp [Instr.findAsking, heq, hb, Result.andThen]
  ·have hb := hd.trans (decide_eq_false hk)
   have hne : e.key ≠ encW k := by
    rw [ha]; intro he
    exact hk (encW_inj _ _ he).symm
   have hrun : (Instr.findAsking 65 (encW k) (e :: es) i).run Tryd.prog w = (Instr.findAsking 65 (encW k) es (i + 1)).run Tryd.prog w := by
    simp [Instr.findAsking, heq, hb, Result.andThen]
   rcases ih (i + 1) (fun x hx => h x (.tail _ hx)) with ⟨h1, h2⟩ | ⟨j, e', h1, h2, h3⟩
   ·refine .inl ⟨fun x hx => ?_, hrun.trans h2⟩
    cases hx with
    | head => exact hne
    | tail _ hx => exact h1 x hx
   ·exact .inr ⟨j + 1, e', by simpa using h1, h2, by rw [hrun, h3, show i + 1 + j = i + (j + 1) from by omega]⟩
theorem checkW (e : Bool) (n : Nat) (w : World) (k : Wh) : (Instr.checkKey e (n + 3) 65 (encW k)).run Tryd.prog w = .ok () w := by
 have hp : ∀ (t : TypeId) (x : Int) (n : Nat), Tryd.prog.underlying t = some (.int .i64) → (Instr.checkKey e (n + 1) t (.int .i64 x)).run Tryd.prog w = .ok () w := fun t x n ht => run_checkKey (d := .int .i64) ht (by simp [IsKey]) e n
 have hpl := check56 e n w k.1
 unfold Instr.checkKey encW
 unfold encP at hpl
 simp [go_sem, hp, hpl]
theorem keyWhen : KeyT Tryd.prog 65 encW where
 inj := encW_inj
 check := fun e w k => checkW e 9997 w k
 find := fun w k es hes => by
  rw [run_findKey_eq w (k := 65) (P := Tryd.prog) (by kernel_rfl)]
  rcases findW k w es 0 hes with h | ⟨j, e, h1, h2, h3⟩
  ·exact .inl h
  ·exact .inr ⟨j, e, h1, h2, by simpa using h3⟩
 stays := fun k => by
  show Instr.sameBits (9999 + 1) (encW k) (encW k) = true
  unfold Instr.sameBits encW
  simp [Instr.sameBits]
theorem uMS : Tryd.prog.underlying 61 = some (.map 65 3) := by kernel_rfl
theorem zeroI (w : World) : (zeroValue 3).run Tryd.prog w = .ok (encI 0) w := zero3 w
section
variable {K : Type} [DecidableEq K] {ke : K → Value} {kt T : TypeId} {w : World} {r : Nat} {l : List (K × Int)}
theorem upd_length {V : Type} (k : K) (v : V) (l : List (K × V)) : (upd k v l).length = if (lookK k l).isSome then l.length else l.length + 1 := by
 unfold upd
 split <;> simp
theorem incr_map (h : MapIs w r ke encI l) (hm : Tryd.prog.underlying T = some (.map kt 3)) (hK : KeyT Tryd.prog kt ke) (k : K) :
  (Instr.lookup T (.map (some r)) (ke k) false).run Tryd.prog w = .ok (.int .i64 ((lookK k l).getD 0)) w ∧ ∃ (s : Nat) (w1 : World), (Instr.mapEntry T (.map (some r)) (ke k)).run Tryd.prog w = .ok (.tuple #[.int .i64 ((lookK k l).getD 0), .int .i64 s]) w1 ∧ Chg [r] w w1 ∧
   (Instr.lookup T (.map (some r)) (ke k) false).run Tryd.prog w1 = .ok (.int .i64 ((lookK k l).getD 0)) w1 ∧
   ∀ x : Int, ∃ w2 l', (Instr.entryStore T (.map (some r)) (.int .i64 s) (.int .i64 x)).run Tryd.prog w1 = .ok () w2 ∧ Chg [r] w1 w2 ∧ MapIs w2 r ke encI l' ∧ (∀ k', lookK k' l' = if k' = k then some x else lookK k' l) ∧ l'.length = if (lookK k l).isSome then l.length else l.length + 1 := by
 have e1 := h.lookup (P := Tryd.prog) hm hK zeroI k false
 simp only [Bool.false_eq_true, if_false] at e1
 have hv : ((lookK k l).map encI).getD (encI 0) = .int .i64 ((lookK k l).getD 0) := by cases lookK k l <;> rfl
 rw [hv] at e1
 refine ⟨e1, ?_⟩
 obtain ⟨s, w1, hrun, c1, s1, hE⟩ := h.entry (P := Tryd.prog) hm hK zeroI k
 have e2 := hE.map.lookup (P := Tryd.prog) hm hK zeroI k false
 simp only [Bool.false_eq_true, if_false] at e2
 rw [lookK_upd, if_pos rfl] at e2
 refine ⟨s, w1, hrun, c1, e2, fun x => ?_⟩
 obtain ⟨w2, hst, c2, s2, hM⟩ := hE.store (P := Tryd.prog) (T := T) x
 refine ⟨w2, _, hst, c2, hM, fun k' => ?_, ?_⟩
 ·rw [lookK_upd, lookK_upd]; split <;> rfl
 ·rw [upd_length, lookK_upd, if_pos rfl, upd_length]; simp
end
end Go.Proofs.YtfcfkhbkkfpehaaDoor
end
section
/- Histories: the closure of Roots, which calls itself. -/
namespace Go.Proofs.YtfcfkhbkkfpehaaDoor
open Go Go.RowKit Go.X Go.XR
def kids (ns : List Nt) (u : Wh) : List Wh := match bef (ofPl ns u.1) u.2 with
 | none => []
 | some n => n.2.2.map (fun q => (q, n.1))
inductive Reach (ns : List Nt) (a : Wh) : Wh → Prop
 | refl : Reach ns a a
 | step {b c : Wh} : Reach ns a b → c ∈ kids ns b → Reach ns a c
theorem Reach.trans {ns : List Nt} {a b c : Wh} (h : Reach ns a b) (k : Reach ns b c) : Reach ns a c := by
 induction k with
 | refl => exact h
 | step _ hc ih => exact .step ih hc
def has {K : Type} [DecidableEq K] (l : List (K × Int)) (u : K) : Prop := (lookK u l).isSome = true
instance {K : Type} [DecidableEq K] (l : List (K × Int)) (u : K) : Decidable (has l u) := by unfold has; exact inferInstance
theorem bef_some {ns : List Nt} {u : Wh} {n : Nt} (h : bef (ofPl ns u.1) u.2 = some n) : n ∈ ns ∧ n.2.1 = u.1 ∧ n.1 < u.2 := by
 unfold bef at h
 have h1 := List.find?_some h
 have h2 := List.mem_of_find?_eq_some h
 unfold ofPl at h2
 rw [List.mem_reverse, List.mem_filter] at h2
 simp at h1 h2
 exact ⟨h2.1, h2.2, h1⟩
theorem filter_less {ns : List Nt} {n : Nt} {s : Int} (hn : n ∈ ns) (hs : n.1 < s) : (ns.filter (fun m => decide (m.1 < n.1))).length < (ns.filter (fun m => decide (m.1 < s))).length := by
 induction ns with
 | nil => simp at hn
 | cons a l ih =>
  have hle : (l.filter (fun m => decide (m.1 < n.1))).length ≤ (l.filter (fun m => decide (m.1 < s))).length := by
   clear ih hn
   induction l with
   | nil => simp
   | cons b l ih =>
    simp only [List.filter_cons]
    by_cases h1 : b.1 < n.1
    ·have h2 : b.1 < s := by omega
     simp [h1, h2]; exact ih
    ·by_cases h2 : b.1 < s
     ·simp [h1, h2]; omega
     ·simp [h1, h2]; exact ih
  simp only [List.filter_cons]
  rcases List.mem_cons.1 hn with rfl | hn
  ·have h1 : ¬ n.1 < n.1 := by omega
   simp [h1, hs]; omega
  ·have := ih hn
   by_cases h1 : a.1 < n.1
   ·have h2 : a.1 < s := by omega
    simp [h1, h2]; exact this
   ·by_cases h2 : a.1 < s
    ·simp [h1, h2]; omega
    ·simp [h1, h2]; exact this
structure Ext (ns : List Nt) (a : Wh) (sl : List (Wh × Int)) (fl : List (Pl × Int)) (sl' : List (Wh × Int)) (fl' : List (Pl × Int)) : Prop where
 sub : ∀ u, has sl u → has sl' u
 self : has sl' a
 new : ∀ u, has sl' u → has sl u ∨ (Reach ns a u ∧ ∀ v ∈ kids ns u, has sl' v)
 found : ∀ p, has fl' p ↔ has fl p ∨ ∃ u : Wh, has sl' u ∧ ¬ has sl u ∧ u.1 = p ∧ bef (ofPl ns u.1) u.2 = none
structure RtAt (w : World) (c1 c2 c3 c4 s f b : Nat) (ns : List Nt) (cnt last : Int) (fp : List Nat) (U : List Wh) (sl : List (Wh × Int)) (fl : List (Pl × Int)) (C : Nat) : Prop where
 h1 : w.heap[c1]? = some (.cells #[.map (some s)] 61 (0, 0))
 h2 : w.heap[c2]? = some (.cells #[.pointer (some ⟨b, 0, none⟩)] 28 (0, 0))
 h3 : w.heap[c3]? = some (.cells #[.map (some f)] 62 (0, 0))
 h4 : w.heap[c4]? = some (.cells #[.func (.func 22) #[] #[.pointer (some ⟨c1, 0, none⟩), .pointer (some ⟨c2, 0, none⟩), .pointer (some ⟨c3, 0, none⟩), .pointer (some ⟨c4, 0, none⟩)]] 63 (0, 0))
 seen : MapIs w s encW encI sl
 found : MapIs w f encP encI fl
 ne : s ≠ f
 hist : HistAt w b ns cnt last fp
 sf : s ∉ fp ∧ f ∉ fp
 cnts : ∀ k v, lookK k sl = some v → 1 ≤ v ∧ v ≤ C
 fcnt : ∀ k v, lookK k fl = some v → 1 ≤ v ∧ v ≤ sl.length
 univ : ∀ u, has sl u → u ∈ U
theorem map_cells {w : World} {r : Nat} {K V : Type} {ke : K → Value} {ve : V → Value} {l : List (K × V)} (h : MapIs w r ke ve l) {c : Nat} {cs : Array Value} {T : TypeId} {fr : Nat × Nat} (hc : w.heap[c]? = some (.cells cs T fr)) : c ≠ r := fun e => by
 obtain ⟨es, clk, h1, _⟩ := h
 rw [← e, hc] at h1; cases h1
section
variable {w w' : World} {c1 c2 c3 c4 s f b : Nat} {ns : List Nt} {cnt last : Int} {fp : List Nat} {U : List Wh} {sl sl' : List (Wh × Int)} {fl fl' : List (Pl × Int)} {C C' : Nat}
theorem RtAt.chg (h : RtAt w c1 c2 c3 c4 s f b ns cnt last fp U sl fl C) (hc : Chg [] w w') : RtAt w' c1 c2 c3 c4 s f b ns cnt last fp U sl fl C :=
 ⟨hc.obj (by simp) h.h1, hc.obj (by simp) h.h2, hc.obj (by simp) h.h3, hc.obj (by simp) h.h4, h.seen.chg hc (by simp), h.found.chg hc (by simp), h.ne, h.hist.chg hc (by simp), h.sf, h.cnts, h.fcnt, h.univ⟩
theorem RtAt.chgS (h : RtAt w c1 c2 c3 c4 s f b ns cnt last fp U sl fl C) (hc : Chg [s] w w') (hm : MapIs w' s encW encI sl') (h1 : ∀ k v, lookK k sl' = some v → 1 ≤ v ∧ v ≤ C') (h2 : sl.length ≤ sl'.length) (h3 : ∀ u, has sl' u → u ∈ U) : RtAt w' c1 c2 c3 c4 s f b ns cnt last fp U sl' fl C' :=
 ⟨hc.obj (by simpa using map_cells h.seen h.h1) h.h1, hc.obj (by simpa using map_cells h.seen h.h2) h.h2, hc.obj (by simpa using map_cells h.seen h.h3) h.h3, hc.obj (by simpa using map_cells h.seen h.h4) h.h4, hm, h.found.chg hc (by simpa using h.ne.symm), h.ne,
  h.hist.chg hc (fun i hi hm => by simp at hm; subst hm; exact h.sf.1 hi), h.sf, h1, fun k v hv => by have := h.fcnt k v hv; omega, h3⟩
theorem RtAt.chgF (h : RtAt w c1 c2 c3 c4 s f b ns cnt last fp U sl fl C) (hc : Chg [f] w w') (hm : MapIs w' f encP encI fl') (h1 : ∀ k v, lookK k fl' = some v → 1 ≤ v ∧ v ≤ sl.length) : RtAt w' c1 c2 c3 c4 s f b ns cnt last fp U sl fl' C :=
 ⟨hc.obj (by simpa using map_cells h.found h.h1) h.h1, hc.obj (by simpa using map_cells h.found h.h2) h.h2, hc.obj (by simpa using map_cells h.found h.h3) h.h3, hc.obj (by simpa using map_cells h.found h.h4) h.h4, h.seen.chg hc (by simpa using h.ne), hm, h.ne,
  h.hist.chg hc (fun i hi hm => by simp at hm; subst hm; exact h.sf.2 hi), h.sf, h.cnts, h1, h.univ⟩
theorem RtAt.length (h : RtAt w c1 c2 c3 c4 s f b ns cnt last fp U sl fl C) : sl.length ≤ U.length := by
 obtain ⟨es, clk, _, _, hn, _⟩ := h.seen
 have := nodup_sub_length (a := sl.map Prod.fst) (b := U) hn (fun u hu => by
  obtain ⟨p, hp, rfl⟩ := List.mem_map.1 hu
  refine h.univ _ ?_
  unfold has
  rw [(lookK_iff hn (k := p.1) (v := p.2)).2 hp]; rfl)
 simpa using this
end
theorem roots_from {c1 c2 c3 c4 s f b : Nat} {ns : List Nt} {cnt last : Int} {fp : List Nat} {U : List Wh} {M : Nat} (hM : ∀ n ∈ ns, n.2.2.length ≤ M) (hM2 : M ≤ 1000000) (hU : ∀ u ∈ U, ∀ v ∈ kids ns u, v ∈ U) (hU2 : U.length ≤ 1000000000) :
  ∀ (K : Nat) {w : World} {sl : List (Wh × Int)} {fl : List (Pl × Int)} {C : Nat} {a : Wh}, RtAt w c1 c2 c3 c4 s f b ns cnt last fp U sl fl C → a ∈ U → C ≤ M * sl.length → (ns.filter (fun m => decide (m.1 < a.2))).length < K →
  Calls Tryd.prog 22 #[.agg #[.int .i64 a.1.1, .int .i64 a.1.2, .int .i64 a.2], .pointer (some ⟨c1, 0, none⟩), .pointer (some ⟨c2, 0, none⟩), .pointer (some ⟨c3, 0, none⟩), .pointer (some ⟨c4, 0, none⟩)] w fun e w' => e = .returned (.tuple #[]) ∧
   ∃ sl' fl' C', RtAt w' c1 c2 c3 c4 s f b ns cnt last fp U sl' fl' C' ∧ Chg [s, f] w w' ∧ Ext ns a sl fl sl' fl' ∧ sl.length ≤ sl'.length ∧ C' ≤ C + 1 + M * (sl'.length - sl.length)
 | 0, _, _, _, _, _, _, _, _, h => absurd h (Nat.not_lt_zero _)
 | K + 1, w, sl, fl, C, a, h, ha, hC, hK => by
  have hlen := h.length
  have hCb : C ≤ 1000000000000000 := Nat.le_trans hC (Nat.le_trans (Nat.mul_le_mul hM2 (Nat.le_trans hlen hU2)) (by decide))
  refine go_query_History_Roots_1 _ _ _ _ _ _ _ _ _ ?_
  unfold W_query_History_Roots_1
  rintro b1 w5 ⟨l1, u1⟩ c5
  have h5 := h.chg c5
  have hs5 := h5.seen.lt
  have hs0 := h.seen.lt
  have hf0 := h.found.lt
  obtain ⟨i1, st, w6, i2, c6, i3, i4⟩ := incr_map h5.seen uMS keyWhen a
  have hold : ∀ v, lookK a sl = some v → 1 ≤ v ∧ v ≤ C := h.cnts a
  obtain ⟨w7, sl7, j1, c7, hM7, j2, j3⟩ := i4 (IntKind.wrap .i64 ((lookK a sl).getD 0 + 1))
  have hv0 : 0 ≤ (lookK a sl).getD 0 ∧ (lookK a sl).getD 0 ≤ C := by
   cases hl : lookK a sl with
   | none => simp
   | some v => have := hold v hl; simp only [Option.getD_some]; omega
  rw [wr (by omega) (by omega)] at j1 j2
  have c57 : Chg [s] w5 w7 := c6.trans c7 (fun i hi _ => hi)
  have c07 : Chg [s] w w7 := c5.nil.trans c57 (fun i hi _ => hi)
  have hk7 : ∀ u, has sl7 u ↔ u = a ∨ has sl u := fun u => by
   unfold has; rw [j2]; by_cases hu : u = a <;> simp [hu]
  have h7 : RtAt w7 c1 c2 c3 c4 s f b ns cnt last fp U sl7 fl (C + 1) := h5.chgS c57 hM7 (fun k v hv => by
   rw [j2] at hv
   by_cases hk : k = a
   ·simp [hk] at hv; omega
   ·simp [hk] at hv; have := h.cnts k v hv; omega) (by rw [j3]; split <;> omega) (fun u hu => by
   rcases (hk7 u).1 hu with rfl | hu
   ·exact ha
   ·exact h.univ u hu)
  refine ⟨some s, by rw [cell_of h5.h1]; rfl, _, i1, _, (st : Int), w6, i2, ⟨by rw [cell_of (c6.obj (by simpa using map_cells h5.seen h5.h1) h5.h1)]; rfl, i3⟩, Same.of c6 (by simp; omega), w7, by rw [wr (by omega) (by omega)]; exact j1, ?_⟩
  have s6 := c6.size
  refine ⟨Same.of c7 (by simp; omega), some s, by rw [cell_of h7.h1]; rfl, (lookK a sl).getD 0 + 1, ?_, ?_⟩
  ·have := h7.seen.lookup (P := Tryd.prog) uMS keyWhen zeroI a false
   simp only [Bool.false_eq_true, if_false] at this
   rw [j2, if_pos rfl] at this
   exact this
  refine ⟨fun hbig => ?_, fun hsmall => ?_⟩
  · -- seen before
   have hbig' := of_decide_eq_true hbig
   have hin : has sl a := by
    unfold has
    cases hl : lookK a sl with
    | none => rw [hl] at hbig'; simp at hbig'
    | some v => rfl
   have hl7 : sl7.length = sl.length := by rw [j3]; unfold has at hin; simp [hin]
   refine ⟨sl7, fl, C + 1, h7, c07.mono (fun i hi _ => by simp at hi; simp [hi]), ⟨fun u hu => (hk7 u).2 (.inr hu), (hk7 a).2 (.inl rfl), fun u hu => .inl ?_, fun p => ⟨.inl, fun hp => hp.resolve_right ?_⟩⟩, by omega, by rw [hl7]; simp⟩
   ·rcases (hk7 u).1 hu with rfl | hu
    ·exact hin
    ·exact hu
   ·rintro ⟨u, hu, hnu, _⟩
    rcases (hk7 u).1 hu with rfl | hu
    ·exact hnu hin
    ·exact hnu hu
  have hsmall' := of_decide_eq_false hsmall
  have hnone : lookK a sl = none := by
   cases hl : lookK a sl with
   | none => rfl
   | some v => have := hold v hl; rw [hl] at hsmall'; simp only [Option.getD_some] at hsmall'; omega
  have hnot : ¬ has sl a := by unfold has; rw [hnone]; simp
  have hl7 : sl7.length = sl.length + 1 := by rw [j3, hnone]; simp
  have s57 := c57.size
  have hf7 := h7.found.lt
  refine ⟨some ⟨b, 0, none⟩, by rw [cell_of h7.h2]; rfl, ?_⟩
  refine (hist_before h7.hist a.1.1 a.1.2 a.2).mono ?_
  rintro _ w8 ⟨r1, r2, r3, r4, r4n, r4c, r5, rfl, hbe, c8⟩
  have s8 := c8.size
  refine ⟨_, _, _, _, _, _, _, rfl, Same.chg c8 (by simp; omega), ?_⟩
  rintro b2 w10 ⟨l2, u2⟩ c10
  have s10 := c10.size
  have h10 := (h7.chg c8).chg c10
  have c010 : Chg [s, f] w w10 := ((c07.mono (g := [s, f]) (fun i hi _ => by simp at hi; simp [hi])).trans c8.nil (fun i hi _ => hi)).trans c10.nil (fun i hi _ => hi)
  -- what the loop goes over
  obtain ⟨ps, hps, hkids, hrows, hstep, hroot⟩ : ∃ ps : List Pl, r4n = ps.length ∧ kids ns a = ps.map (fun q => (q, r1)) ∧ FromAt w10 (r4, r4n, r4c) ps ∧ (ps ≠ [] → ∃ n ∈ ns, n.1 = r1 ∧ r1 < a.2 ∧ n.2.2 = ps) ∧ (!r5) = decide (bef (ofPl ns a.1) a.2 = none) := by
   rcases hbe with ⟨e, rfl, rfl, rfl, eq, rfl⟩ | ⟨n, e, rfl, rfl, rfl, rfl, hfa, hfs⟩
   ·have e' : bef (ofPl ns a.1) a.2 = none := e
    cases eq
    refine ⟨[], rfl, by unfold kids; rw [e']; rfl, ⟨RowAt.nil, rfl, by simp⟩, fun h => absurd rfl h, by rw [e']; simp⟩
   ·have e' : bef (ofPl ns a.1) a.2 = some n := e
    obtain ⟨q1, q2, q3⟩ := bef_some e'
    exact ⟨n.2.2, hfa.len, by unfold kids; rw [e'], hfa.chg c10 (by simp), fun _ => ⟨n, q1, rfl, q3, rfl⟩, by rw [e']; simp⟩
  have hrfp : ∀ i ∈ rowB r4, i ≠ s ∧ i ≠ f := fun i hi => ⟨fun e => by subst e; exact row_map hrows.row h10.seen hi, fun e => by subst e; exact row_map hrows.row h10.found hi⟩
  have hpsM : ps ≠ [] → ps.length ≤ M := fun hne => by obtain ⟨n, q1, _, _, q4⟩ := hstep hne; rw [← q4]; exact hM n q1
  refine ⟨fun w11 => ∃ fl11, RtAt w11 c1 c2 c3 c4 s f b ns cnt last fp U sl7 fl11 (C + 1) ∧ Chg [s, f] w w11 ∧ (∀ p, has fl11 p ↔ has fl p ∨ (bef (ofPl ns a.1) a.2 = none ∧ p = a.1)) ∧ FromAt w11 (r4, r4n, r4c) ps ∧ b2 < w11.heap.size, ?_, fun hr => ?_, fun hr => ?_⟩
  rotate_left
  ·intro w16 c16
   have h16 := h10.chg c16
   obtain ⟨k1, st3, w17, k2, c17, k3, k4⟩ := incr_map h16.found uMQ keyPlace a.1
   obtain ⟨w18, fl18, n1, c18, hM18, n2, n3⟩ := k4 (IntKind.wrap .i64 ((lookK a.1 fl).getD 0 + 1))
   have hfv : 0 ≤ (lookK a.1 fl).getD 0 ∧ (lookK a.1 fl).getD 0 ≤ sl.length := by
    cases hl : lookK a.1 fl with
    | none => simp
    | some v => have := h.fcnt _ v hl; simp only [Option.getD_some]; omega
   rw [wr (by omega) (by omega)] at n1 n2
   have s16 := c16.size
   have s17 := c17.size
   have c1618 : Chg [f] w16 w18 := c17.trans c18 (fun i hi _ => hi)
   refine ⟨some f, by rw [cell_of h16.h3]; rfl, _, k1, _, (st3 : Int), w17, k2, ⟨by rw [cell_of (c17.obj (by simpa using map_cells h16.found h16.h3) h16.h3)]; rfl, k3⟩, Same.of c17 (by simp; omega), w18, by rw [wr (by omega) (by omega)]; exact n1, Same.of c18 (by simp; omega), fl18, ?_⟩
   have hroot' := of_decide_eq_true (hroot.symm.trans hr)
   refine ⟨h16.chgF c1618 hM18 (fun k v hv => ?_), (c010.trans c16.nil (fun i hi _ => hi)).trans (c1618.mono (fun i hi _ => by simp at hi; simp [hi])) (fun i hi _ => hi), fun p => ?_, (hrows.chg c16 (by simp)).chg c1618 (fun i hi hm => by simp at hm; exact (hrfp i hi).2 hm), by have := c1618.size; omega⟩
   ·rw [n2] at hv
    by_cases hk : k = a.1
    ·simp [hk] at hv; omega
    ·simp [hk] at hv; have := h.fcnt k v hv; omega
   ·unfold has; rw [n2]
    by_cases hk : p = a.1 <;> simp [hk, hroot']
  ·have hroot' := of_decide_eq_false (hroot.symm.trans hr)
   exact ⟨fl, h10, c010, fun p => ⟨.inl, fun hp => hp.resolve_right (fun h => hroot' h.1)⟩, hrows, u2⟩
  rintro w11 ⟨fl11, h11, c11, hfl11, hrow11, hb2⟩
  refine ⟨fun x w12 => ∃ j : Nat, x = (j : Int) ∧ j ≤ ps.length ∧ ∃ sl2 fl2 C2, RtAt w12 c1 c2 c3 c4 s f b ns cnt last fp U sl2 fl2 C2 ∧ Chg [s, f] w w12 ∧ (∀ u, has sl7 u → has sl2 u) ∧ (∀ i q, i < j → ps[i]? = some q → has sl2 (q, r1)) ∧
   (∀ u, has sl2 u → has sl7 u ∨ (Reach ns a u ∧ ∀ v ∈ kids ns u, has sl2 v)) ∧ (∀ p, has fl2 p ↔ has fl11 p ∨ ∃ u : Wh, has sl2 u ∧ ¬ has sl7 u ∧ u.1 = p ∧ bef (ofPl ns u.1) u.2 = none) ∧ sl7.length ≤ sl2.length ∧ C2 ≤ C + 1 + M * (sl2.length - sl7.length) + j ∧ FromAt w12 (r4, r4n, r4c) ps ∧ b2 < w12.heap.size,
   fun x _ => (ps.length - x).toNat, ⟨0, rfl, Nat.zero_le _, sl7, fl11, C + 1, h11, c11, fun u hu => hu, fun i q hi => absurd hi (Nat.not_lt_zero _), fun u hu => .inl hu, fun p => ⟨.inl, fun hp => hp.resolve_right (fun ⟨u, hu, hn, _⟩ => hn hu)⟩, Nat.le_refl _, by simp, hrow11, hb2⟩, ?_⟩
  rintro _ w12 ⟨j, rfl, hj, sl2, fl2, C2, h12, c12, m1, m2, m3, m4, m5, m6, hrow12, hb12⟩
  refine ⟨fun hlt => ?_, fun hge => ?_⟩
  ·have hjn : j < ps.length := by have := of_decide_eq_true hlt; omega
   obtain ⟨q, hq⟩ := get_of hjn
   have hpne : ps ≠ [] := fun e => by rw [e] at hjn; simp at hjn
   obtain ⟨n, g1, g2, g3, g4⟩ := hstep hpne
   obtain ⟨aa, haa, hcs⟩ := hrow12.reads.2.2 j q hq
   refine ⟨aa, haa, by omega, by omega, q.1, q.2, by simpa using hcs, ?_⟩
   rintro b3 w14 ⟨l3, u3⟩ c14
   have s14 := c14.size
   have h14 := h12.chg c14
   have hkid : (q, r1) ∈ kids ns a := by rw [hkids]; exact List.mem_map.2 ⟨q, List.mem_of_getElem? hq, rfl⟩
   have hmeas : (ns.filter (fun m => decide (m.1 < r1))).length < K := by
    have := filter_less g1 (s := a.2) (by rw [g2]; exact g3)
    rw [g2] at this; omega
   have hpM := hpsM hpne
   have hC2 : C2 ≤ M * sl2.length := by
    obtain ⟨D, hD⟩ : ∃ D, D = sl2.length - sl7.length := ⟨_, rfl⟩
    rw [← hD] at m6
    have e1 : sl2.length = sl.length + 1 + D := by omega
    rw [e1, Nat.mul_add, Nat.mul_add]; omega
   refine ⟨_, by rw [cell_of h14.h4]; rfl, 22, _, Tryd.f22, rfl, Tryd.func22, by kernel_rfl, by kernel_rfl, ?_⟩
   refine (roots_from hM hM2 hU hU2 K (a := (q, r1)) h14 (hU a ha _ hkid) hC2 hmeas).mono ?_
   rintro e w15 ⟨rfl, sl3, fl3, C3, h15, c15, hE, hl3, hC3⟩
   have s15 := c15.size
   have hs14 := h14.seen.lt
   have hf14 := h14.found.lt
   have hs7 := h7.seen.lt
   refine ⟨rfl, Same.of c15 (fun i hi => ?_), ?_⟩
   ·simp at hi; subst hi
    refine ⟨by omega, ?_⟩
    simp only [List.mem_cons, List.not_mem_nil, or_false, not_or]
    have := h10.seen.lt
    have := (h7.chg c8).seen.lt
    have := (h7.chg c8).found.lt
    omega
   rw [wr (by omega) (by omega)]
   refine ⟨⟨j + 1, by omega, by omega, sl3, fl3, C3, h15, (c12.trans c14.nil (fun i hi _ => hi)).trans c15 (fun i hi _ => hi), fun u hu => hE.sub u (m1 u hu), fun i q' hi hq' => ?_, fun u hu => ?_, fun p => ?_, by omega, ?_, (hrow12.chg c14 (by simp)).chg c15 (fun i hi hm => ?_), by omega⟩, by simp only []; omega⟩
   ·by_cases hij : i < j
    ·exact hE.sub _ (m2 i q' hij hq')
    ·have : i = j := by omega
     subst this
     rw [hq] at hq'; cases hq'
     exact hE.self
   ·rcases hE.new u hu with hu2 | ⟨hr, hk⟩
    ·rcases m3 u hu2 with hu7 | ⟨hr, hk⟩
     ·exact .inl hu7
     ·exact .inr ⟨hr, fun v hv => hE.sub v (hk v hv)⟩
    ·exact .inr ⟨(Reach.step .refl hkid).trans hr, hk⟩
   ·rw [hE.found, m4]
    constructor
    ·rintro ((hp | ⟨u, hu, hn, e1, e2⟩) | ⟨u, hu, hn, e1, e2⟩)
     ·exact .inl hp
     ·exact .inr ⟨u, hE.sub u hu, hn, e1, e2⟩
     ·exact .inr ⟨u, hu, fun h => hn (m1 u h), e1, e2⟩
    ·rintro (hp | ⟨u, hu, hn, e1, e2⟩)
     ·exact .inl (.inl hp)
     ·by_cases h2 : has sl2 u
      ·exact .inl (.inr ⟨u, h2, hn, e1, e2⟩)
      ·exact .inr ⟨u, hu, h2, e1, e2⟩
   ·obtain ⟨D, hD⟩ : ∃ D, D = sl2.length - sl7.length := ⟨_, rfl⟩
    obtain ⟨E, hE'⟩ : ∃ E, E = sl3.length - sl2.length := ⟨_, rfl⟩
    rw [← hD] at m6
    rw [← hE'] at hC3
    have : sl3.length - sl7.length = D + E := by omega
    rw [this, Nat.mul_add]; omega
   ·simp at hm
    have := hrfp i hi
    rcases hm with hm | hm
    ·exact this.1 hm
    ·exact this.2 hm
  ·have hjn : j = ps.length := by have := of_decide_eq_false hge; omega
   refine ⟨sl2, fl2, C2, h12, c12, ⟨fun u hu => m1 u ((hk7 u).2 (.inr hu)), m1 a ((hk7 a).2 (.inl rfl)), fun u hu => ?_, fun p => ?_⟩, by omega, ?_⟩
   ·rcases m3 u hu with hu7 | h'
    ·rcases (hk7 u).1 hu7 with rfl | hu0
     ·refine .inr ⟨.refl, fun v hv => ?_⟩
      rw [hkids] at hv
      obtain ⟨q, hq, rfl⟩ := List.mem_map.1 hv
      obtain ⟨i, hi⟩ := List.getElem?_of_mem hq
      exact m2 i q (by have := (List.getElem?_eq_some_iff.1 hi).1; omega) hi
     ·exact .inl hu0
    ·exact .inr h'
   ·rw [m4, hfl11]
    constructor
    ·rintro ((hp | ⟨e1, rfl⟩) | ⟨u, hu, hn, e1, e2⟩)
     ·exact .inl hp
     ·exact .inr ⟨a, m1 a ((hk7 a).2 (.inl rfl)), hnot, rfl, e1⟩
     ·exact .inr ⟨u, hu, fun h => hn ((hk7 u).2 (.inr h)), e1, e2⟩
    ·rintro (hp | ⟨u, hu, hn, e1, e2⟩)
     ·exact .inl (.inl hp)
     ·by_cases hua : u = a
      ·subst hua
       exact .inl (.inr ⟨e2, e1.symm⟩)
      ·exact .inr ⟨u, hu, fun h => by
        rcases (hk7 u).1 h with h | h
        ·exact hua h
        ·exact hn h, e1, e2⟩
   ·obtain ⟨D, hD⟩ : ∃ D, D = sl2.length - sl7.length := ⟨_, rfl⟩
    rw [← hD] at m6
    have e1 : sl2.length - sl.length = D + 1 := by omega
    rw [e1, Nat.mul_add]
    by_cases hpne : ps = []
    ·subst hpne
     simp at hjn
     omega
    ·have := hpsM hpne; omega
end Go.Proofs.YtfcfkhbkkfpehaaDoor
end
section
/- Histories: Roots. -/
namespace Go.Proofs.YtfcfkhbkkfpehaaDoor
open Go Go.RowKit Go.X Go.XR
def isRoot (ns : List Nt) (a : Wh) (q : Pl) : Prop := ∃ u : Wh, Reach ns a u ∧ u.1 = q ∧ bef (ofPl ns u.1) u.2 = none
def univ (ns : List Nt) (a : Wh) : List Wh := a :: ns.flatMap (fun n => n.2.2.map (fun q => (q, n.1)))
theorem univ_kids (ns : List Nt) (a u v : Wh) (h : v ∈ kids ns u) : v ∈ univ ns a := by
 unfold kids at h
 cases hb : bef (ofPl ns u.1) u.2 with
 | none => rw [hb] at h; simp at h
 | some n =>
  rw [hb] at h
  exact List.mem_cons_of_mem _ (List.mem_flatMap.2 ⟨n, (bef_some hb).1, h⟩)
theorem flat_len {α β : Type} (f : α → List β) (M : Nat) : ∀ l : List α, (∀ x ∈ l, (f x).length ≤ M) → (l.flatMap f).length ≤ M * l.length
 | [], _ => by simp
 | a :: l, h => by
  rw [List.flatMap_cons, List.length_append, List.length_cons, Nat.mul_add]
  have := flat_len f M l (fun x hx => h x (.tail _ hx))
  have := h a (.head _)
  omega
theorem has_nil {K : Type} [DecidableEq K] (u : K) : ¬ has ([] : List (K × Int)) u := by unfold has; simp [lookK_nil]
theorem hist_roots {w : World} {b : Nat} {ns : List Nt} {cnt last : Int} {fp : List Nat} (h : HistAt w b ns cnt last fp) (hn : ns.length ≤ 1000) (hM : ∀ n ∈ ns, n.2.2.length ≤ 1000) (p1 p2 step : Int) :
  Calls Tryd.prog 10 #[.pointer (some ⟨b, 0, none⟩), .agg #[.int .i64 p1, .int .i64 p2], .int .i64 step] w fun e w' => ∃ (r : Option Addr) (rn rc : Nat), e = .returned (.slice r rn rc) ∧
   (Chg [] w w' ∧ ∃ ys : List Pl, RowAt w' 27 2 r rn rc (ys.flatMap encPl) ∧ rn = ys.length ∧ (∀ i ∈ rowB r, w.heap.size ≤ i) ∧ ys.Nodup ∧ ys.Pairwise (fun a b => ¬ ltPl b a) ∧ (∀ q, q ∈ ys ↔ isRoot ns ((p1, p2), step) q) ∧ ys.length ≤ 1000001) := by
 have hlt := h.lt
 refine go_query_History_Roots _ _ _ _ _ _ ?_
 unfold W_query_History_Roots
 refine v_alloc fun b1 w1 e1 hb1 c1 => ?_
 rintro b2 w2 ⟨l2, u2⟩ c2
 have s1 := c1.size
 have k1 := lt_of_heap hb1
 refine ⟨some ⟨b, 0, none⟩, by rw [cell_of (c2.obj (by simp) hb1)]; rfl, ?_⟩
 have c02 := c1.trans0 c2
 refine (hist_none (h.chg c02 (by simp))).mono ?_
 rintro _ w3 ⟨_, rfl, rfl, hw⟩
 subst w3
 refine ⟨_, rfl, Same.refl _ _, fun h => by simp at h, fun _ => ?_⟩
 refine v_alloc fun b3 w4 e3 hb3 c4 => ?_
 refine v_alloc fun b4 w5 e4 hb4 c5 => ?_
 refine v_set0 hb4 (by simp) fun w6 hb4' c6 s6 => ?_
 have s2 := c2.size
 have s4 := c4.size
 have s5 := c5.size
 have k3 := lt_of_heap hb3
 have k4 := lt_of_heap hb4
 refine ⟨Same.of c6 (by simp; omega), ?_⟩
 refine v_alloc fun b5 w7 e5 hb5 c7 => ?_
 refine v_alloc fun b6 w8 e6 hb6 c8 => ?_
 refine v_set0 hb6 (by simp) fun w9 hb6' c9 s9 => ?_
 have s7 := c7.size
 have s8 := c8.size
 have k5 := lt_of_heap hb5
 have k6 := lt_of_heap hb6
 refine ⟨Same.of c9 (by simp; omega), ?_⟩
 refine v_alloc fun b7 w10 e7 hb7 c10 => ?_
 refine v_set0 hb7 (by simp) fun w11 hb7' c11 s11 => ?_
 have s10 := c10.size
 have k7 := lt_of_heap hb7
 refine ⟨Same.of c11 (by simp; omega), ?_⟩
 -- the worlds, one behind the other
 have d611 : Chg [b6, b7] w6 w11 := ((((c7.nil (f := [b6, b7])).trans c8.nil (fun i hi _ => hi)).trans (c9.mono (g := [b6, b7]) (fun i hi _ => by simp at hi; simp [hi])) (fun i hi _ => hi)).trans c10.nil (fun i hi _ => hi)).trans (c11.mono (g := [b6, b7]) (fun i hi _ => by simp at hi; simp [hi])) (fun i hi _ => hi)
 have d911 : Chg [b7] w9 w11 := (c10.nil (f := [b7])).trans c11 (fun i hi _ => hi)
 have c06 : Chg [] w w6 := ((c02.trans0 c4).trans0 c5).trans c6 (fun i hi hlt => by simp at hi; omega)
 have c011 : Chg [] w w11 := c06.trans d611 (fun i hi hlt => by simp at hi; omega)
 have hb1' : w11.heap[b1]? = some (.cells #[.pointer (some ⟨b, 0, none⟩)] 28 (0, 0)) := d611.obj (by simp; omega) (c6.obj (by simp; omega) (c5.obj (by simp) (c4.obj (by simp) (c2.obj (by simp) hb1))))
 have hb3' : w11.heap[b3]? = some (.map #[] 0) := d611.obj (by simp; omega) (c6.obj (by simp; omega) (c5.obj (by simp) hb3))
 have hb4'' : w11.heap[b4]? = some (.cells #[.map (some b3)] 61 (0, 0)) := d611.obj (by simp; omega) (by simpa using hb4')
 have hb5' : w11.heap[b5]? = some (.map #[] 0) := d911.obj (by simp; omega) (c9.obj (by simp; omega) (c8.obj (by simp) hb5))
 have hb6'' : w11.heap[b6]? = some (.cells #[.map (some b5)] 62 (0, 0)) := d911.obj (by simp; omega) (by simpa using hb6')
 have hb7'' : w11.heap[b7]? = some (.cells #[.func (.func 22) #[] #[.pointer (some ⟨b4, 0, none⟩), .pointer (some ⟨b1, 0, none⟩), .pointer (some ⟨b6, 0, none⟩), .pointer (some ⟨b7, 0, none⟩)]] 63 (0, 0)) := by simpa using hb7'
 have hR : RtAt w11 b4 b1 b6 b7 b3 b5 b ns cnt last fp (univ ns ((p1, p2), step)) [] [] 0 :=
  ⟨hb4'', hb1', hb6'', hb7'', ⟨#[], 0, hb3', rfl, by simp, by simp, by simp⟩, ⟨#[], 0, hb5', rfl, by simp, by simp, by simp⟩, by omega, h.chg c011 (by simp), ⟨fun hm => by have := hlt _ hm; omega, fun hm => by have := hlt _ hm; omega⟩,
   fun k v hv => by simp [lookK_nil] at hv, fun k v hv => by simp [lookK_nil] at hv, fun u hu => absurd hu (has_nil u)⟩
 have hUl : (univ ns ((p1, p2), step)).length ≤ 1000001 := by
  have := flat_len (fun n : Nt => n.2.2.map (fun q => ((q, n.1) : Wh))) 1000 ns (fun n hn' => by simpa using hM n hn')
  unfold univ
  rw [List.length_cons]
  have : 1000 * ns.length ≤ 1000000 := by omega
  omega
 refine ⟨_, by rw [cell_of hb7'']; rfl, 22, _, Tryd.f22, rfl, Tryd.func22, by kernel_rfl, by kernel_rfl, ?_⟩
 refine (roots_from hM (by omega) (fun u _ v hv => univ_kids ns _ u v hv) (by omega) ((ns.filter (fun m => decide (m.1 < step))).length + 1) (a := ((p1, p2), step)) hR (.head _) (by simp) (Nat.lt_succ_self _)).mono ?_
 rintro e w12 ⟨rfl, sl, fl, C, h12, c12, hE, _, _⟩
 refine ⟨rfl, some b5, by rw [cell_of h12.h3]; rfl, ?_⟩
 have c012 : Chg [] w w12 := c011.trans c12 (fun i hi hlt => by simp at hi; omega)
 refine (maps_qkeys w12 (some b5)).mono ?_
 rintro _ w13 ⟨_, rfl, cb, rfl, ecb, hcb, c13⟩
 have hf13 := h12.found.chg c13 (by simp)
 have s12 := c12.size
 have s13 := c13.size
 have hcl := lt_of_heap hcb
 -- what was found
 have hreach : ∀ u, has sl u ↔ Reach ns ((p1, p2), step) u := fun u => by
  constructor
  ·intro hu
   exact ((hE.new u hu).resolve_left (has_nil u)).1
  ·intro hu
   induction hu with
   | refl => exact hE.self
   | step _ hc ih => exact ((hE.new _ ih).resolve_left (has_nil _)).2 _ hc
 have hfound : ∀ q, has fl q ↔ isRoot ns ((p1, p2), step) q := fun q => by
  rw [hE.found]
  constructor
  ·rintro (hp | ⟨u, hu, _, e1, e2⟩)
   ·exact absurd hp (has_nil q)
   ·exact ⟨u, (hreach u).1 hu, e1, e2⟩
  ·rintro ⟨u, hu, e1, e2⟩
   exact .inr ⟨u, (hreach u).2 hu, has_nil u, e1, e2⟩
 obtain ⟨_, _, _, _, hnf, _⟩ := h12.found
 have hmem : ∀ q, q ∈ fl.map Prod.fst ↔ has fl q := fun q => by
  unfold has
  rw [Option.isSome_iff_exists]
  constructor
  ·intro hq
   obtain ⟨x, hx, rfl⟩ := List.mem_map.1 hq
   exact ⟨x.2, (lookK_iff hnf).2 hx⟩
  ·rintro ⟨v, hv⟩
   exact List.mem_map.2 ⟨_, lookK_mem hv, rfl⟩
 have hfl : fl.length ≤ 1000001 := by
  have e1 := nodup_sub_length (a := fl.map Prod.fst) (b := (univ ns ((p1, p2), step)).map Prod.fst) hnf (fun q hq => by
   obtain ⟨u, hu, e1, _⟩ := (hfound q).1 ((hmem q).1 hq)
   exact List.mem_map.2 ⟨u, h12.univ u ((hreach u).2 hu), e1⟩)
  simp only [List.length_map] at e1
  omega
 have hspl : ∀ pre, allSp Prod.fst fl pre → pre.length ≤ 1000001 := by
  rintro pre ⟨done, rfl, d1, d2⟩
  have := nodup_sub_length (a := done.map Prod.fst) (b := fl.map Prod.fst) d1 (fun q hq => by
   obtain ⟨x, hx, rfl⟩ := List.mem_map.1 hq
   exact List.mem_map.2 ⟨x, d2 x hx, rfl⟩)
  simp only [List.length_map] at this ⊢
  omega
 refine ⟨_, rfl, ?_⟩
 refine (sorted_placesQ (isFnQ cb) (iterates_qkeys hcb hf13) (by simp; exact ⟨hcl, hf13.lt⟩) (fun pre hp => by have := hspl pre hp; omega) (fun xs ⟨done, e, d1, d2, _⟩ => ⟨done, e, d1, d2⟩)).mono ?_
 rintro _ w14 ⟨r, rn, rc, rfl, xs, ys, ⟨done, rfl, d1, d2, d3⟩, hperm, hsort, hrn, hrow, c14, hfr⟩
 refine ⟨r, rn, rc, rfl, (c012.trans0 c13).trans0 c14, ys, hrow, hrn, fun i hi => by have := hfr i hi; have := c011.size; omega, hperm.nodup_iff.2 d1, hsort, fun q => ?_, ?_⟩
 ·rw [hperm.mem_iff, ← hfound, ← hmem]
  constructor
  ·intro hq
   obtain ⟨x, hx, rfl⟩ := List.mem_map.1 hq
   exact List.mem_map.2 ⟨x, d2 x hx, rfl⟩
  ·intro hq
   obtain ⟨x, hx, rfl⟩ := List.mem_map.1 hq
   exact List.mem_map.2 ⟨x, d3 x hx, rfl⟩
 ·rw [hperm.length_eq]; exact hspl _ ⟨done, rfl, d1, d2⟩
end Go.Proofs.YtfcfkhbkkfpehaaDoor
end
section
namespace Go.Proofs.YtfcfkhbkkfpehaaDoor
open Go Go.X
/- pomander/pomanderlaw14.known -/
def W_pomanderlaw14_known  (w : World) (R : Bool → World → Prop) : Prop :=
 Calls Tryd.prog 8 #[] w fun e w1 => ∃ (r2 : Option Addr), e = .returned (.pointer r2) ∧ (∀ (b3 b2 b1 : Nat) (w7 : World), (w1.heap.size ≤ b3 ∧ b3 < w7.heap.size) → (w1.heap.size ≤ b2 ∧ b2 < w7.heap.size) → (w1.heap.size ≤ b1 ∧ b1 < w7.heap.size) → Chg [] w1 w7 → (∀ b4 : Nat, b4 = World.size w7 → ∀ w8 : World, w8 = World.alloc w7 (.cells #[.int .i64 13, .int .i64 0] 27) → (∀ b5 : Nat, b5 = World.size w8 → ∀ w9 : World, w9 = World.alloc w8 (.cells #[.int .i64 1, .int .i64 1, .slice (some (⟨b4, 0, none⟩ : Addr)) 1 1] 33) → (Calls Tryd.prog 9 #[.pointer r2, .int .i64 1, .slice (some (⟨b5, 0, none⟩ : Addr)) 1 1] w9 fun e w10 => ∃ (r3 : Int), e = .returned (.int .i64 r3) ∧ (Same w9 w10 [b3, b2, b1] ∧ (∀ b6 : Nat, b6 = World.size w10 → ∀ w11 : World, w11 = World.alloc w10 (.cells #[.int .i64 1, .int .i64 1] 27) → (∀ b7 : Nat, b7 = World.size w11 → ∀ w12 : World, w12 = World.alloc w11 (.cells #[.int .i64 10, .int .i64 5, .slice (some (⟨b6, 0, none⟩ : Addr)) 1 1] 33) → (Calls Tryd.prog 9 #[.pointer r2, .int .i64 2, .slice (some (⟨b7, 0, none⟩ : Addr)) 1 1] w12 fun e w13 => ∃ (r4 : Int), e = .returned (.int .i64 r4) ∧ (Same w12 w13 [b3, b1] ∧ (Calls Tryd.prog 10 #[.pointer r2, .agg #[.int .i64 10, .int .i64 5], .int .i64 9] w13 fun e w14 => ∃ (r5 : Option Addr) (r5n : Nat) (r5c : Nat), e = .returned (.slice r5 r5n r5c) ∧ (Same w13 w14 [b3, b1] ∧ (∀ (w15 : World), Chg [] w14 w15 → (∃ J1 : Bool → World → Prop, (∀ (b8 : Bool) (w16 : World), J1 b8 w16 → ∃ J2 : Bool → World → Prop, (∀ (b9 : Bool) (w17 : World), J2 b9 w17 → R b9 w17) ∧ ((b8 = true → Calls Tryd.prog 19 #[.agg #[.int .i64 10, .int .i64 5]] w16 fun e w18 => ∃ (r6 : ByteArray), e = .returned (.string r6) ∧ (∃ (t3 : Bool), (∀ w : World, ((do eqGuard .eql 9 (.tmp 49) (.const (.string ⟨#[109, 101, 109, 32, 53]⟩)) (.string r6) (.string ⟨#[109, 101, 109, 32, 53]⟩); binOp .eql 9 (.string r6) (.string ⟨#[109, 101, 109, 32, 53]⟩) : Sem Value)).run Tryd.prog w = .ok (.bool t3) w) ∧ (J2 t3 w18))) ∧ (b8 = false → J2 false w16))) ∧ ((((r3 == 0 && r4 == 0) && (r5n : Int) == 1) = true → ∃ a1 : Addr, r5 = some a1 ∧ (0 : Int) ≤ 0 ∧ 0 < (r5n : Int) ∧ (∃ (t1 : Int) (t2 : Int), CellsAt w15 (a1.add (Int.toNat 0 * 2)) 0 [.int .i64 t1, .int .i64 t2] ∧ (J1 ((t1 == 13) && (t2 == 0)) w15))) ∧ (((r3 == 0 && r4 == 0) && (r5n : Int) == 1) = false → J1 false w15)))))))))))))))
set_option maxRecDepth 100000 in
theorem go_pomanderlaw14_known  (w : World) (R : Bool → World → Prop) (h : W_pomanderlaw14_known  w R) : Calls Tryd.prog 7 #[] w (fun e w' => ∃ (r1 : Bool), e = .returned (.bool r1) ∧ R r1 w') := by
 unfold W_pomanderlaw14_known at h
 refine enter (N := 52) Tryd.func7 rfl rfl ?_
 refine CW.seq ?_
 refine CW.region fun L hL => ?_
 refine LW.rd hL rfl (Wants.free rfl) rfl (Rd.assign (v := .bool false) rfl) ?_
 refine LW.nil hL rfl ?_
 refine NW.then ?_
 refine CW.seq ?_
 refine CW.region fun L hL => ?_
 refine LW.call hL rfl (Wants.free rfl) rfl (Cl.fn (f := 8) rfl Tryd.func8 (by kernel_rfl) rfl) h (fun e w1 h_ => ?_)
 clear h
 obtain ⟨r2, rfl, h⟩ := h_
 refine ⟨_, rfl, ?_⟩
 refine LW.rd hL rfl (Wants.free rfl) rfl (Rd.assign (v := .pointer r2) rfl) ?_
 refine LW.nil hL rfl ?_
 refine NW.then ?_
 refine CW.seq ?_
 refine CW.region fun L hL => ?_
 refine LW.rd hL rfl (Wants.free rfl) rfl (Rd.build (v := .agg #[.int .i64 13, .int .i64 0]) rfl (fun _ => by kernel_rfl)) ?_
 refine LW.rd hL rfl (Wants.free rfl) rfl (Rd.build (v := .agg #[.int .i64 1, .int .i64 1]) rfl (fun _ => by kernel_rfl)) ?_
 refine LW.rd hL rfl (Wants.free rfl) rfl (Rd.build (v := .agg #[.int .i64 10, .int .i64 5]) rfl (fun _ => by kernel_rfl)) ?_
 obtain ⟨b1, hb_b1⟩ : ∃ b1, b1 = World.size w1 := ⟨_, rfl⟩
 obtain ⟨w2, hw_w2⟩ : ∃ w2, w2 = World.alloc w1 (.cells #[.int .i64 0, .int .i64 0] 27) := ⟨_, rfl⟩
 refine LW.val hL rfl (Wants.free rfl) rfl (boxE hb_b1 hw_w2 (Vl.alloc (z := .agg #[.int .i64 0, .int .i64 0]) (by kernel_rfl))) ?_
 have hB := Boxes.alloc (cs := [.int .i64 0, .int .i64 0]) (T := 27) (Boxes.nil w1) hb_b1 hw_w2
 have hlo_b1 := sil_lo (Chg.refl [] w1) hb_b1
 have hc_w2 := sil_alloc (Chg.refl [] w1) hw_w2
 obtain ⟨b2, hb_b2⟩ : ∃ b2, b2 = World.size w2 := ⟨_, rfl⟩
 obtain ⟨w3, hw_w3⟩ : ∃ w3, w3 = World.alloc w2 (.cells #[.int .i64 0, .int .i64 0] 27) := ⟨_, rfl⟩
 refine LW.val hL rfl (Wants.free rfl) rfl (boxE hb_b2 hw_w3 (Vl.alloc (z := .agg #[.int .i64 0, .int .i64 0]) (by kernel_rfl))) ?_
 replace hB := Boxes.alloc (cs := [.int .i64 0, .int .i64 0]) (T := 27) hB hb_b2 hw_w3
 have hlo_b2 := sil_lo hc_w2 hb_b2
 have hc_w3 := sil_alloc hc_w2 hw_w3
 obtain ⟨b3, hb_b3⟩ : ∃ b3, b3 = World.size w3 := ⟨_, rfl⟩
 obtain ⟨w4, hw_w4⟩ : ∃ w4, w4 = World.alloc w3 (.cells #[.int .i64 0, .int .i64 0] 27) := ⟨_, rfl⟩
 refine LW.val hL rfl (Wants.free rfl) rfl (boxE hb_b3 hw_w4 (Vl.alloc (z := .agg #[.int .i64 0, .int .i64 0]) (by kernel_rfl))) ?_
 replace hB := Boxes.alloc (cs := [.int .i64 0, .int .i64 0]) (T := 27) hB hb_b3 hw_w4
 have hlo_b3 := sil_lo hc_w3 hb_b3
 have hc_w4 := sil_alloc hc_w3 hw_w4
 obtain ⟨w5, hw_w5⟩ : ∃ x, x = setCells w4 (⟨b1, 0, none⟩ : Addr) 0 [.int .i64 13, .int .i64 0] := ⟨_, rfl⟩
 refine LW.eff hL rfl (Wants.free rfl) rfl (stNE hw_w5 (Ef.stN (cs := [.int .i64 13, .int .i64 0]) rfl rfl (by kernel_rfl) (List.forall_mem_cons.2 ⟨rfl, (List.forall_mem_cons.2 ⟨rfl, (List.forall_mem_nil _)⟩)⟩) (has_of (hB.at (i := 2) rfl) (by simp)) (free_of' (hB.at (i := 2) rfl)))) ?_
 replace hB : Boxes w5 [(b3, [.int .i64 0, .int .i64 0], 27), (b2, [.int .i64 0, .int .i64 0], 27), (b1, [.int .i64 13, .int .i64 0], 27)] := Boxes.store (vs := [.int .i64 13, .int .i64 0]) (i := 2) (o := 0) hB rfl rfl rfl rfl hw_w5
 have hc_w5 := sil_new hc_w4 (sil_cN hw_w5) hlo_b1
 obtain ⟨w6, hw_w6⟩ : ∃ x, x = setCells w5 (⟨b2, 0, none⟩ : Addr) 0 [.int .i64 1, .int .i64 1] := ⟨_, rfl⟩
 refine LW.eff hL rfl (Wants.free rfl) rfl (stNE hw_w6 (Ef.stN (cs := [.int .i64 1, .int .i64 1]) rfl rfl (by kernel_rfl) (List.forall_mem_cons.2 ⟨rfl, (List.forall_mem_cons.2 ⟨rfl, (List.forall_mem_nil _)⟩)⟩) (has_of (hB.at (i := 1) rfl) (by simp)) (free_of' (hB.at (i := 1) rfl)))) ?_
 replace hB : Boxes w6 [(b3, [.int .i64 0, .int .i64 0], 27), (b2, [.int .i64 1, .int .i64 1], 27), (b1, [.int .i64 13, .int .i64 0], 27)] := Boxes.store (vs := [.int .i64 1, .int .i64 1]) (i := 1) (o := 0) hB rfl rfl rfl rfl hw_w6
 have hc_w6 := sil_new hc_w5 (sil_cN hw_w6) hlo_b2
 obtain ⟨w7, hw_w7⟩ : ∃ x, x = setCells w6 (⟨b3, 0, none⟩ : Addr) 0 [.int .i64 10, .int .i64 5] := ⟨_, rfl⟩
 refine LW.eff hL rfl (Wants.free rfl) rfl (stNE hw_w7 (Ef.stN (cs := [.int .i64 10, .int .i64 5]) rfl rfl (by kernel_rfl) (List.forall_mem_cons.2 ⟨rfl, (List.forall_mem_cons.2 ⟨rfl, (List.forall_mem_nil _)⟩)⟩) (has_of (hB.at (i := 0) rfl) (by simp)) (free_of' (hB.at (i := 0) rfl)))) ?_
 replace hB : Boxes w7 [(b3, [.int .i64 10, .int .i64 5], 27), (b2, [.int .i64 1, .int .i64 1], 27), (b1, [.int .i64 13, .int .i64 0], 27)] := Boxes.store (vs := [.int .i64 10, .int .i64 5]) (i := 0) (o := 0) hB rfl rfl rfl rfl hw_w7
 have hc_w7 := sil_new hc_w6 (sil_cN hw_w7) hlo_b3
 refine LW.nil hL rfl ?_
 refine NW.then ?_
 refine CW.seq ?_
 refine CW.region fun L hL => ?_
 refine LW.rd hL rfl (Wants.free rfl) rfl (Rd.move (v := .pointer r2) rfl) ?_
 refine LW.rd hL rfl (Wants.free rfl) rfl (Rd.ldN (cs := [.int .i64 1, .int .i64 1]) rfl (by kernel_rfl) (by kernel_rfl) (cellsS (box_cells (hB.at (i := 1) rfl) rfl))) ?_
 refine LW.rd hL rfl (Wants.free rfl) rfl (Rd.ldN (cs := [.int .i64 13, .int .i64 0]) rfl (by kernel_rfl) (by kernel_rfl) (cellsS (box_cells (hB.at (i := 2) rfl) rfl))) ?_
 replace h := h b3 b2 b1 w7 ⟨hlo_b3, lt_of_heap (hB.at (i := 0) rfl)⟩ ⟨hlo_b2, lt_of_heap (hB.at (i := 1) rfl)⟩ ⟨hlo_b1, lt_of_heap (hB.at (i := 2) rfl)⟩ hc_w7
 obtain ⟨b4, hb_b4⟩ : ∃ b4, b4 = World.size w7 := ⟨_, rfl⟩
 obtain ⟨w8, hw_w8⟩ : ∃ w8, w8 = World.alloc w7 (.cells #[.int .i64 13, .int .i64 0] 27) := ⟨_, rfl⟩
 replace h := h b4 hb_b4 w8 hw_w8
 refine LW.val hL rfl (Wants.free rfl) rfl (sliceE (n := 1) hb_b4 hw_w8 (fun w => Vl.buildSlice (vs := [(0, .agg #[.int .i64 13, .int .i64 0])]) rfl (by kernel_rfl))) ?_
 replace hB := hB.grow hw_w8
 refine LW.rd hL rfl (Wants.free rfl) rfl (Rd.build (v := .agg #[.int .i64 1, .int .i64 1, .slice (some (⟨b4, 0, none⟩ : Addr)) 1 1]) rfl (fun _ => by kernel_rfl)) ?_
 obtain ⟨b5, hb_b5⟩ : ∃ b5, b5 = World.size w8 := ⟨_, rfl⟩
 obtain ⟨w9, hw_w9⟩ : ∃ w9, w9 = World.alloc w8 (.cells #[.int .i64 1, .int .i64 1, .slice (some (⟨b4, 0, none⟩ : Addr)) 1 1] 33) := ⟨_, rfl⟩
 replace h := h b5 hb_b5 w9 hw_w9
 refine LW.val hL rfl (Wants.free rfl) rfl (sliceE (n := 1) hb_b5 hw_w9 (fun w => Vl.buildSlice (vs := [(0, .agg #[.int .i64 1, .int .i64 1, .slice (some (⟨b4, 0, none⟩ : Addr)) 1 1])]) rfl (by kernel_rfl))) ?_
 replace hB := hB.grow hw_w9
 refine LW.call hL rfl (Wants.free rfl) rfl (Cl.fn (f := 9) rfl Tryd.func9 (by kernel_rfl) rfl) h (fun e w10 h_ => ?_)
 clear h
 obtain ⟨r3, rfl, h⟩ := h_
 obtain ⟨hsm1, h⟩ := h
 replace hB := Boxes.sameS hB hsm1 (by simp)
 refine ⟨_, rfl, ?_⟩
 refine LW.rd hL rfl (Wants.free rfl) rfl (Rd.assign (v := .int .i64 r3) rfl) ?_
 refine LW.nil hL rfl ?_
 refine NW.then ?_
 refine CW.seq ?_
 refine CW.region fun L hL => ?_
 refine LW.rd hL rfl (Wants.free rfl) rfl (Rd.move (v := .pointer r2) rfl) ?_
 refine LW.rd hL rfl (Wants.free rfl) rfl (Rd.ldN (cs := [.int .i64 10, .int .i64 5]) rfl (by kernel_rfl) (by kernel_rfl) (cellsS (box_cells (hB.at (i := 0) rfl) rfl))) ?_
 refine LW.rd hL rfl (Wants.free rfl) rfl (Rd.ldN (cs := [.int .i64 1, .int .i64 1]) rfl (by kernel_rfl) (by kernel_rfl) (cellsS (box_cells (hB.at (i := 1) rfl) rfl))) ?_
 obtain ⟨b6, hb_b6⟩ : ∃ b6, b6 = World.size w10 := ⟨_, rfl⟩
 obtain ⟨w11, hw_w11⟩ : ∃ w11, w11 = World.alloc w10 (.cells #[.int .i64 1, .int .i64 1] 27) := ⟨_, rfl⟩
 replace h := h b6 hb_b6 w11 hw_w11
 refine LW.val hL rfl (Wants.free rfl) rfl (sliceE (n := 1) hb_b6 hw_w11 (fun w => Vl.buildSlice (vs := [(0, .agg #[.int .i64 1, .int .i64 1])]) rfl (by kernel_rfl))) ?_
 replace hB := hB.grow hw_w11
 refine LW.rd hL rfl (Wants.free rfl) rfl (Rd.build (v := .agg #[.int .i64 10, .int .i64 5, .slice (some (⟨b6, 0, none⟩ : Addr)) 1 1]) rfl (fun _ => by kernel_rfl)) ?_
 obtain ⟨b7, hb_b7⟩ : ∃ b7, b7 = World.size w11 := ⟨_, rfl⟩
 obtain ⟨w12, hw_w12⟩ : ∃ w12, w12 = World.alloc w11 (.cells #[.int .i64 10, .int .i64 5, .slice (some (⟨b6, 0, none⟩ : Addr)) 1 1] 33) := ⟨_, rfl⟩
 replace h := h b7 hb_b7 w12 hw_w12
 refine LW.val hL rfl (Wants.free rfl) rfl (sliceE (n := 1) hb_b7 hw_w12 (fun w => Vl.buildSlice (vs := [(0, .agg #[.int .i64 10, .int .i64 5, .slice (some (⟨b6, 0, none⟩ : Addr)) 1 1])]) rfl (by kernel_rfl))) ?_
 replace hB := hB.grow hw_w12
 refine LW.call hL rfl (Wants.free rfl) rfl (Cl.fn (f := 9) rfl Tryd.func9 (by kernel_rfl) rfl) h (fun e w13 h_ => ?_)
 clear h
 obtain ⟨r4, rfl, h⟩ := h_
 obtain ⟨hsm2, h⟩ := h
 replace hB := Boxes.sameS (hB.sel [0, 2] (by decide) rfl) hsm2 (by simp)
 refine ⟨_, rfl, ?_⟩
 refine LW.rd hL rfl (Wants.free rfl) rfl (Rd.assign (v := .int .i64 r4) rfl) ?_
 refine LW.nil hL rfl ?_
 refine NW.then ?_
 refine CW.seq ?_
 refine CW.region fun L hL => ?_
 refine LW.rd hL rfl (Wants.free rfl) rfl (Rd.move (v := .pointer r2) rfl) ?_
 refine LW.rd hL rfl (Wants.free rfl) rfl (Rd.ldN (cs := [.int .i64 10, .int .i64 5]) rfl (by kernel_rfl) (by kernel_rfl) (cellsS (box_cells (hB.at (i := 0) rfl) rfl))) ?_
 refine LW.call hL rfl (Wants.free rfl) rfl (Cl.fn (f := 10) rfl Tryd.func10 (by kernel_rfl) rfl) h (fun e w14 h_ => ?_)
 clear h
 obtain ⟨r5, r5n, r5c, rfl, h⟩ := h_
 obtain ⟨hsm3, h⟩ := h
 replace hB := Boxes.sameS hB hsm3 (by simp)
 refine ⟨_, rfl, ?_⟩
 refine LW.rd hL rfl (Wants.free rfl) rfl (Rd.assign (v := .slice r5 r5n r5c) rfl) ?_
 refine LW.nil hL rfl ?_
 refine NW.then ?_
 refine CW.seq ?_
 obtain ⟨w15, hw_w15⟩ : ∃ x, x = World.drew w14 := ⟨_, rfl⟩
 have hc_w15 := sil_drew (Chg.refl [] w14) hw_w15
 replace hB := hB.drew hw_w15
 refine CW.drawn (fun w => w = w15) 20 (by kernel_rfl) fun H hH => ?_
 rw [← hw_w15]
 refine HW.pure (i := 0) hH rfl (by kernel_rfl) (Wants.free rfl) rfl (fun _ => rfl) (Rd.move (v := .int .i64 r3) rfl) ?_
 refine HW.pure (i := 1) hH rfl (by kernel_rfl) (Wants.free rfl) rfl (fun _ => rfl) (Rd.bin (v := .bool (r3 == 0)) rfl rfl (fun w => by kernel_rfl)) ?_
 refine HW.pure (i := 2) hH rfl (by kernel_rfl) (Wants.free rfl) rfl (fun _ => rfl) (Rd.move (v := .bool (r3 == 0)) rfl) ?_
 suffices K1 : H 18 #[true, true, true, true, true, true, false, false, false, false, false, false, false, false, false, false, false, false, false, false, false, false, false, false] [(0, .bool false), (2, .pointer (some (⟨b1, 0, none⟩ : Addr))), (4, .pointer (some (⟨b3, 0, none⟩ : Addr))), (7, .slice r5 r5n r5c), (34, .bool (r3 == 0 && r4 == 0))] w15 by
  rcases Bool.eq_false_or_eq_true (r3 == 0) with hb2 | hb2
  ·skip
   refine HW.pure (i := 3) hH rfl (by kernel_rfl) (Wants.on rfl rfl rfl rfl rfl hb2) rfl (fun _ => rfl) (Rd.move (v := .int .i64 r4) rfl) ?_
   refine HW.pure (i := 4) hH rfl (by kernel_rfl) (Wants.on rfl rfl rfl rfl rfl hb2) rfl (fun _ => rfl) (Rd.bin (v := .bool (r4 == 0)) rfl rfl (fun w => by kernel_rfl)) ?_
   refine HW.pure (i := 5) hH rfl (by kernel_rfl) (Wants.free rfl) rfl (fun _ => rfl) (Rd.pickT rfl hb2 rfl) ?_
   exact HW.sub hH (by exact ⟨rfl, rfl, rfl, rfl, (by rw [hb2]; rfl), trivial⟩) K1
  ·skip
   refine HW.skip (i := 3) hH rfl (by kernel_rfl) (Skips.on rfl rfl rfl rfl rfl hb2) rfl (fun _ => rfl) ?_
   refine HW.skip (i := 4) hH rfl (by kernel_rfl) (Skips.on rfl rfl rfl rfl rfl hb2) rfl (fun _ => rfl) ?_
   refine HW.pure (i := 5) hH rfl (by kernel_rfl) (Wants.free rfl) rfl (fun _ => rfl) (Rd.pickF rfl hb2 rfl) ?_
   exact HW.sub hH (by exact ⟨rfl, rfl, rfl, rfl, (by rw [hb2]; rfl), trivial⟩) K1
 refine HW.pure (i := 6) hH rfl (by kernel_rfl) (Wants.free rfl) rfl (fun _ => rfl) (Rd.move (v := .bool (r3 == 0 && r4 == 0)) rfl) ?_
 suffices K2 : H 13 #[true, true, true, true, true, true, true, true, true, true, true, false, false, false, false, false, false, false, false, false, false, false, false, false] [(0, .bool false), (2, .pointer (some (⟨b1, 0, none⟩ : Addr))), (4, .pointer (some (⟨b3, 0, none⟩ : Addr))), (7, .slice r5 r5n r5c), (39, .bool ((r3 == 0 && r4 == 0) && (r5n : Int) == 1))] w15 by
  rcases Bool.eq_false_or_eq_true (r3 == 0 && r4 == 0) with hb4 | hb4
  ·skip
   refine HW.pure (i := 7) hH rfl (by kernel_rfl) (Wants.on rfl rfl rfl rfl rfl hb4) rfl (fun _ => rfl) (Rd.move (v := .slice r5 r5n r5c) rfl) ?_
   refine HW.pure (i := 8) hH rfl (by kernel_rfl) (Wants.on rfl rfl rfl rfl rfl hb4) rfl (fun _ => rfl) (Rd.builtin (v := .int .i64 (r5n : Int)) rfl (fun _ _ => by kernel_rfl)) ?_
   refine HW.pure (i := 9) hH rfl (by kernel_rfl) (Wants.on rfl rfl rfl rfl rfl hb4) rfl (fun _ => rfl) (Rd.bin (v := .bool ((r5n : Int) == 1)) rfl rfl (fun w => by kernel_rfl)) ?_
   refine HW.pure (i := 10) hH rfl (by kernel_rfl) (Wants.free rfl) rfl (fun _ => rfl) (Rd.pickT rfl hb4 rfl) ?_
   exact HW.sub hH (by exact ⟨rfl, rfl, rfl, rfl, (by rw [hb4]; rfl), trivial⟩) K2
  ·skip
   refine HW.skip (i := 7) hH rfl (by kernel_rfl) (Skips.on rfl rfl rfl rfl rfl hb4) rfl (fun _ => rfl) ?_
   refine HW.skip (i := 8) hH rfl (by kernel_rfl) (Skips.on rfl rfl rfl rfl rfl hb4) rfl (fun _ => rfl) ?_
   refine HW.skip (i := 9) hH rfl (by kernel_rfl) (Skips.on rfl rfl rfl rfl rfl hb4) rfl (fun _ => rfl) ?_
   refine HW.pure (i := 10) hH rfl (by kernel_rfl) (Wants.free rfl) rfl (fun _ => rfl) (Rd.pickF rfl hb4 rfl) ?_
   exact HW.sub hH (by exact ⟨rfl, rfl, rfl, rfl, (by rw [hb4]; rfl), trivial⟩) K2
 refine HW.pure (i := 11) hH rfl (by kernel_rfl) (Wants.free rfl) rfl (fun _ => rfl) (Rd.move (v := .bool ((r3 == 0 && r4 == 0) && (r5n : Int) == 1)) rfl) ?_
 replace h := h  w15  hc_w15
 obtain ⟨J1, hJ1, h1_J1, h0_J1⟩ := h
 suffices K3 : ∀ (b8 : Bool) (w16 : World), (w16 = w15) → Boxes w16 [(b3, [.int .i64 10, .int .i64 5], 27)] → J1 b8 w16 → H 6 #[true, true, true, true, true, true, true, true, true, true, true, true, true, true, true, true, true, true, false, false, false, false, false, false] [(0, .bool false), (4, .pointer (some (⟨b3, 0, none⟩ : Addr))), (46, .bool b8)] w16 by
  rcases Bool.eq_false_or_eq_true ((r3 == 0 && r4 == 0) && (r5n : Int) == 1) with hb5 | hb5
  ·have h := h1_J1 hb5
   refine HW.pure (i := 12) hH rfl (by kernel_rfl) (Wants.on rfl rfl rfl rfl rfl hb5) rfl (fun _ => rfl) (Rd.move (v := .slice r5 r5n r5c) rfl) ?_
   obtain ⟨a1, he1, hi1, hi2, h⟩ := h
   refine HW.pure (i := 13) hH rfl (by kernel_rfl) (Wants.on rfl rfl rfl rfl rfl hb5) rfl (fun _ => rfl) (Rd.iaS (q := a1) (sz := 2) (by rw [← he1]; rfl) rfl Tryd.underlying22 (by kernel_rfl) hi1 hi2) ?_
   obtain ⟨t1, t2, hc1, h⟩ := h
   refine HW.take (i := 14) hH rfl (by kernel_rfl) (by kernel_rfl) (Wants.on rfl rfl rfl rfl rfl hb5) rfl (fun _ => rfl) (Rd.ldN (cs := [.int .i64 t1, .int .i64 t2]) rfl (by kernel_rfl) (by kernel_rfl) (cellsS hc1)) ?_
   refine HW.take (i := 15) hH rfl (by kernel_rfl) (by kernel_rfl) (Wants.on rfl rfl rfl rfl rfl hb5) rfl (fun _ => rfl) (Rd.ldN (cs := [.int .i64 13, .int .i64 0]) rfl (by kernel_rfl) (by kernel_rfl) (cellsS (box_cells (hB.at (i := 1) rfl) rfl))) ?_
   refine HW.pure (i := 16) hH rfl (by kernel_rfl) (Wants.on rfl rfl rfl rfl rfl hb5) rfl (fun _ => rfl) (Rd.bin (v := .bool ((t1 == 13) && (t2 == 0))) rfl rfl (fun w => eqS_27 _ _ _ _ w)) ?_
   refine HW.pure (i := 17) hH rfl (by kernel_rfl) (Wants.free rfl) rfl (fun _ => rfl) (Rd.pickT rfl hb5 rfl) ?_
   exact HW.sub hH (by exact ⟨rfl, rfl, rfl, trivial⟩) (K3 ((t1 == 13) && (t2 == 0)) w15 rfl (by exact (hB.sel [0] (by decide) rfl)) h)
  ·have h := h0_J1 hb5
   refine HW.skip (i := 12) hH rfl (by kernel_rfl) (Skips.on rfl rfl rfl rfl rfl hb5) rfl (fun _ => rfl) ?_
   refine HW.skip (i := 13) hH rfl (by kernel_rfl) (Skips.on rfl rfl rfl rfl rfl hb5) rfl (fun _ => rfl) ?_
   refine HW.skip (i := 14) hH rfl (by kernel_rfl) (Skips.on rfl rfl rfl rfl rfl hb5) rfl (fun _ => rfl) ?_
   refine HW.skip (i := 15) hH rfl (by kernel_rfl) (Skips.on rfl rfl rfl rfl rfl hb5) rfl (fun _ => rfl) ?_
   refine HW.skip (i := 16) hH rfl (by kernel_rfl) (Skips.on rfl rfl rfl rfl rfl hb5) rfl (fun _ => rfl) ?_
   refine HW.pure (i := 17) hH rfl (by kernel_rfl) (Wants.free rfl) rfl (fun _ => rfl) (Rd.pickF rfl hb5 rfl) ?_
   exact HW.sub hH (by exact ⟨rfl, rfl, rfl, trivial⟩) (K3 false w15 rfl (by exact (hB.sel [0] (by decide) rfl)) h)
 clear hB
 intro b8 w16 hS1 hB h_
 subst hS1
 have h := hJ1 b8 _ h_; clear h_
 refine HW.pure (i := 18) hH rfl (by kernel_rfl) (Wants.free rfl) rfl (fun _ => rfl) (Rd.move (v := .bool b8) rfl) ?_
 obtain ⟨J2, hJ2, h1_J2, h0_J2⟩ := h
 suffices K4 : ∀ (b9 : Bool) (w17 : World), J2 b9 w17 → H 1 #[true, true, true, true, true, true, true, true, true, true, true, true, true, true, true, true, true, true, true, true, true, true, true, false] [(0, .bool false), (51, .bool b9)] w17 by
  rcases Bool.eq_false_or_eq_true b8 with hb6 | hb6
  ·have h := h1_J2 hb6
   refine HW.take (i := 19) hH rfl (by kernel_rfl) (by kernel_rfl) (Wants.on rfl rfl rfl rfl rfl hb6) rfl (fun _ => rfl) (Rd.ldN (cs := [.int .i64 10, .int .i64 5]) rfl (by kernel_rfl) (by kernel_rfl) (cellsS (box_cells (hB.at (i := 0) rfl) rfl))) ?_
   refine HW.call (i := 20) hH (by kernel_rfl) rfl (Wants.on rfl rfl rfl rfl rfl hb6) rfl (Cl.fn (f := 19) rfl Tryd.func19 (by kernel_rfl) rfl) h (fun e w18 h_ => ?_)
   clear h
   obtain ⟨r6, rfl, h⟩ := h_
   refine ⟨_, rfl, (fun hc => by cases hc), ?_⟩
   obtain ⟨t3, hx1, h⟩ := h
   refine HW.pure (i := 21) hH rfl (by kernel_rfl) (Wants.on rfl rfl rfl rfl rfl hb6) rfl (fun hc => by cases hc) (Rd.bin (v := .bool t3) rfl rfl hx1) ?_
   refine HW.pure (i := 22) hH rfl (by kernel_rfl) (Wants.free rfl) rfl (fun hc => by cases hc) (Rd.pickT rfl hb6 rfl) ?_
   exact HW.sub hH (by exact ⟨rfl, rfl, trivial⟩) (K4 t3 w18 h)
  ·have h := h0_J2 hb6
   refine HW.skip (i := 19) hH rfl (by kernel_rfl) (Skips.on rfl rfl rfl rfl rfl hb6) rfl (fun _ => rfl) ?_
   refine HW.skip1 (i := 20) hH (by kernel_rfl) rfl (Skips.on rfl rfl rfl rfl rfl hb6) rfl (fun hc => by cases hc) ?_
   refine HW.skip (i := 21) hH rfl (by kernel_rfl) (Skips.on rfl rfl rfl rfl rfl hb6) rfl (fun hc => by cases hc) ?_
   refine HW.pure (i := 22) hH rfl (by kernel_rfl) (Wants.free rfl) rfl (fun hc => by cases hc) (Rd.pickF rfl hb6 rfl) ?_
   exact HW.sub hH (by exact ⟨rfl, rfl, trivial⟩) (K4 false w16 h)
 intro b9 w17 h_
 have h := hJ2 b9 w17 h_; clear h_
 refine HW.pure (i := 23) hH rfl (by kernel_rfl) (Wants.free rfl) rfl (fun hc => by cases hc) (Rd.assign (v := .bool b9) rfl) ?_
 refine HW.done hH (by kernel_rfl) ?_
 refine NW.then ?_
 refine CW.ret ?_
 exact res1 rfl rfl ⟨b9, rfl, h⟩
/- pomander/pomanderlaw14.vast -/
def W_pomanderlaw14_vast (l1 : Option Addr) (l1n : Nat) (l1c : Nat) (w : World) (R : Bool → World → Prop) : Prop :=
 ((decide ((l1n : Int) > 30)) = true → R true w) ∧ ((decide ((l1n : Int) > 30)) = false → ∃ (I1 : Bool → Int → World → Prop) (m1 : Bool → Int → World → Nat), I1 false 0 w ∧ ∀ (x1 : Bool) (i1 : Int) (w1 : World), I1 x1 i1 w1 → ((decide (i1 < (l1n : Int))) = true → ∃ a1 : Addr, l1 = some a1 ∧ (0 : Int) ≤ i1 ∧ i1 < (l1n : Int) ∧ (∃ (t1 : Option Addr) (t1n : Nat) (t1c : Nat), w1.cell? ((a1.add (Int.toNat i1 * 2)).add 1) = some (.slice t1 t1n t1c) ∧ (((decide ((t1n : Int) > 10)) = true → R true w1) ∧ ((decide ((t1n : Int) > 10)) = false → ∃ (I2 : Bool → Int → World → Prop) (m2 : Bool → Int → World → Nat), I2 x1 0 w1 ∧ ∀ (x2 : Bool) (k1 : Int) (w2 : World), I2 x2 k1 w2 → ∃ (t2 : Option Addr) (t2n : Nat) (t2c : Nat), w2.cell? ((a1.add (Int.toNat i1 * 2)).add 1) = some (.slice t2 t2n t2c) ∧ (((decide (k1 < (t2n : Int))) = true → ∃ a2 : Addr, t2 = some a2 ∧ (0 : Int) ≤ k1 ∧ k1 < (t2n : Int) ∧ (∃ (t3 : Option Addr) (t3n : Nat) (t3c : Nat), w2.cell? ((a2.add (Int.toNat k1 * 3)).add 2) = some (.slice t3 t3n t3c) ∧ (((decide ((t3n : Int) > 6)) = true → R true w2) ∧ ((decide ((t3n : Int) > 6)) = false → (I2 x2 (IntKind.wrap .i64 (k1 + 1)) w2 ∧ m2 x2 (IntKind.wrap .i64 (k1 + 1)) w2 < m2 x2 k1 w2))))) ∧ ((decide (k1 < (t2n : Int))) = false → (I1 x2 (IntKind.wrap .i64 (i1 + 1)) w2 ∧ m1 x2 (IntKind.wrap .i64 (i1 + 1)) w2 < m1 x1 i1 w1))))))) ∧ ((decide (i1 < (l1n : Int))) = false → R false w1))
set_option maxRecDepth 100000 in
theorem go_pomanderlaw14_vast (l1 : Option Addr) (l1n : Nat) (l1c : Nat) (w : World) (R : Bool → World → Prop) (h : W_pomanderlaw14_vast l1 l1n l1c w R) : Calls Tryd.prog 11 #[.slice l1 l1n l1c] w (fun e w' => ∃ (r1 : Bool), e = .returned (.bool r1) ∧ R r1 w') := by
 unfold W_pomanderlaw14_vast at h
 refine enter (N := 42) Tryd.func11 rfl rfl ?_
 refine CW.seq ?_
 refine CW.region fun L hL => ?_
 refine LW.rd hL rfl (Wants.free rfl) rfl (Rd.assign (v := .bool false) rfl) ?_
 refine LW.nil hL rfl ?_
 refine NW.then ?_
 refine CW.seq ?_
 refine CW.seq ?_
 refine CW.region fun L hL => ?_
 refine LW.rd hL rfl (Wants.free rfl) rfl (Rd.move (v := .slice l1 l1n l1c) rfl) ?_
 refine LW.rd hL rfl (Wants.free rfl) rfl (Rd.builtin (v := .int .i64 (l1n : Int)) rfl (fun _ _ => by kernel_rfl)) ?_
 refine LW.rd hL rfl (Wants.free rfl) rfl (Rd.bin (v := .bool (decide ((l1n : Int) > 30))) rfl rfl (fun w => by kernel_rfl)) ?_
 refine LW.nil hL rfl ?_
 refine NW.then ?_
 refine CW.cond rfl (fun hb1 => ?_) (fun hb1 => ?_)
 ·replace h := h.1 hb1
  refine CW.seq ?_
  refine CW.region fun L hL => ?_
  refine LW.rd hL rfl (Wants.free rfl) rfl (Rd.assign (v := .bool true) rfl) ?_
  refine LW.nil hL rfl ?_
  refine NW.then ?_
  refine CW.ret ?_
  refine RW.then ?_
  exact res1 rfl rfl ⟨true, rfl, h⟩
 ·replace h := h.2 hb1
  refine CW.skip ?_
  refine NW.then ?_
  refine CW.seq ?_
  refine CW.seq ?_
  refine CW.region fun L hL => ?_
  refine LW.rd hL rfl (Wants.free rfl) rfl (Rd.assign (v := .int .i64 0) rfl) ?_
  refine LW.nil hL rfl ?_
  refine NW.then ?_
  refine CW.block ?_
  obtain ⟨I1, m1, hI1, h⟩ := h
  refine CW.loop (S := Bool × Int) (fun s1 => [(0, .slice l1 l1n l1c), (2, .bool s1.1), (3, .int .i64 s1.2)]) (fun s1 w1 => I1 s1.1 s1.2 w1) (fun s1 w1 => m1 s1.1 s1.2 w1) (false, 0) (by exact ⟨rfl, rfl, rfl, trivial⟩) hI1 (fun s1 w1 hI1 => ?_)
  obtain ⟨x1, i1⟩ := s1; replace h := h x1 i1 w1 hI1
  refine CW.seq ?_
  refine CW.seq ?_
  refine CW.region fun L hL => ?_
  refine LW.rd hL rfl (Wants.free rfl) rfl (Rd.move (v := .int .i64 i1) rfl) ?_
  refine LW.rd hL rfl (Wants.free rfl) rfl (Rd.move (v := .slice l1 l1n l1c) rfl) ?_
  refine LW.rd hL rfl (Wants.free rfl) rfl (Rd.builtin (v := .int .i64 (l1n : Int)) rfl (fun _ _ => by kernel_rfl)) ?_
  refine LW.rd hL rfl (Wants.free rfl) rfl (Rd.bin (v := .bool (decide (i1 < (l1n : Int)))) rfl rfl (fun w => by kernel_rfl)) ?_
  refine LW.nil hL rfl ?_
  refine NW.then ?_
  refine CW.cond rfl (fun hb2 => ?_) (fun hb2 => ?_)
  ·replace h := h.1 hb2
   refine CW.skip ?_
   refine NW.then ?_
   refine CW.seq ?_
   refine CW.block ?_
   refine CW.seq ?_
   refine CW.seq ?_
   refine CW.region fun L hL => ?_
   refine LW.rd hL rfl (Wants.free rfl) rfl (Rd.move (v := .slice l1 l1n l1c) rfl) ?_
   refine LW.rd hL rfl (Wants.free rfl) rfl (Rd.move (v := .int .i64 i1) rfl) ?_
   obtain ⟨a1, he1, hi1, hi2, h⟩ := h
   refine LW.rd hL rfl (Wants.free rfl) rfl (Rd.iaS (q := a1) (sz := 2) (by rw [← he1]; rfl) rfl Tryd.underlying36 (by kernel_rfl) hi1 hi2) ?_
   refine LW.rd hL rfl (Wants.free rfl) rfl (Rd.fa (v := .pointer (some ((a1.add (Int.toNat i1 * 2)).add 1))) rfl (fun _ => by kernel_rfl)) ?_
   obtain ⟨t1, t1n, t1c, hc1, h⟩ := h
   refine LW.rd hL rfl (Wants.free rfl) rfl (Rd.ld (v := .slice t1 t1n t1c) rfl (by kernel_rfl) (eqs hc1)) ?_
   refine LW.rd hL rfl (Wants.free rfl) rfl (Rd.builtin (v := .int .i64 (t1n : Int)) rfl (fun _ _ => by kernel_rfl)) ?_
   refine LW.rd hL rfl (Wants.free rfl) rfl (Rd.bin (v := .bool (decide ((t1n : Int) > 10))) rfl rfl (fun w => by kernel_rfl)) ?_
   refine LW.nil hL rfl ?_
   refine NW.then ?_
   refine CW.cond rfl (fun hb3 => ?_) (fun hb3 => ?_)
   ·replace h := h.1 hb3
    refine CW.seq ?_
    refine CW.region fun L hL => ?_
    refine LW.rd hL rfl (Wants.free rfl) rfl (Rd.assign (v := .bool true) rfl) ?_
    refine LW.nil hL rfl ?_
    refine NW.then ?_
    refine CW.ret ?_
    refine RW.then ?_
    refine RW.block ?_
    refine RW.then ?_
    refine RW.then ?_
    refine RW.block ?_
    refine RW.then ?_
    exact res1 rfl rfl ⟨true, rfl, h⟩
   ·replace h := h.2 hb3
    refine CW.skip ?_
    refine NW.then ?_
    refine CW.seq ?_
    refine CW.region fun L hL => ?_
    refine LW.rd hL rfl (Wants.free rfl) rfl (Rd.assign (v := .int .i64 0) rfl) ?_
    refine LW.nil hL rfl ?_
    refine NW.then ?_
    refine CW.block ?_
    obtain ⟨I2, m2, hI2, h⟩ := h
    refine CW.loop (S := Bool × Int) (fun s2 => [(0, .slice l1 l1n l1c), (3, .int .i64 i1), (2, .bool s2.1), (4, .int .i64 s2.2)]) (fun s2 w2 => I2 s2.1 s2.2 w2) (fun s2 w2 => m2 s2.1 s2.2 w2) (x1, 0) (by exact ⟨rfl, rfl, rfl, rfl, trivial⟩) hI2 (fun s2 w2 hI2 => ?_)
    obtain ⟨x2, k1⟩ := s2; replace h := h x2 k1 w2 hI2
    refine CW.seq ?_
    refine CW.seq ?_
    refine CW.region fun L hL => ?_
    refine LW.rd hL rfl (Wants.free rfl) rfl (Rd.move (v := .int .i64 k1) rfl) ?_
    refine LW.rd hL rfl (Wants.free rfl) rfl (Rd.move (v := .slice l1 l1n l1c) rfl) ?_
    refine LW.rd hL rfl (Wants.free rfl) rfl (Rd.move (v := .int .i64 i1) rfl) ?_
    refine LW.rd hL rfl (Wants.free rfl) rfl (Rd.iaS (q := a1) (sz := 2) (by rw [← he1]; rfl) rfl Tryd.underlying36 (by kernel_rfl) hi1 hi2) ?_
    refine LW.rd hL rfl (Wants.free rfl) rfl (Rd.fa (v := .pointer (some ((a1.add (Int.toNat i1 * 2)).add 1))) rfl (fun _ => by kernel_rfl)) ?_
    obtain ⟨t2, t2n, t2c, hc2, h⟩ := h
    refine LW.rd hL rfl (Wants.free rfl) rfl (Rd.ld (v := .slice t2 t2n t2c) rfl (by kernel_rfl) (eqs hc2)) ?_
    refine LW.rd hL rfl (Wants.free rfl) rfl (Rd.builtin (v := .int .i64 (t2n : Int)) rfl (fun _ _ => by kernel_rfl)) ?_
    refine LW.rd hL rfl (Wants.free rfl) rfl (Rd.bin (v := .bool (decide (k1 < (t2n : Int)))) rfl rfl (fun w => by kernel_rfl)) ?_
    refine LW.nil hL rfl ?_
    refine NW.then ?_
    refine CW.cond rfl (fun hb4 => ?_) (fun hb4 => ?_)
    ·replace h := h.1 hb4
     refine CW.skip ?_
     refine NW.then ?_
     refine CW.seq ?_
     refine CW.block ?_
     refine CW.seq ?_
     refine CW.region fun L hL => ?_
     refine LW.rd hL rfl (Wants.free rfl) rfl (Rd.move (v := .slice l1 l1n l1c) rfl) ?_
     refine LW.rd hL rfl (Wants.free rfl) rfl (Rd.move (v := .int .i64 i1) rfl) ?_
     refine LW.rd hL rfl (Wants.free rfl) rfl (Rd.iaS (q := a1) (sz := 2) (by rw [← he1]; rfl) rfl Tryd.underlying36 (by kernel_rfl) hi1 hi2) ?_
     refine LW.rd hL rfl (Wants.free rfl) rfl (Rd.fa (v := .pointer (some ((a1.add (Int.toNat i1 * 2)).add 1))) rfl (fun _ => by kernel_rfl)) ?_
     refine LW.rd hL rfl (Wants.free rfl) rfl (Rd.ld (v := .slice t2 t2n t2c) rfl (by kernel_rfl) (eqs hc2)) ?_
     refine LW.rd hL rfl (Wants.free rfl) rfl (Rd.move (v := .int .i64 k1) rfl) ?_
     obtain ⟨a2, he2, hi7, hi8, h⟩ := h
     refine LW.rd hL rfl (Wants.free rfl) rfl (Rd.iaS (q := a2) (sz := 3) (by rw [← he2]; rfl) rfl Tryd.underlying45 (by kernel_rfl) hi7 hi8) ?_
     refine LW.rd hL rfl (Wants.free rfl) rfl (Rd.fa (v := .pointer (some ((a2.add (Int.toNat k1 * 3)).add 2))) rfl (fun _ => by kernel_rfl)) ?_
     obtain ⟨t3, t3n, t3c, hc3, h⟩ := h
     refine LW.rd hL rfl (Wants.free rfl) rfl (Rd.ld (v := .slice t3 t3n t3c) rfl (by kernel_rfl) (eqs hc3)) ?_
     refine LW.rd hL rfl (Wants.free rfl) rfl (Rd.builtin (v := .int .i64 (t3n : Int)) rfl (fun _ _ => by kernel_rfl)) ?_
     refine LW.rd hL rfl (Wants.free rfl) rfl (Rd.bin (v := .bool (decide ((t3n : Int) > 6))) rfl rfl (fun w => by kernel_rfl)) ?_
     refine LW.nil hL rfl ?_
     refine NW.then ?_
     refine CW.cond rfl (fun hb5 => ?_) (fun hb5 => ?_)
     ·replace h := h.1 hb5
      refine CW.seq ?_
      refine CW.region fun L hL => ?_
      refine LW.rd hL rfl (Wants.free rfl) rfl (Rd.assign (v := .bool true) rfl) ?_
      refine LW.nil hL rfl ?_
      refine NW.then ?_
      refine CW.ret ?_
      refine RW.block ?_
      refine RW.then ?_
      refine RW.then ?_
      refine RW.block ?_
      refine RW.block ?_
      refine RW.then ?_
      refine RW.then ?_
      refine RW.block ?_
      refine RW.then ?_
      exact res1 rfl rfl ⟨true, rfl, h⟩
     ·replace h := h.2 hb5
      refine CW.skip ?_
      refine NW.block ?_
      refine NW.then ?_
      refine CW.region fun L hL => ?_
      refine LW.rd hL rfl (Wants.free rfl) rfl (Rd.move (v := .int .i64 k1) rfl) ?_
      refine LW.rd hL rfl (Wants.free rfl) rfl (Rd.bin (v := .int .i64 (IntKind.wrap .i64 (k1 + 1))) rfl rfl (fun w => by kernel_rfl)) ?_
      refine LW.rd hL rfl (Wants.free rfl) rfl (Rd.assign (v := .int .i64 (IntKind.wrap .i64 (k1 + 1))) rfl) ?_
      refine LW.nil hL rfl ?_
      exact NW.loop (S := Bool × Int) (Ek := fun s2 => [(0, .slice l1 l1n l1c), (3, .int .i64 i1), (2, .bool s2.1), (4, .int .i64 s2.2)]) (x2, IntKind.wrap .i64 (k1 + 1)) (by exact ⟨rfl, rfl, rfl, rfl, trivial⟩) h
    ·replace h := h.2 hb4
     refine CW.exit ?_
     refine XW.then ?_
     refine XW.then ?_
     refine XW.hit ?_
     refine NW.block ?_
     refine NW.then ?_
     refine CW.region fun L hL => ?_
     refine LW.rd hL rfl (Wants.free rfl) rfl (Rd.move (v := .int .i64 i1) rfl) ?_
     refine LW.rd hL rfl (Wants.free rfl) rfl (Rd.bin (v := .int .i64 (IntKind.wrap .i64 (i1 + 1))) rfl rfl (fun w => by kernel_rfl)) ?_
     refine LW.rd hL rfl (Wants.free rfl) rfl (Rd.assign (v := .int .i64 (IntKind.wrap .i64 (i1 + 1))) rfl) ?_
     refine LW.nil hL rfl ?_
     exact NW.loop (S := Bool × Int) (Ek := fun s1 => [(0, .slice l1 l1n l1c), (2, .bool s1.1), (3, .int .i64 s1.2)]) (x2, IntKind.wrap .i64 (i1 + 1)) (by exact ⟨rfl, rfl, rfl, trivial⟩) h
  ·replace h := h.2 hb2
   refine CW.exit ?_
   refine XW.then ?_
   refine XW.then ?_
   refine XW.hit ?_
   refine NW.then ?_
   refine CW.seq ?_
   refine CW.region fun L hL => ?_
   refine LW.rd hL rfl (Wants.free rfl) rfl (Rd.assign (v := .bool false) rfl) ?_
   refine LW.nil hL rfl ?_
   refine NW.then ?_
   refine CW.ret ?_
   exact res1 rfl rfl ⟨false, rfl, h⟩
/- pomander/pomanderlaw14.made -/
def W_pomanderlaw14_made (l1 : Option Addr) (l1n : Nat) (l1c : Nat) (w : World) (R : (Option Addr) → (Option Addr) → Nat → Nat → Bool → World → Prop) : Prop :=
 Calls Tryd.prog 8 #[] w fun e w1 => ∃ (r4 : Option Addr), e = .returned (.pointer r4) ∧ (∃ (I1 : (Option Addr) → (Option Addr) → Nat → Nat → Bool → (Option Addr) → Nat → Nat → Int → Int → World → Prop) (m1 : (Option Addr) → (Option Addr) → Nat → Nat → Bool → (Option Addr) → Nat → Nat → Int → Int → World → Nat), I1 none none 0 0 false none 0 0 0 0 w1 ∧ ∀ (x1 : Option Addr) (x2 : Option Addr) (x2n : Nat) (x2c : Nat) (x3 : Bool) (notes1 : Option Addr) (notes1n : Nat) (notes1c : Nat) (last1 : Int) (i1 : Int) (w2 : World), I1 x1 x2 x2n x2c x3 notes1 notes1n notes1c last1 i1 w2 → ((decide (i1 < (l1n : Int))) = true → ∃ J1 : (Option Addr) → (Option Addr) → Nat → Nat → Bool → (Option Addr) → Nat → Nat → Int → World → Prop, (∀ (x4 : Option Addr) (x5 : Option Addr) (x5n : Nat) (x5c : Nat) (x6 : Bool) (notes2 : Option Addr) (notes2n : Nat) (notes2c : Nat) (last2 : Int) (w3 : World), J1 x4 x5 x5n x5c x6 notes2 notes2n notes2c last2 w3 → (I1 x4 x5 x5n x5c x6 notes2 notes2n notes2c last2 (IntKind.wrap .i64 (i1 + 1)) w3 ∧ m1 x4 x5 x5n x5c x6 notes2 notes2n notes2c last2 (IntKind.wrap .i64 (i1 + 1)) w3 < m1 x1 x2 x2n x2c x3 notes1 notes1n notes1c last1 i1 w2)) ∧ (∃ J2 : Int → World → Prop, (∀ (want1 : Int) (w4 : World), J2 want1 w4 → ∃ a1 : Addr, l1 = some a1 ∧ (0 : Int) ≤ i1 ∧ i1 < (l1n : Int) ∧ (∀ (w5 : World), Chg [] w4 w5 → (∃ (t1 : Int), w5.cell? (a1.add (Int.toNat i1 * 2)) = some (.int .i64 t1) ∧ (∃ (t2 : Option Addr) (t2n : Nat) (t2c : Nat), w5.cell? ((a1.add (Int.toNat i1 * 2)).add 1) = some (.slice t2 t2n t2c) ∧ (Calls Tryd.prog 9 #[.pointer r4, .int .i64 t1, .slice t2 t2n t2c] w5 fun e w6 => ∃ (r5 : Int), e = .returned (.int .i64 r5) ∧ (((!(r5 == want1)) = true → R r4 notes1 notes1n notes1c false w6) ∧ ((!(r5 == want1)) = false → ((!(want1 == 0)) = true → J1 x1 x2 x2n x2c x3 notes1 notes1n notes1c last1 w6) ∧ ((!(want1 == 0)) = false → ∃ (I2 : (Option Addr) → Nat → Nat → Int → Int → World → Prop) (m2 : (Option Addr) → Nat → Nat → Int → Int → World → Nat), I2 notes1 notes1n notes1c last1 0 w6 ∧ ∀ (notes3 : Option Addr) (notes3n : Nat) (notes3c : Nat) (last3 : Int) (k1 : Int) (w7 : World), I2 notes3 notes3n notes3c last3 k1 w7 → ∃ (t3 : Option Addr) (t3n : Nat) (t3c : Nat), w7.cell? ((a1.add (Int.toNat i1 * 2)).add 1) = some (.slice t3 t3n t3c) ∧ (((decide (k1 < (t3n : Int))) = true → ∃ J3 : (Option Addr) → Nat → Nat → Int → World → Prop, (∀ (notes4 : Option Addr) (notes4n : Nat) (notes4c : Nat) (last4 : Int) (w8 : World), J3 notes4 notes4n notes4c last4 w8 → (I2 notes4 notes4n notes4c last4 (IntKind.wrap .i64 (k1 + 1)) w8 ∧ m2 notes4 notes4n notes4c last4 (IntKind.wrap .i64 (k1 + 1)) w8 < m2 notes3 notes3n notes3c last3 k1 w7)) ∧ (∃ a2 : Addr, t3 = some a2 ∧ (0 : Int) ≤ k1 ∧ k1 < (t3n : Int) ∧ (∃ (t4 : Int) (t5 : Int) (t6 : Option Addr) (t6n : Nat) (t6c : Nat), CellsAt w7 (a2.add (Int.toNat k1 * 3)) 0 [.int .i64 t4, .int .i64 t5, .slice t6 t6n t6c] ∧ (∀ (b1 : Nat) (w10 : World), (w7.heap.size ≤ b1 ∧ b1 < w10.heap.size) → Chg [] w7 w10 → (((!((t4 == 0) && (t5 == 0))) = true → ∀ (w11 : World), Chg [] w10 w11 → (∃ (t7 : Int), w11.cell? (a1.add (Int.toNat i1 * 2)) = some (.int .i64 t7) ∧ (∀ b2 : Nat, b2 = World.size w11 → ∀ w12 : World, w12 = World.alloc w11 (.cells #[.int .i64 t7, .int .i64 t4, .int .i64 t5, .slice t6 t6n t6c] 50) → (∃ (l2 : Option Addr) (l2n : Nat) (l2c : Nat) (w13 : World), (Builtin.append_ #[39, 39] 39 #[.slice notes3 notes3n notes3c, .slice (some (⟨b2, 0, none⟩ : Addr)) 1 1]).run Tryd.prog w12 = .ok (.slice l2 l2n l2c) w13 ∧ (∃ (t8 : Int), w13.cell? (a1.add (Int.toNat i1 * 2)) = some (.int .i64 t8) ∧ (J3 l2 l2n l2c t8 w13)))))) ∧ ((!((t4 == 0) && (t5 == 0))) = false → J3 notes3 notes3n notes3c last3 w10)))))) ∧ ((decide (k1 < (t3n : Int))) = false → J1 x1 x2 x2n x2c x3 notes3 notes3n notes3c last3 w7)))))))))) ∧ (∃ a3 : Addr, l1 = some a3 ∧ (0 : Int) ≤ i1 ∧ i1 < (l1n : Int) ∧ (∃ (t9 : Int), w2.cell? (a3.add (Int.toNat i1 * 2)) = some (.int .i64 t9) ∧ (∃ J4 : Bool → World → Prop, (∀ (b3 : Bool) (w14 : World), J4 b3 w14 → (b3 = true → J2 2 w14) ∧ (b3 = false → J2 0 w14)) ∧ (((decide (t9 < 0)) = false → J4 (decide (t9 < last1)) w2) ∧ ((decide (t9 < 0)) = true → J4 true w2))))))) ∧ ((decide (i1 < (l1n : Int))) = false → Calls Tryd.prog 27 #[.pointer r4] w2 fun e w15 => ∃ (r6 : Int), e = .returned (.int .i64 r6) ∧ (R r4 notes1 notes1n notes1c (r6 == (notes1n : Int)) w15)))
set_option maxRecDepth 100000 in
theorem go_pomanderlaw14_made (l1 : Option Addr) (l1n : Nat) (l1c : Nat) (w : World) (R : (Option Addr) → (Option Addr) → Nat → Nat → Bool → World → Prop) (h : W_pomanderlaw14_made l1 l1n l1c w R) : Calls Tryd.prog 12 #[.slice l1 l1n l1c] w (fun e w' => ∃ (r1 : Option Addr) (r2 : Option Addr) (r2n : Nat) (r2c : Nat) (r3 : Bool), e = .returned (.tuple #[.pointer r1, .slice r2 r2n r2c, .bool r3]) ∧ R r1 r2 r2n r2c r3 w') := by
 unfold W_pomanderlaw14_made at h
 refine enter (N := 99) Tryd.func12 rfl rfl ?_
 refine CW.seq ?_
 refine CW.region fun L hL => ?_
 refine LW.rd hL rfl (Wants.free rfl) rfl (Rd.assign (v := .pointer none) rfl) ?_
 refine LW.rd hL rfl (Wants.free rfl) rfl (Rd.assign (v := .slice none 0 0) rfl) ?_
 refine LW.rd hL rfl (Wants.free rfl) rfl (Rd.assign (v := .bool false) rfl) ?_
 refine LW.nil hL rfl ?_
 refine NW.then ?_
 refine CW.seq ?_
 refine CW.region fun L hL => ?_
 refine LW.call hL rfl (Wants.free rfl) rfl (Cl.fn (f := 8) rfl Tryd.func8 (by kernel_rfl) rfl) h (fun e w1 h_ => ?_)
 clear h
 obtain ⟨r4, rfl, h⟩ := h_
 refine ⟨_, rfl, ?_⟩
 refine LW.rd hL rfl (Wants.free rfl) rfl (Rd.assign (v := .pointer r4) rfl) ?_
 refine LW.nil hL rfl ?_
 refine NW.then ?_
 refine CW.seq ?_
 refine CW.region fun L hL => ?_
 refine LW.rd hL rfl (Wants.free rfl) rfl (Rd.assign (v := .slice none 0 0) rfl) ?_
 refine LW.nil hL rfl ?_
 refine NW.then ?_
 refine CW.seq ?_
 refine CW.region fun L hL => ?_
 refine LW.rd hL rfl (Wants.free rfl) rfl (Rd.assign (v := .int .i64 0) rfl) ?_
 refine LW.nil hL rfl ?_
 refine NW.then ?_
 refine CW.seq ?_
 refine CW.seq ?_
 refine CW.region fun L hL => ?_
 refine LW.rd hL rfl (Wants.free rfl) rfl (Rd.assign (v := .int .i64 0) rfl) ?_
 refine LW.nil hL rfl ?_
 refine NW.then ?_
 refine CW.block ?_
 obtain ⟨I1, m1, hI1, h⟩ := h
 refine CW.loop (S := (Option Addr) × (Option Addr) × Nat × Nat × Bool × (Option Addr) × Nat × Nat × Int × Int) (fun s1 => [(0, .slice l1 l1n l1c), (5, .pointer r4), (2, .pointer s1.1), (3, .slice s1.2.1 s1.2.2.1 s1.2.2.2.1), (4, .bool s1.2.2.2.2.1), (6, .slice s1.2.2.2.2.2.1 s1.2.2.2.2.2.2.1 s1.2.2.2.2.2.2.2.1), (7, .int .i64 s1.2.2.2.2.2.2.2.2.1), (8, .int .i64 s1.2.2.2.2.2.2.2.2.2)]) (fun s1 w2 => I1 s1.1 s1.2.1 s1.2.2.1 s1.2.2.2.1 s1.2.2.2.2.1 s1.2.2.2.2.2.1 s1.2.2.2.2.2.2.1 s1.2.2.2.2.2.2.2.1 s1.2.2.2.2.2.2.2.2.1 s1.2.2.2.2.2.2.2.2.2 w2) (fun s1 w2 => m1 s1.1 s1.2.1 s1.2.2.1 s1.2.2.2.1 s1.2.2.2.2.1 s1.2.2.2.2.2.1 s1.2.2.2.2.2.2.1 s1.2.2.2.2.2.2.2.1 s1.2.2.2.2.2.2.2.2.1 s1.2.2.2.2.2.2.2.2.2 w2) (none, none, 0, 0, false, none, 0, 0, 0, 0) (by exact ⟨rfl, rfl, rfl, rfl, rfl, rfl, rfl, rfl, trivial⟩) hI1 (fun s1 w2 hI1 => ?_)
 obtain ⟨x1, x2, x2n, x2c, x3, notes1, notes1n, notes1c, last1, i1⟩ := s1; replace h := h x1 x2 x2n x2c x3 notes1 notes1n notes1c last1 i1 w2 hI1
 refine CW.seq ?_
 refine CW.seq ?_
 refine CW.region fun L hL => ?_
 refine LW.rd hL rfl (Wants.free rfl) rfl (Rd.move (v := .int .i64 i1) rfl) ?_
 refine LW.rd hL rfl (Wants.free rfl) rfl (Rd.move (v := .slice l1 l1n l1c) rfl) ?_
 refine LW.rd hL rfl (Wants.free rfl) rfl (Rd.builtin (v := .int .i64 (l1n : Int)) rfl (fun _ _ => by kernel_rfl)) ?_
 refine LW.rd hL rfl (Wants.free rfl) rfl (Rd.bin (v := .bool (decide (i1 < (l1n : Int)))) rfl rfl (fun w => by kernel_rfl)) ?_
 refine LW.nil hL rfl ?_
 refine NW.then ?_
 refine CW.cond rfl (fun hb1 => ?_) (fun hb1 => ?_)
 ·replace h := h.1 hb1
  refine CW.skip ?_
  refine NW.then ?_
  obtain ⟨J1, hJ1, h⟩ := h
  refine CW.cut (S := (Option Addr) × (Option Addr) × Nat × Nat × Bool × (Option Addr) × Nat × Nat × Int) (fun s2 => [(0, .slice l1 l1n l1c), (5, .pointer r4), (8, .int .i64 i1), (2, .pointer s2.1), (3, .slice s2.2.1 s2.2.2.1 s2.2.2.2.1), (4, .bool s2.2.2.2.2.1), (6, .slice s2.2.2.2.2.2.1 s2.2.2.2.2.2.2.1 s2.2.2.2.2.2.2.2.1), (7, .int .i64 s2.2.2.2.2.2.2.2.2)]) (fun s2 w3 => J1 s2.1 s2.2.1 s2.2.2.1 s2.2.2.2.1 s2.2.2.2.2.1 s2.2.2.2.2.2.1 s2.2.2.2.2.2.2.1 s2.2.2.2.2.2.2.2.1 s2.2.2.2.2.2.2.2.2 w3) (fun s2 w3 h_ => ?_) ?_
  ·obtain ⟨x4, x5, x5n, x5c, x6, notes2, notes2n, notes2c, last2⟩ := s2; replace h := hJ1 x4 x5 x5n x5c x6 notes2 notes2n notes2c last2 w3 h_; clear h_
   refine CW.region fun L hL => ?_
   refine LW.rd hL rfl (Wants.free rfl) rfl (Rd.move (v := .int .i64 i1) rfl) ?_
   refine LW.rd hL rfl (Wants.free rfl) rfl (Rd.bin (v := .int .i64 (IntKind.wrap .i64 (i1 + 1))) rfl rfl (fun w => by kernel_rfl)) ?_
   refine LW.rd hL rfl (Wants.free rfl) rfl (Rd.assign (v := .int .i64 (IntKind.wrap .i64 (i1 + 1))) rfl) ?_
   refine LW.nil hL rfl ?_
   exact NW.loop (S := (Option Addr) × (Option Addr) × Nat × Nat × Bool × (Option Addr) × Nat × Nat × Int × Int) (Ek := fun s1 => [(0, .slice l1 l1n l1c), (5, .pointer r4), (2, .pointer s1.1), (3, .slice s1.2.1 s1.2.2.1 s1.2.2.2.1), (4, .bool s1.2.2.2.2.1), (6, .slice s1.2.2.2.2.2.1 s1.2.2.2.2.2.2.1 s1.2.2.2.2.2.2.2.1), (7, .int .i64 s1.2.2.2.2.2.2.2.2.1), (8, .int .i64 s1.2.2.2.2.2.2.2.2.2)]) (x4, x5, x5n, x5c, x6, notes2, notes2n, notes2c, last2, IntKind.wrap .i64 (i1 + 1)) (by exact ⟨rfl, rfl, rfl, rfl, rfl, rfl, rfl, rfl, trivial⟩) h
  ·skip
   refine CW.block ?_
   refine CW.seq ?_
   refine CW.region fun L hL => ?_
   refine LW.rd hL rfl (Wants.free rfl) rfl (Rd.assign (v := .int .i64 0) rfl) ?_
   refine LW.nil hL rfl ?_
   refine NW.then ?_
   obtain ⟨J2, hJ2, h⟩ := h
   refine CW.cut (S := Int) (fun want1 => [(0, .slice l1 l1n l1c), (2, .pointer x1), (3, .slice x2 x2n x2c), (4, .bool x3), (5, .pointer r4), (6, .slice notes1 notes1n notes1c), (7, .int .i64 last1), (8, .int .i64 i1), (9, .int .i64 want1)]) (fun want1 w4 => J2 want1 w4) (fun want1 w4 h_ => ?_) ?_
   ·replace h := hJ2 want1 w4 h_; clear h_
    refine CW.seq ?_
    refine CW.seq ?_
    obtain ⟨w5, hw_w5⟩ : ∃ x, x = World.drew w4 := ⟨_, rfl⟩
    have hc_w5 := sil_drew (Chg.refl [] w4) hw_w5
    refine CW.drawn (fun w => w = w5) 11 (by kernel_rfl) fun H hH => ?_
    rw [← hw_w5]
    refine HW.pure (i := 0) hH rfl (by kernel_rfl) (Wants.free rfl) rfl (fun _ => rfl) (Rd.move (v := .pointer r4) rfl) ?_
    refine HW.pure (i := 1) hH rfl (by kernel_rfl) (Wants.free rfl) rfl (fun _ => rfl) (Rd.move (v := .slice l1 l1n l1c) rfl) ?_
    refine HW.pure (i := 2) hH rfl (by kernel_rfl) (Wants.free rfl) rfl (fun _ => rfl) (Rd.move (v := .int .i64 i1) rfl) ?_
    obtain ⟨a1, he1, hi1, hi2, h⟩ := h
    refine HW.pure (i := 3) hH rfl (by kernel_rfl) (Wants.free rfl) rfl (fun _ => rfl) (Rd.iaS (q := a1) (sz := 2) (by rw [← he1]; rfl) rfl Tryd.underlying36 (by kernel_rfl) hi1 hi2) ?_
    refine HW.pure (i := 4) hH rfl (by kernel_rfl) (Wants.free rfl) rfl (fun _ => rfl) (Rd.fa (v := .pointer (some (a1.add (Int.toNat i1 * 2)))) rfl (fun _ => by kernel_rfl)) ?_
    replace h := h  w5  hc_w5
    obtain ⟨t1, hc1, h⟩ := h
    refine HW.take (i := 5) hH rfl (by kernel_rfl) (by kernel_rfl) (Wants.free rfl) rfl (fun _ => rfl) (Rd.ld (v := .int .i64 t1) rfl (by kernel_rfl) (eqs hc1)) ?_
    refine HW.pure (i := 6) hH rfl (by kernel_rfl) (Wants.free rfl) rfl (fun _ => rfl) (Rd.move (v := .slice l1 l1n l1c) rfl) ?_
    refine HW.pure (i := 7) hH rfl (by kernel_rfl) (Wants.free rfl) rfl (fun _ => rfl) (Rd.move (v := .int .i64 i1) rfl) ?_
    refine HW.pure (i := 8) hH rfl (by kernel_rfl) (Wants.free rfl) rfl (fun _ => rfl) (Rd.iaS (q := a1) (sz := 2) (by rw [← he1]; rfl) rfl Tryd.underlying36 (by kernel_rfl) hi1 hi2) ?_
    refine HW.pure (i := 9) hH rfl (by kernel_rfl) (Wants.free rfl) rfl (fun _ => rfl) (Rd.fa (v := .pointer (some ((a1.add (Int.toNat i1 * 2)).add 1))) rfl (fun _ => by kernel_rfl)) ?_
    obtain ⟨t2, t2n, t2c, hc2, h⟩ := h
    refine HW.take (i := 10) hH rfl (by kernel_rfl) (by kernel_rfl) (Wants.free rfl) rfl (fun _ => rfl) (Rd.ld (v := .slice t2 t2n t2c) rfl (by kernel_rfl) (eqs hc2)) ?_
    refine HW.pure (i := 12) hH rfl (by kernel_rfl) (Wants.free rfl) rfl (fun _ => rfl) (Rd.move (v := .int .i64 want1) rfl) ?_
    refine HW.call (i := 11) hH (by kernel_rfl) rfl (Wants.free rfl) rfl (Cl.fn (f := 9) rfl Tryd.func9 (by kernel_rfl) rfl) h (fun e w6 h_ => ?_)
    clear h
    obtain ⟨r5, rfl, h⟩ := h_
    refine ⟨_, rfl, (fun hc => by cases hc), ?_⟩
    refine HW.pure (i := 13) hH rfl (by kernel_rfl) (Wants.free rfl) rfl (fun hc => by cases hc) (Rd.bin (v := .bool (!(r5 == want1))) rfl rfl (fun w => by kernel_rfl)) ?_
    refine HW.done hH (by kernel_rfl) ?_
    refine NW.then ?_
    refine CW.cond rfl (fun hb2 => ?_) (fun hb2 => ?_)
    ·replace h := h.1 hb2
     refine CW.seq ?_
     refine CW.region fun L hL => ?_
     refine LW.rd hL rfl (Wants.free rfl) rfl (Rd.move (v := .pointer r4) rfl) ?_
     refine LW.rd hL rfl (Wants.free rfl) rfl (Rd.move (v := .slice notes1 notes1n notes1c) rfl) ?_
     refine LW.rd hL rfl (Wants.free rfl) rfl (Rd.assign (v := .pointer r4) rfl) ?_
     refine LW.rd hL rfl (Wants.free rfl) rfl (Rd.assign (v := .slice notes1 notes1n notes1c) rfl) ?_
     refine LW.rd hL rfl (Wants.free rfl) rfl (Rd.assign (v := .bool false) rfl) ?_
     refine LW.nil hL rfl ?_
     refine NW.then ?_
     refine CW.ret ?_
     refine RW.then ?_
     refine RW.block ?_
     refine RW.then ?_
     refine RW.then ?_
     refine RW.block ?_
     refine RW.then ?_
     exact res3 rfl rfl rfl rfl ⟨r4, notes1, notes1n, notes1c, false, rfl, h⟩
    ·replace h := h.2 hb2
     refine CW.skip ?_
     refine NW.then ?_
     refine CW.seq ?_
     refine CW.seq ?_
     refine CW.region fun L hL => ?_
     refine LW.rd hL rfl (Wants.free rfl) rfl (Rd.move (v := .int .i64 want1) rfl) ?_
     refine LW.rd hL rfl (Wants.free rfl) rfl (Rd.bin (v := .bool (!(want1 == 0))) rfl rfl (fun w => by kernel_rfl)) ?_
     refine LW.nil hL rfl ?_
     refine NW.then ?_
     refine CW.cond rfl (fun hb3 => ?_) (fun hb3 => ?_)
     ·replace h := h.1 hb3
      refine CW.exit ?_
      refine XW.then ?_
      refine XW.hit ?_
      exact NW.cut (S := (Option Addr) × (Option Addr) × Nat × Nat × Bool × (Option Addr) × Nat × Nat × Int) (Ek := fun s2 => [(0, .slice l1 l1n l1c), (5, .pointer r4), (8, .int .i64 i1), (2, .pointer s2.1), (3, .slice s2.2.1 s2.2.2.1 s2.2.2.2.1), (4, .bool s2.2.2.2.2.1), (6, .slice s2.2.2.2.2.2.1 s2.2.2.2.2.2.2.1 s2.2.2.2.2.2.2.2.1), (7, .int .i64 s2.2.2.2.2.2.2.2.2)]) (x1, x2, x2n, x2c, x3, notes1, notes1n, notes1c, last1) (by exact ⟨rfl, rfl, rfl, rfl, rfl, rfl, rfl, rfl, trivial⟩) h
     ·replace h := h.2 hb3
      refine CW.skip ?_
      refine NW.then ?_
      refine CW.seq ?_
      refine CW.region fun L hL => ?_
      refine LW.rd hL rfl (Wants.free rfl) rfl (Rd.assign (v := .int .i64 0) rfl) ?_
      refine LW.nil hL rfl ?_
      refine NW.then ?_
      refine CW.block ?_
      obtain ⟨I2, m2, hI2, h⟩ := h
      refine CW.loop (S := (Option Addr) × Nat × Nat × Int × Int) (fun s3 => [(0, .slice l1 l1n l1c), (2, .pointer x1), (3, .slice x2 x2n x2c), (4, .bool x3), (5, .pointer r4), (8, .int .i64 i1), (6, .slice s3.1 s3.2.1 s3.2.2.1), (7, .int .i64 s3.2.2.2.1), (10, .int .i64 s3.2.2.2.2)]) (fun s3 w7 => I2 s3.1 s3.2.1 s3.2.2.1 s3.2.2.2.1 s3.2.2.2.2 w7) (fun s3 w7 => m2 s3.1 s3.2.1 s3.2.2.1 s3.2.2.2.1 s3.2.2.2.2 w7) (notes1, notes1n, notes1c, last1, 0) (by exact ⟨rfl, rfl, rfl, rfl, rfl, rfl, rfl, rfl, rfl, trivial⟩) hI2 (fun s3 w7 hI2 => ?_)
      obtain ⟨notes3, notes3n, notes3c, last3, k1⟩ := s3; replace h := h notes3 notes3n notes3c last3 k1 w7 hI2
      refine CW.seq ?_
      refine CW.seq ?_
      refine CW.region fun L hL => ?_
      refine LW.rd hL rfl (Wants.free rfl) rfl (Rd.move (v := .int .i64 k1) rfl) ?_
      refine LW.rd hL rfl (Wants.free rfl) rfl (Rd.move (v := .slice l1 l1n l1c) rfl) ?_
      refine LW.rd hL rfl (Wants.free rfl) rfl (Rd.move (v := .int .i64 i1) rfl) ?_
      refine LW.rd hL rfl (Wants.free rfl) rfl (Rd.iaS (q := a1) (sz := 2) (by rw [← he1]; rfl) rfl Tryd.underlying36 (by kernel_rfl) hi1 hi2) ?_
      refine LW.rd hL rfl (Wants.free rfl) rfl (Rd.fa (v := .pointer (some ((a1.add (Int.toNat i1 * 2)).add 1))) rfl (fun _ => by kernel_rfl)) ?_
      obtain ⟨t3, t3n, t3c, hc3, h⟩ := h
      refine LW.rd hL rfl (Wants.free rfl) rfl (Rd.ld (v := .slice t3 t3n t3c) rfl (by kernel_rfl) (eqs hc3)) ?_
      refine LW.rd hL rfl (Wants.free rfl) rfl (Rd.builtin (v := .int .i64 (t3n : Int)) rfl (fun _ _ => by kernel_rfl)) ?_
      refine LW.rd hL rfl (Wants.free rfl) rfl (Rd.bin (v := .bool (decide (k1 < (t3n : Int)))) rfl rfl (fun w => by kernel_rfl)) ?_
      refine LW.nil hL rfl ?_
      refine NW.then ?_
      refine CW.cond rfl (fun hb4 => ?_) (fun hb4 => ?_)
      ·replace h := h.1 hb4
       refine CW.skip ?_
       refine NW.then ?_
       obtain ⟨J3, hJ3, h⟩ := h
       refine CW.cut (S := (Option Addr) × Nat × Nat × Int) (fun s4 => [(0, .slice l1 l1n l1c), (2, .pointer x1), (3, .slice x2 x2n x2c), (4, .bool x3), (5, .pointer r4), (8, .int .i64 i1), (10, .int .i64 k1), (6, .slice s4.1 s4.2.1 s4.2.2.1), (7, .int .i64 s4.2.2.2)]) (fun s4 w8 => J3 s4.1 s4.2.1 s4.2.2.1 s4.2.2.2 w8) (fun s4 w8 h_ => ?_) ?_
       ·obtain ⟨notes4, notes4n, notes4c, last4⟩ := s4; replace h := hJ3 notes4 notes4n notes4c last4 w8 h_; clear h_
        refine CW.region fun L hL => ?_
        refine LW.rd hL rfl (Wants.free rfl) rfl (Rd.move (v := .int .i64 k1) rfl) ?_
        refine LW.rd hL rfl (Wants.free rfl) rfl (Rd.bin (v := .int .i64 (IntKind.wrap .i64 (k1 + 1))) rfl rfl (fun w => by kernel_rfl)) ?_
        refine LW.rd hL rfl (Wants.free rfl) rfl (Rd.assign (v := .int .i64 (IntKind.wrap .i64 (k1 + 1))) rfl) ?_
        refine LW.nil hL rfl ?_
        exact NW.loop (S := (Option Addr) × Nat × Nat × Int × Int) (Ek := fun s3 => [(0, .slice l1 l1n l1c), (2, .pointer x1), (3, .slice x2 x2n x2c), (4, .bool x3), (5, .pointer r4), (8, .int .i64 i1), (6, .slice s3.1 s3.2.1 s3.2.2.1), (7, .int .i64 s3.2.2.2.1), (10, .int .i64 s3.2.2.2.2)]) (notes4, notes4n, notes4c, last4, IntKind.wrap .i64 (k1 + 1)) (by exact ⟨rfl, rfl, rfl, rfl, rfl, rfl, rfl, rfl, rfl, trivial⟩) h
       ·skip
        refine CW.block ?_
        refine CW.seq ?_
        refine CW.region fun L hL => ?_
        refine LW.rd hL rfl (Wants.free rfl) rfl (Rd.move (v := .slice l1 l1n l1c) rfl) ?_
        refine LW.rd hL rfl (Wants.free rfl) rfl (Rd.move (v := .int .i64 i1) rfl) ?_
        refine LW.rd hL rfl (Wants.free rfl) rfl (Rd.iaS (q := a1) (sz := 2) (by rw [← he1]; rfl) rfl Tryd.underlying36 (by kernel_rfl) hi1 hi2) ?_
        refine LW.rd hL rfl (Wants.free rfl) rfl (Rd.fa (v := .pointer (some ((a1.add (Int.toNat i1 * 2)).add 1))) rfl (fun _ => by kernel_rfl)) ?_
        refine LW.rd hL rfl (Wants.free rfl) rfl (Rd.ld (v := .slice t3 t3n t3c) rfl (by kernel_rfl) (eqs hc3)) ?_
        refine LW.rd hL rfl (Wants.free rfl) rfl (Rd.move (v := .int .i64 k1) rfl) ?_
        obtain ⟨a2, he2, hi9, hi10, h⟩ := h
        refine LW.rd hL rfl (Wants.free rfl) rfl (Rd.iaS (q := a2) (sz := 3) (by rw [← he2]; rfl) rfl Tryd.underlying45 (by kernel_rfl) hi9 hi10) ?_
        obtain ⟨t4, t5, t6, t6n, t6c, hc4, h⟩ := h
        refine LW.rd hL rfl (Wants.free rfl) rfl (Rd.ldN (cs := [.int .i64 t4, .int .i64 t5, .slice t6 t6n t6c]) rfl (by kernel_rfl) (by kernel_rfl) (cellsS hc4)) ?_
        obtain ⟨b1, hb_b1⟩ : ∃ b1, b1 = World.size w7 := ⟨_, rfl⟩
        obtain ⟨w9, hw_w9⟩ : ∃ w9, w9 = World.alloc w7 (.cells #[.int .i64 0, .int .i64 0, .slice none 0 0] 33) := ⟨_, rfl⟩
        refine LW.val hL rfl (Wants.free rfl) rfl (boxE hb_b1 hw_w9 (Vl.alloc (z := .agg #[.int .i64 0, .int .i64 0, .slice none 0 0]) (by kernel_rfl))) ?_
        have hB := Boxes.alloc (cs := [.int .i64 0, .int .i64 0, .slice none 0 0]) (T := 33) (Boxes.nil w7) hb_b1 hw_w9
        have hlo_b1 := sil_lo (Chg.refl [] w7) hb_b1
        have hc_w9 := sil_alloc (Chg.refl [] w7) hw_w9
        obtain ⟨w10, hw_w10⟩ : ∃ x, x = setCells w9 (⟨b1, 0, none⟩ : Addr) 0 [.int .i64 t4, .int .i64 t5, .slice t6 t6n t6c] := ⟨_, rfl⟩
        refine LW.eff hL rfl (Wants.free rfl) rfl (stNE hw_w10 (Ef.stN (cs := [.int .i64 t4, .int .i64 t5, .slice t6 t6n t6c]) rfl rfl (by kernel_rfl) (List.forall_mem_cons.2 ⟨rfl, (List.forall_mem_cons.2 ⟨rfl, (List.forall_mem_cons.2 ⟨rfl, (List.forall_mem_nil _)⟩)⟩)⟩) (has_of (hB.at (i := 0) rfl) (by simp)) (free_of' (hB.at (i := 0) rfl)))) ?_
        replace hB : Boxes w10 [(b1, [.int .i64 t4, .int .i64 t5, .slice t6 t6n t6c], 33)] := Boxes.store (vs := [.int .i64 t4, .int .i64 t5, .slice t6 t6n t6c]) (i := 0) (o := 0) hB rfl rfl rfl rfl hw_w10
        have hc_w10 := sil_new hc_w9 (sil_cN hw_w10) hlo_b1
        refine LW.nil hL rfl ?_
        refine NW.then ?_
        refine CW.seq ?_
        refine CW.region fun L hL => ?_
        refine LW.rd hL rfl (Wants.free rfl) rfl (Rd.fa (v := .pointer (some (⟨b1, 0, none⟩ : Addr))) rfl (fun _ => by kernel_rfl)) ?_
        refine LW.rd hL rfl (Wants.free rfl) rfl (Rd.ldN (cs := [.int .i64 t4, .int .i64 t5]) rfl (by kernel_rfl) (by kernel_rfl) (cellsS (box_cells (hB.at (i := 0) rfl) rfl))) ?_
        refine LW.rd hL rfl (Wants.free rfl) rfl (Rd.build (v := .agg #[.int .i64 0, .int .i64 0]) rfl (fun _ => by kernel_rfl)) ?_
        refine LW.rd hL rfl (Wants.free rfl) rfl (Rd.bin (v := .bool (!((t4 == 0) && (t5 == 0)))) rfl rfl (fun w => neS_27 _ _ _ _ w)) ?_
        refine LW.nil hL rfl ?_
        refine NW.then ?_
        replace h := h b1 w10 ⟨hlo_b1, lt_of_heap (hB.at (i := 0) rfl)⟩ hc_w10
        refine CW.cond rfl (fun hb5 => ?_) (fun hb5 => ?_)
        ·replace h := h.1 hb5
         refine CW.seq ?_
         obtain ⟨w11, hw_w11⟩ : ∃ x, x = World.drew w10 := ⟨_, rfl⟩
         have hc_w11 := sil_drew (Chg.refl [] w10) hw_w11
         replace hB := hB.drew hw_w11
         replace h := h  w11  hc_w11
         obtain ⟨t7, hc5, h⟩ := h
         refine CW.drawn (fun w => w.cell? (a1.add (Int.toNat i1 * 2)) = some (.int .i64 t7) ∧ Boxes w [(b1, [.int .i64 t4, .int .i64 t5, .slice t6 t6n t6c], 33)]) 12 (by kernel_rfl) fun H hH => ?_
         rw [← hw_w11]
         have hS1 : w11.cell? (a1.add (Int.toNat i1 * 2)) = some (.int .i64 t7) ∧ Boxes w11 [(b1, [.int .i64 t4, .int .i64 t5, .slice t6 t6n t6c], 33)] := ⟨hc5, hB⟩
         refine HW.pure (i := 0) hH rfl (by kernel_rfl) (Wants.free rfl) rfl (fun _ => hS1) (Rd.move (v := .slice notes3 notes3n notes3c) rfl) ?_
         refine HW.pure (i := 1) hH rfl (by kernel_rfl) (Wants.free rfl) rfl (fun _ => hS1) (Rd.move (v := .slice l1 l1n l1c) rfl) ?_
         refine HW.pure (i := 2) hH rfl (by kernel_rfl) (Wants.free rfl) rfl (fun _ => hS1) (Rd.move (v := .int .i64 i1) rfl) ?_
         refine HW.pure (i := 3) hH rfl (by kernel_rfl) (Wants.free rfl) rfl (fun _ => hS1) (Rd.iaS (q := a1) (sz := 2) (by rw [← he1]; rfl) rfl Tryd.underlying36 (by kernel_rfl) hi1 hi2) ?_
         refine HW.pure (i := 4) hH rfl (by kernel_rfl) (Wants.free rfl) rfl (fun _ => hS1) (Rd.fa (v := .pointer (some (a1.add (Int.toNat i1 * 2)))) rfl (fun _ => by kernel_rfl)) ?_
         refine HW.take (i := 5) hH rfl (by kernel_rfl) (by kernel_rfl) (Wants.free rfl) rfl (fun _ => hS1) (Rd.ld (v := .int .i64 t7) rfl (by kernel_rfl) (fun w h => h.1)) ?_
         refine HW.pure (i := 6) hH rfl (by kernel_rfl) (Wants.free rfl) rfl (fun _ => hS1) (Rd.fa (v := .pointer (some (⟨b1, 0, none⟩ : Addr))) rfl (fun _ => by kernel_rfl)) ?_
         refine HW.take (i := 7) hH rfl (by kernel_rfl) (by kernel_rfl) (Wants.free rfl) rfl (fun _ => hS1) (Rd.ldN (cs := [.int .i64 t4, .int .i64 t5]) rfl (by kernel_rfl) (by kernel_rfl) (fun w h => cellsAt_get (box_cells (Boxes.at (i := 0) h.2 rfl) rfl))) ?_
         refine HW.pure (i := 8) hH rfl (by kernel_rfl) (Wants.free rfl) rfl (fun _ => hS1) (Rd.fa (v := .pointer (some (⟨b1, 2, none⟩ : Addr))) rfl (fun _ => by kernel_rfl)) ?_
         refine HW.take (i := 9) hH rfl (by kernel_rfl) (by kernel_rfl) (Wants.free rfl) rfl (fun _ => hS1) (Rd.ld (v := .slice t6 t6n t6c) rfl (by kernel_rfl) (fun w h => box_cell (Boxes.at (i := 0) h.2 rfl) rfl)) ?_
         refine HW.pure (i := 10) hH rfl (by kernel_rfl) (Wants.free rfl) rfl (fun _ => hS1) (Rd.build (v := .agg #[.int .i64 t7, .int .i64 t4, .int .i64 t5, .slice t6 t6n t6c]) rfl (fun _ => by kernel_rfl)) ?_
         obtain ⟨b2, hb_b2⟩ : ∃ b2, b2 = World.size w11 := ⟨_, rfl⟩
         obtain ⟨w12, hw_w12⟩ : ∃ w12, w12 = World.alloc w11 (.cells #[.int .i64 t7, .int .i64 t4, .int .i64 t5, .slice t6 t6n t6c] 50) := ⟨_, rfl⟩
         replace h := h b2 hb_b2 w12 hw_w12
         have hS2 := (⟨cellAlloc hw_w12 hS1.1, ((hS1.2).grow hw_w12)⟩ : w12.cell? (a1.add (Int.toNat i1 * 2)) = some (.int .i64 t7) ∧ Boxes w12 [(b1, [.int .i64 t4, .int .i64 t5, .slice t6 t6n t6c], 33)])
         refine HW.val (i := 11) hH (by kernel_rfl) rfl (Wants.free rfl) rfl (sliceE (n := 1) hb_b2 hw_w12 (fun w => Vl.buildSlice (vs := [(0, .agg #[.int .i64 t7, .int .i64 t4, .int .i64 t5, .slice t6 t6n t6c])]) rfl (by kernel_rfl))) (fun _ => hS2) ?_
         replace hB := hB.grow hw_w12
         obtain ⟨l2, l2n, l2c, w13, ha1, h⟩ := h
         refine HW.val (i := 12) hH (by kernel_rfl) rfl (Wants.free rfl) rfl (Vl.builtin (v := .slice l2 l2n l2c) rfl (valB ha1)) (fun hc => by cases hc) ?_
         refine HW.pure (i := 13) hH rfl (by kernel_rfl) (Wants.free rfl) rfl (fun hc => by cases hc) (Rd.assign (v := .slice l2 l2n l2c) rfl) ?_
         refine HW.done hH (by kernel_rfl) ?_
         refine NW.then ?_
         refine CW.region fun L hL => ?_
         refine LW.rd hL rfl (Wants.free rfl) rfl (Rd.move (v := .slice l1 l1n l1c) rfl) ?_
         refine LW.rd hL rfl (Wants.free rfl) rfl (Rd.move (v := .int .i64 i1) rfl) ?_
         refine LW.rd hL rfl (Wants.free rfl) rfl (Rd.iaS (q := a1) (sz := 2) (by rw [← he1]; rfl) rfl Tryd.underlying36 (by kernel_rfl) hi1 hi2) ?_
         refine LW.rd hL rfl (Wants.free rfl) rfl (Rd.fa (v := .pointer (some (a1.add (Int.toNat i1 * 2)))) rfl (fun _ => by kernel_rfl)) ?_
         obtain ⟨t8, hc6, h⟩ := h
         refine LW.rd hL rfl (Wants.free rfl) rfl (Rd.ld (v := .int .i64 t8) rfl (by kernel_rfl) (eqs hc6)) ?_
         refine LW.rd hL rfl (Wants.free rfl) rfl (Rd.assign (v := .int .i64 t8) rfl) ?_
         refine LW.nil hL rfl ?_
         refine NW.block ?_
         exact NW.cut (S := (Option Addr) × Nat × Nat × Int) (Ek := fun s4 => [(0, .slice l1 l1n l1c), (2, .pointer x1), (3, .slice x2 x2n x2c), (4, .bool x3), (5, .pointer r4), (8, .int .i64 i1), (10, .int .i64 k1), (6, .slice s4.1 s4.2.1 s4.2.2.1), (7, .int .i64 s4.2.2.2)]) (l2, l2n, l2c, t8) (by exact ⟨rfl, rfl, rfl, rfl, rfl, rfl, rfl, rfl, rfl, trivial⟩) h
        ·replace h := h.2 hb5
         refine CW.skip ?_
         refine NW.block ?_
         exact NW.cut (S := (Option Addr) × Nat × Nat × Int) (Ek := fun s4 => [(0, .slice l1 l1n l1c), (2, .pointer x1), (3, .slice x2 x2n x2c), (4, .bool x3), (5, .pointer r4), (8, .int .i64 i1), (10, .int .i64 k1), (6, .slice s4.1 s4.2.1 s4.2.2.1), (7, .int .i64 s4.2.2.2)]) (notes3, notes3n, notes3c, last3) (by exact ⟨rfl, rfl, rfl, rfl, rfl, rfl, rfl, rfl, rfl, trivial⟩) h
      ·replace h := h.2 hb4
       refine CW.exit ?_
       refine XW.then ?_
       refine XW.then ?_
       refine XW.hit ?_
       refine NW.block ?_
       exact NW.cut (S := (Option Addr) × (Option Addr) × Nat × Nat × Bool × (Option Addr) × Nat × Nat × Int) (Ek := fun s2 => [(0, .slice l1 l1n l1c), (5, .pointer r4), (8, .int .i64 i1), (2, .pointer s2.1), (3, .slice s2.2.1 s2.2.2.1 s2.2.2.2.1), (4, .bool s2.2.2.2.2.1), (6, .slice s2.2.2.2.2.2.1 s2.2.2.2.2.2.2.1 s2.2.2.2.2.2.2.2.1), (7, .int .i64 s2.2.2.2.2.2.2.2.2)]) (x1, x2, x2n, x2c, x3, notes3, notes3n, notes3c, last3) (by exact ⟨rfl, rfl, rfl, rfl, rfl, rfl, rfl, rfl, trivial⟩) h
   ·skip
    refine CW.seq ?_
    refine CW.region fun L hL => ?_
    refine LW.rd hL rfl (Wants.free rfl) rfl (Rd.move (v := .slice l1 l1n l1c) rfl) ?_
    refine LW.rd hL rfl (Wants.free rfl) rfl (Rd.move (v := .int .i64 i1) rfl) ?_
    obtain ⟨a3, he3, hi15, hi16, h⟩ := h
    refine LW.rd hL rfl (Wants.free rfl) rfl (Rd.iaS (q := a3) (sz := 2) (by rw [← he3]; rfl) rfl Tryd.underlying36 (by kernel_rfl) hi15 hi16) ?_
    refine LW.rd hL rfl (Wants.free rfl) rfl (Rd.fa (v := .pointer (some (a3.add (Int.toNat i1 * 2)))) rfl (fun _ => by kernel_rfl)) ?_
    obtain ⟨t9, hc7, h⟩ := h
    refine LW.rd hL rfl (Wants.free rfl) rfl (Rd.ld (v := .int .i64 t9) rfl (by kernel_rfl) (eqs hc7)) ?_
    refine LW.rd hL rfl (Wants.free rfl) rfl (Rd.bin (v := .bool (decide (t9 < 0))) rfl rfl (fun w => by kernel_rfl)) ?_
    refine LW.rd hL rfl (Wants.free rfl) rfl (Rd.move (v := .bool (decide (t9 < 0))) rfl) ?_
    obtain ⟨J4, hJ4, h1_J4, h0_J4⟩ := h
    suffices K1 : ∀ (b3 : Bool) (w14 : World), J4 b3 w14 → L 15 [(0, .slice l1 l1n l1c), (2, .pointer x1), (3, .slice x2 x2n x2c), (4, .bool x3), (5, .pointer r4), (6, .slice notes1 notes1n notes1c), (7, .int .i64 last1), (8, .int .i64 i1), (9, .int .i64 0), (33, .bool b3)] w14 by
     rcases Bool.eq_false_or_eq_true (decide (t9 < 0)) with hb6 | hb6
     ·have h := h0_J4 hb6
      refine LW.skip hL rfl (Skips.on rfl rfl rfl rfl rfl hb6) rfl ?_
      refine LW.skip hL rfl (Skips.on rfl rfl rfl rfl rfl hb6) rfl ?_
      refine LW.skip hL rfl (Skips.on rfl rfl rfl rfl rfl hb6) rfl ?_
      refine LW.skip hL rfl (Skips.on rfl rfl rfl rfl rfl hb6) rfl ?_
      refine LW.skip hL rfl (Skips.on rfl rfl rfl rfl rfl hb6) rfl ?_
      refine LW.skip hL rfl (Skips.on rfl rfl rfl rfl rfl hb6) rfl ?_
      refine LW.skip hL rfl (Skips.on rfl rfl rfl rfl rfl hb6) rfl ?_
      refine LW.rd hL rfl (Wants.free rfl) rfl (Rd.pickT rfl hb6 rfl) ?_
      exact LW.sub hL (by exact ⟨rfl, rfl, rfl, rfl, rfl, rfl, rfl, rfl, rfl, rfl, trivial⟩) (K1 true w2 h)
     ·have h := h1_J4 hb6
      refine LW.rd hL rfl (Wants.on rfl rfl rfl rfl rfl hb6) rfl (Rd.move (v := .slice l1 l1n l1c) rfl) ?_
      refine LW.rd hL rfl (Wants.on rfl rfl rfl rfl rfl hb6) rfl (Rd.move (v := .int .i64 i1) rfl) ?_
      refine LW.rd hL rfl (Wants.on rfl rfl rfl rfl rfl hb6) rfl (Rd.iaS (q := a3) (sz := 2) (by rw [← he3]; rfl) rfl Tryd.underlying36 (by kernel_rfl) hi15 hi16) ?_
      refine LW.rd hL rfl (Wants.on rfl rfl rfl rfl rfl hb6) rfl (Rd.fa (v := .pointer (some (a3.add (Int.toNat i1 * 2)))) rfl (fun _ => by kernel_rfl)) ?_
      refine LW.rd hL rfl (Wants.on rfl rfl rfl rfl rfl hb6) rfl (Rd.ld (v := .int .i64 t9) rfl (by kernel_rfl) (eqs hc7)) ?_
      refine LW.rd hL rfl (Wants.on rfl rfl rfl rfl rfl hb6) rfl (Rd.move (v := .int .i64 last1) rfl) ?_
      refine LW.rd hL rfl (Wants.on rfl rfl rfl rfl rfl hb6) rfl (Rd.bin (v := .bool (decide (t9 < last1))) rfl rfl (fun w => by kernel_rfl)) ?_
      refine LW.rd hL rfl (Wants.free rfl) rfl (Rd.pickF rfl hb6 rfl) ?_
      exact LW.sub hL (by exact ⟨rfl, rfl, rfl, rfl, rfl, rfl, rfl, rfl, rfl, rfl, trivial⟩) (K1 (decide (t9 < last1)) w2 h)
    intro b3 w14 h_
    have h := hJ4 b3 w14 h_; clear h_
    refine LW.nil hL rfl ?_
    refine NW.then ?_
    refine CW.cond rfl (fun hb7 => ?_) (fun hb7 => ?_)
    ·replace h := h.1 hb7
     refine CW.region fun L hL => ?_
     refine LW.rd hL rfl (Wants.free rfl) rfl (Rd.assign (v := .int .i64 2) rfl) ?_
     refine LW.nil hL rfl ?_
     exact NW.cut (S := Int) (Ek := fun want1 => [(0, .slice l1 l1n l1c), (2, .pointer x1), (3, .slice x2 x2n x2c), (4, .bool x3), (5, .pointer r4), (6, .slice notes1 notes1n notes1c), (7, .int .i64 last1), (8, .int .i64 i1), (9, .int .i64 want1)]) 2 (by exact ⟨rfl, rfl, rfl, rfl, rfl, rfl, rfl, rfl, rfl, trivial⟩) h
    ·replace h := h.2 hb7
     refine CW.skip ?_
     exact NW.cut (S := Int) (Ek := fun want1 => [(0, .slice l1 l1n l1c), (2, .pointer x1), (3, .slice x2 x2n x2c), (4, .bool x3), (5, .pointer r4), (6, .slice notes1 notes1n notes1c), (7, .int .i64 last1), (8, .int .i64 i1), (9, .int .i64 want1)]) 0 (by exact ⟨rfl, rfl, rfl, rfl, rfl, rfl, rfl, rfl, rfl, trivial⟩) h
 ·replace h := h.2 hb1
  refine CW.exit ?_
  refine XW.then ?_
  refine XW.then ?_
  refine XW.hit ?_
  refine NW.then ?_
  refine CW.seq ?_
  refine CW.region fun L hL => ?_
  refine LW.rd hL rfl (Wants.free rfl) rfl (Rd.move (v := .pointer r4) rfl) ?_
  refine LW.rd hL rfl (Wants.free rfl) rfl (Rd.move (v := .slice notes1 notes1n notes1c) rfl) ?_
  refine LW.rd hL rfl (Wants.free rfl) rfl (Rd.move (v := .pointer r4) rfl) ?_
  refine LW.call hL rfl (Wants.free rfl) rfl (Cl.fn (f := 27) rfl Tryd.func27 (by kernel_rfl) rfl) h (fun e w15 h_ => ?_)
  clear h
  obtain ⟨r6, rfl, h⟩ := h_
  refine ⟨_, rfl, ?_⟩
  refine LW.rd hL rfl (Wants.free rfl) rfl (Rd.move (v := .slice notes1 notes1n notes1c) rfl) ?_
  refine LW.rd hL rfl (Wants.free rfl) rfl (Rd.builtin (v := .int .i64 (notes1n : Int)) rfl (fun _ _ => by kernel_rfl)) ?_
  refine LW.rd hL rfl (Wants.free rfl) rfl (Rd.bin (v := .bool (r6 == (notes1n : Int))) rfl rfl (fun w => by kernel_rfl)) ?_
  refine LW.rd hL rfl (Wants.free rfl) rfl (Rd.assign (v := .pointer r4) rfl) ?_
  refine LW.rd hL rfl (Wants.free rfl) rfl (Rd.assign (v := .slice notes1 notes1n notes1c) rfl) ?_
  refine LW.rd hL rfl (Wants.free rfl) rfl (Rd.assign (v := .bool (r6 == (notes1n : Int))) rfl) ?_
  refine LW.nil hL rfl ?_
  refine NW.then ?_
  refine CW.ret ?_
  exact res3 rfl rfl rfl rfl ⟨r4, notes1, notes1n, notes1c, r6 == (notes1n : Int), rfl, h⟩
/- pomander/pomanderref10.SamePlaces -/
def W_pomanderref10_SamePlaces (a1 : Option Addr) (a1n : Nat) (a1c : Nat) (b1 : Option Addr) (b1n : Nat) (b1c : Nat) (w : World) (R : Bool → World → Prop) : Prop :=
 ((!((a1n : Int) == (b1n : Int))) = true → R false w) ∧ ((!((a1n : Int) == (b1n : Int))) = false → ∃ (I1 : Bool → Int → World → Prop) (m1 : Bool → Int → World → Nat), I1 false 0 w ∧ ∀ (x1 : Bool) (i1 : Int) (w1 : World), I1 x1 i1 w1 → ((decide (i1 < (a1n : Int))) = true → ∃ a2 : Addr, a1 = some a2 ∧ (0 : Int) ≤ i1 ∧ i1 < (a1n : Int) ∧ (∀ (w2 : World), Chg [] w1 w2 → (∃ (t1 : Int) (t2 : Int), CellsAt w2 (a2.add (Int.toNat i1 * 2)) 0 [.int .i64 t1, .int .i64 t2] ∧ (∃ a3 : Addr, b1 = some a3 ∧ (0 : Int) ≤ i1 ∧ i1 < (b1n : Int) ∧ (∃ (t3 : Int) (t4 : Int), CellsAt w2 (a3.add (Int.toNat i1 * 2)) 0 [.int .i64 t3, .int .i64 t4] ∧ (((!((t1 == t3) && (t2 == t4))) = true → R false w2) ∧ ((!((t1 == t3) && (t2 == t4))) = false → (I1 x1 (IntKind.wrap .i64 (i1 + 1)) w2 ∧ m1 x1 (IntKind.wrap .i64 (i1 + 1)) w2 < m1 x1 i1 w1)))))))) ∧ ((decide (i1 < (a1n : Int))) = false → R true w1))
set_option maxRecDepth 100000 in
theorem go_pomanderref10_SamePlaces (a1 : Option Addr) (a1n : Nat) (a1c : Nat) (b1 : Option Addr) (b1n : Nat) (b1c : Nat) (w : World) (R : Bool → World → Prop) (h : W_pomanderref10_SamePlaces a1 a1n a1c b1 b1n b1c w R) : Calls Tryd.prog 13 #[.slice a1 a1n a1c, .slice b1 b1n b1c] w (fun e w' => ∃ (r1 : Bool), e = .returned (.bool r1) ∧ R r1 w') := by
 unfold W_pomanderref10_SamePlaces at h
 refine enter (N := 26) Tryd.func13 rfl rfl ?_
 refine CW.seq ?_
 refine CW.region fun L hL => ?_
 refine LW.rd hL rfl (Wants.free rfl) rfl (Rd.assign (v := .bool false) rfl) ?_
 refine LW.nil hL rfl ?_
 refine NW.then ?_
 refine CW.seq ?_
 refine CW.seq ?_
 refine CW.region fun L hL => ?_
 refine LW.rd hL rfl (Wants.free rfl) rfl (Rd.move (v := .slice a1 a1n a1c) rfl) ?_
 refine LW.rd hL rfl (Wants.free rfl) rfl (Rd.builtin (v := .int .i64 (a1n : Int)) rfl (fun _ _ => by kernel_rfl)) ?_
 refine LW.rd hL rfl (Wants.free rfl) rfl (Rd.move (v := .slice b1 b1n b1c) rfl) ?_
 refine LW.rd hL rfl (Wants.free rfl) rfl (Rd.builtin (v := .int .i64 (b1n : Int)) rfl (fun _ _ => by kernel_rfl)) ?_
 refine LW.rd hL rfl (Wants.free rfl) rfl (Rd.bin (v := .bool (!((a1n : Int) == (b1n : Int)))) rfl rfl (fun w => by kernel_rfl)) ?_
 refine LW.nil hL rfl ?_
 refine NW.then ?_
 refine CW.cond rfl (fun hb1 => ?_) (fun hb1 => ?_)
 ·replace h := h.1 hb1
  refine CW.seq ?_
  refine CW.region fun L hL => ?_
  refine LW.rd hL rfl (Wants.free rfl) rfl (Rd.assign (v := .bool false) rfl) ?_
  refine LW.nil hL rfl ?_
  refine NW.then ?_
  refine CW.ret ?_
  refine RW.then ?_
  exact res1 rfl rfl ⟨false, rfl, h⟩
 ·replace h := h.2 hb1
  refine CW.skip ?_
  refine NW.then ?_
  refine CW.seq ?_
  refine CW.seq ?_
  refine CW.region fun L hL => ?_
  refine LW.rd hL rfl (Wants.free rfl) rfl (Rd.assign (v := .int .i64 0) rfl) ?_
  refine LW.nil hL rfl ?_
  refine NW.then ?_
  refine CW.block ?_
  obtain ⟨I1, m1, hI1, h⟩ := h
  refine CW.loop (S := Bool × Int) (fun s1 => [(0, .slice a1 a1n a1c), (1, .slice b1 b1n b1c), (4, .bool s1.1), (5, .int .i64 s1.2)]) (fun s1 w1 => I1 s1.1 s1.2 w1) (fun s1 w1 => m1 s1.1 s1.2 w1) (false, 0) (by exact ⟨rfl, rfl, rfl, rfl, trivial⟩) hI1 (fun s1 w1 hI1 => ?_)
  obtain ⟨x1, i1⟩ := s1; replace h := h x1 i1 w1 hI1
  refine CW.seq ?_
  refine CW.seq ?_
  refine CW.region fun L hL => ?_
  refine LW.rd hL rfl (Wants.free rfl) rfl (Rd.move (v := .int .i64 i1) rfl) ?_
  refine LW.rd hL rfl (Wants.free rfl) rfl (Rd.move (v := .slice a1 a1n a1c) rfl) ?_
  refine LW.rd hL rfl (Wants.free rfl) rfl (Rd.builtin (v := .int .i64 (a1n : Int)) rfl (fun _ _ => by kernel_rfl)) ?_
  refine LW.rd hL rfl (Wants.free rfl) rfl (Rd.bin (v := .bool (decide (i1 < (a1n : Int)))) rfl rfl (fun w => by kernel_rfl)) ?_
  refine LW.nil hL rfl ?_
  refine NW.then ?_
  refine CW.cond rfl (fun hb2 => ?_) (fun hb2 => ?_)
  ·replace h := h.1 hb2
   refine CW.skip ?_
   refine NW.then ?_
   refine CW.seq ?_
   refine CW.block ?_
   refine CW.seq ?_
   obtain ⟨w2, hw_w2⟩ : ∃ x, x = World.drew w1 := ⟨_, rfl⟩
   have hc_w2 := sil_drew (Chg.refl [] w1) hw_w2
   refine CW.drawn (fun w => w = w2) 9 (by kernel_rfl) fun H hH => ?_
   rw [← hw_w2]
   refine HW.pure (i := 0) hH rfl (by kernel_rfl) (Wants.free rfl) rfl (fun _ => rfl) (Rd.move (v := .slice a1 a1n a1c) rfl) ?_
   refine HW.pure (i := 1) hH rfl (by kernel_rfl) (Wants.free rfl) rfl (fun _ => rfl) (Rd.move (v := .int .i64 i1) rfl) ?_
   obtain ⟨a2, he1, hi1, hi2, h⟩ := h
   refine HW.pure (i := 2) hH rfl (by kernel_rfl) (Wants.free rfl) rfl (fun _ => rfl) (Rd.iaS (q := a2) (sz := 2) (by rw [← he1]; rfl) rfl Tryd.underlying22 (by kernel_rfl) hi1 hi2) ?_
   replace h := h  w2  hc_w2
   obtain ⟨t1, t2, hc1, h⟩ := h
   refine HW.take (i := 3) hH rfl (by kernel_rfl) (by kernel_rfl) (Wants.free rfl) rfl (fun _ => rfl) (Rd.ldN (cs := [.int .i64 t1, .int .i64 t2]) rfl (by kernel_rfl) (by kernel_rfl) (cellsS hc1)) ?_
   refine HW.pure (i := 4) hH rfl (by kernel_rfl) (Wants.free rfl) rfl (fun _ => rfl) (Rd.move (v := .slice b1 b1n b1c) rfl) ?_
   refine HW.pure (i := 5) hH rfl (by kernel_rfl) (Wants.free rfl) rfl (fun _ => rfl) (Rd.move (v := .int .i64 i1) rfl) ?_
   obtain ⟨a3, he2, hi3, hi4, h⟩ := h
   refine HW.pure (i := 6) hH rfl (by kernel_rfl) (Wants.free rfl) rfl (fun _ => rfl) (Rd.iaS (q := a3) (sz := 2) (by rw [← he2]; rfl) rfl Tryd.underlying22 (by kernel_rfl) hi3 hi4) ?_
   obtain ⟨t3, t4, hc2, h⟩ := h
   refine HW.take (i := 7) hH rfl (by kernel_rfl) (by kernel_rfl) (Wants.free rfl) rfl (fun _ => rfl) (Rd.ldN (cs := [.int .i64 t3, .int .i64 t4]) rfl (by kernel_rfl) (by kernel_rfl) (cellsS hc2)) ?_
   refine HW.pure (i := 8) hH rfl (by kernel_rfl) (Wants.free rfl) rfl (fun _ => rfl) (Rd.bin (v := .bool (!((t1 == t3) && (t2 == t4)))) rfl rfl (fun w => neS_27 _ _ _ _ w)) ?_
   refine HW.done hH (by kernel_rfl) ?_
   refine NW.then ?_
   refine CW.cond rfl (fun hb3 => ?_) (fun hb3 => ?_)
   ·replace h := h.1 hb3
    refine CW.seq ?_
    refine CW.region fun L hL => ?_
    refine LW.rd hL rfl (Wants.free rfl) rfl (Rd.assign (v := .bool false) rfl) ?_
    refine LW.nil hL rfl ?_
    refine NW.then ?_
    refine CW.ret ?_
    refine RW.block ?_
    refine RW.then ?_
    refine RW.then ?_
    refine RW.block ?_
    refine RW.then ?_
    exact res1 rfl rfl ⟨false, rfl, h⟩
   ·replace h := h.2 hb3
    refine CW.skip ?_
    refine NW.block ?_
    refine NW.then ?_
    refine CW.region fun L hL => ?_
    refine LW.rd hL rfl (Wants.free rfl) rfl (Rd.move (v := .int .i64 i1) rfl) ?_
    refine LW.rd hL rfl (Wants.free rfl) rfl (Rd.bin (v := .int .i64 (IntKind.wrap .i64 (i1 + 1))) rfl rfl (fun w => by kernel_rfl)) ?_
    refine LW.rd hL rfl (Wants.free rfl) rfl (Rd.assign (v := .int .i64 (IntKind.wrap .i64 (i1 + 1))) rfl) ?_
    refine LW.nil hL rfl ?_
    exact NW.loop (S := Bool × Int) (Ek := fun s1 => [(0, .slice a1 a1n a1c), (1, .slice b1 b1n b1c), (4, .bool s1.1), (5, .int .i64 s1.2)]) (x1, IntKind.wrap .i64 (i1 + 1)) (by exact ⟨rfl, rfl, rfl, rfl, trivial⟩) h
  ·replace h := h.2 hb2
   refine CW.exit ?_
   refine XW.then ?_
   refine XW.then ?_
   refine XW.hit ?_
   refine NW.then ?_
   refine CW.seq ?_
   refine CW.region fun L hL => ?_
   refine LW.rd hL rfl (Wants.free rfl) rfl (Rd.assign (v := .bool true) rfl) ?_
   refine LW.nil hL rfl ?_
   refine NW.then ?_
   refine CW.ret ?_
   exact res1 rfl rfl ⟨true, rfl, h⟩
end Go.Proofs.YtfcfkhbkkfpehaaDoor
end
