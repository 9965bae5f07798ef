import Derived.Test.YtkfncibmfcdokaaProg
import Derived.Test.YtkfncibmfcdokaaXEq
import Derived.Test.YtkfncibmfcdokaaXLoc
set_option linter.unusedVariables false
set_option linter.unusedSimpArgs false
namespace Go.Proofs.Ytkfncibmfcdokaa
open Go.X

/- pomander/pomanderlaw12.does -/
def W_pomanderlaw12_does (f1 : Option Addr) (g1 : Int) (g2 : Int) (g3 : Int) (g4 : Option Addr) (g4n : Nat) (g4c : Nat) (g5 : Option Addr) (g5n : Nat) (g5c : Nat) (a1 : Int) (a2 : Int) (a3 : Int) (a4 : Int) (a5 : Int) (a6 : Option Addr) (a6n : Nat) (a6c : Nat) (w : World) (R : Int → Int → Int → (Option Addr) → Nat → Nat → (Option Addr) → Nat → Nat → Bool → World → Prop) : Prop :=
  ∀ (b3 b2 b1 : Nat) (w3 : World), (w.heap.size ≤ b3 ∧ b3 < w3.heap.size) → (w.heap.size ≤ b2 ∧ b2 < w3.heap.size) → (w.heap.size ≤ b1 ∧ b1 < w3.heap.size) → Chg [] w w3 → (((a1 == 1) = true → Calls Try.prog 36 #[.pointer f1, .agg #[.int .i64 a3, .int .i64 a4], .int .i64 a2, .int .u32 a5] w3 fun e w4 => ∃ (r7 : Int), e = .returned (.int .i64 r7) ∧ (Same w3 w4 [b3, b2, b1] ∧ (Calls Try.prog 63 #[.agg #[.int .i64 g1, .int .i64 g2, .int .i64 g3, .slice g4 g4n g4c, .slice g5 g5n g5c], .agg #[.int .i64 a3, .int .i64 a4], .int .i64 a2, .int .u32 a5] w4 fun e w5 => ∃ (r8 : Int) (r9 : Int) (r10 : Int) (r11 : Option Addr) (r11n : Nat) (r11c : Nat) (r12 : Option Addr) (r12n : Nat) (r12c : Nat) (r13 : Int), e = .returned (.tuple #[.agg #[.int .i64 r8, .int .i64 r9, .int .i64 r10, .slice r11 r11n r11c, .slice r12 r12n r12c], .int .i64 r13]) ∧ (Same w4 w5 [b3, b2, b1] ∧ (∀ (b4 : Nat) (w8 : World), (w5.heap.size ≤ b4 ∧ b4 < w8.heap.size) → Chg [b3] w5 w8 → (R r8 r9 r10 r11 r11n r11c r12 r12n r12c (r7 == r13) w8)))))) ∧ ((a1 == 1) = false → Calls Try.prog 65 #[.pointer f1, .slice a6 a6n a6c] w3 fun e w9 => ∃ (r14 : Int) (r15 : Int), e = .returned (.tuple #[.int .u32 r14, .int .i64 r15]) ∧ (Same w3 w9 [b3, b2, b1] ∧ (Calls Try.prog 70 #[.agg #[.int .i64 g1, .int .i64 g2, .int .i64 g3, .slice g4 g4n g4c, .slice g5 g5n g5c], .slice a6 a6n a6c] w9 fun e w10 => ∃ (r16 : Bool), e = .returned (.bool r16) ∧ (Same w9 w10 [b3, b2, b1] ∧ (∃ J1 : Bool → World → Prop, (∀ (b5 : Bool) (w11 : World), J1 b5 w11 → ((b5 || (!r16 && (!(r14 == 0) || !(r15 == 2)))) = true → ∀ (w14 : World), Chg [b3] w11 w14 → (R g1 g2 g3 g4 g4n g4c g5 g5n g5c false w14)) ∧ ((b5 || (!r16 && (!(r14 == 0) || !(r15 == 2)))) = false → Calls Try.prog 38 #[.pointer f1, .slice a6 a6n a6c] w11 fun e w15 => ∃ (r18 : Int), e = .returned (.int .i64 r18) ∧ (Same w11 w15 [b3, b2, b1] ∧ (Calls Try.prog 72 #[.agg #[.int .i64 g1, .int .i64 g2, .int .i64 g3, .slice g4 g4n g4c, .slice g5 g5n g5c], .slice a6 a6n a6c] w15 fun e w16 => ∃ (r19 : Int) (r20 : Int) (r21 : Int) (r22 : Option Addr) (r22n : Nat) (r22c : Nat) (r23 : Option Addr) (r23n : Nat) (r23c : Nat) (r24 : Int), e = .returned (.tuple #[.agg #[.int .i64 r19, .int .i64 r20, .int .i64 r21, .slice r22 r22n r22c, .slice r23 r23n r23c], .int .i64 r24]) ∧ (Same w15 w16 [b3] ∧ (∀ (b7 : Nat) (w19 : World), (w16.heap.size ≤ b7 ∧ b7 < w19.heap.size) → Chg [b3] w16 w19 → (R r19 r20 r21 r22 r22n r22c r23 r23n r23c (r18 == r24) w19))))))) ∧ (((!((r15 == 0) == r16)) = false → ∃ J2 : Bool → World → Prop, (∀ (b6 : Bool) (w12 : World), J2 b6 w12 → J1 b6 w12) ∧ ((r16 = true → Calls Try.prog 71 #[.agg #[.int .i64 g1, .int .i64 g2, .int .i64 g3, .slice g4 g4n g4c, .slice g5 g5n g5c], .slice a6 a6n a6c] w10 fun e w13 => ∃ (r17 : Int), e = .returned (.int .u32 r17) ∧ (Same w10 w13 [b3, b2, b1] ∧ (J2 (!(r14 == r17)) w13))) ∧ (r16 = false → J2 false w10))) ∧ ((!((r15 == 0) == r16)) = true → J1 true w10))))))))
set_option maxRecDepth 100000 in
theorem go_pomanderlaw12_does (f1 : Option Addr) (g1 : Int) (g2 : Int) (g3 : Int) (g4 : Option Addr) (g4n : Nat) (g4c : Nat) (g5 : Option Addr) (g5n : Nat) (g5c : Nat) (a1 : Int) (a2 : Int) (a3 : Int) (a4 : Int) (a5 : Int) (a6 : Option Addr) (a6n : Nat) (a6c : Nat) (w : World) (R : Int → Int → Int → (Option Addr) → Nat → Nat → (Option Addr) → Nat → Nat → Bool → World → Prop) (h : W_pomanderlaw12_does f1 g1 g2 g3 g4 g4n g4c g5 g5n g5c a1 a2 a3 a4 a5 a6 a6n a6c w R) : Calls Try.prog 27 #[.pointer f1, .agg #[.int .i64 g1, .int .i64 g2, .int .i64 g3, .slice g4 g4n g4c, .slice g5 g5n g5c], .agg #[.int .i64 a1, .int .i64 a2, .int .i64 a3, .int .i64 a4, .int .u32 a5, .slice a6 a6n a6c]] w (fun e w' => ∃ (r1 : Int) (r2 : Int) (r3 : Int) (r4 : Option Addr) (r4n : Nat) (r4c : Nat) (r5 : Option Addr) (r5n : Nat) (r5c : Nat) (r6 : Bool), e = .returned (.tuple #[.agg #[.int .i64 r1, .int .i64 r2, .int .i64 r3, .slice r4 r4n r4c, .slice r5 r5n r5c], .bool r6]) ∧ R r1 r2 r3 r4 r4n r4c r5 r5n r5c r6 w') := by
  unfold W_pomanderlaw12_does at h
  refine enter (N := 97) Try.func27 rfl rfl ?_
  refine CW.seq ?_
  refine CW.region fun L hL => ?_
  obtain ⟨b1, hb_b1⟩ : ∃ b1, b1 = World.size w := ⟨_, rfl⟩
  obtain ⟨w1, hw_w1⟩ : ∃ w1, w1 = World.alloc w (.cells #[.int .i64 g1, .int .i64 g2, .int .i64 g3, .slice g4 g4n g4c, .slice g5 g5n g5c] 36) := ⟨_, rfl⟩
  refine LW.val hL rfl (Wants.free rfl) rfl (boxE hb_b1 hw_w1 (Vl.box (v := .agg #[.int .i64 g1, .int .i64 g2, .int .i64 g3, .slice g4 g4n g4c, .slice g5 g5n g5c]) rfl)) ?_
  have hB := Boxes.alloc (cs := [.int .i64 g1, .int .i64 g2, .int .i64 g3, .slice g4 g4n g4c, .slice g5 g5n g5c]) (T := 36) (Boxes.nil w) hb_b1 hw_w1
  have hlo_b1 := sil_lo (Chg.refl [] w) hb_b1
  have hc_w1 := sil_alloc (Chg.refl [] w) hw_w1
  obtain ⟨b2, hb_b2⟩ : ∃ b2, b2 = World.size w1 := ⟨_, rfl⟩
  obtain ⟨w2, hw_w2⟩ : ∃ w2, w2 = World.alloc w1 (.cells #[.int .i64 a1, .int .i64 a2, .int .i64 a3, .int .i64 a4, .int .u32 a5, .slice a6 a6n a6c] 58) := ⟨_, rfl⟩
  refine LW.val hL rfl (Wants.free rfl) rfl (boxE hb_b2 hw_w2 (Vl.box (v := .agg #[.int .i64 a1, .int .i64 a2, .int .i64 a3, .int .i64 a4, .int .u32 a5, .slice a6 a6n a6c]) rfl)) ?_
  replace hB := Boxes.alloc (cs := [.int .i64 a1, .int .i64 a2, .int .i64 a3, .int .i64 a4, .int .u32 a5, .slice a6 a6n a6c]) (T := 58) hB hb_b2 hw_w2
  have hlo_b2 := sil_lo hc_w1 hb_b2
  have hc_w2 := sil_alloc hc_w1 hw_w2
  obtain ⟨b3, hb_b3⟩ : ∃ b3, b3 = World.size w2 := ⟨_, rfl⟩
  obtain ⟨w3, hw_w3⟩ : ∃ w3, w3 = World.alloc w2 (.cells #[.int .i64 0, .int .i64 0, .int .i64 0, .slice none 0 0, .slice none 0 0] 36) := ⟨_, rfl⟩
  refine LW.val hL rfl (Wants.free rfl) rfl (boxE hb_b3 hw_w3 (Vl.alloc (z := .agg #[.int .i64 0, .int .i64 0, .int .i64 0, .slice none 0 0, .slice none 0 0]) (by kernel_rfl))) ?_
  replace hB := Boxes.alloc (cs := [.int .i64 0, .int .i64 0, .int .i64 0, .slice none 0 0, .slice none 0 0]) (T := 36) hB hb_b3 hw_w3
  have hlo_b3 := sil_lo hc_w2 hb_b3
  have hc_w3 := sil_alloc hc_w2 hw_w3
  refine LW.rd hL rfl (Wants.free rfl) rfl (Rd.assign (v := .bool false) rfl) ?_
  refine LW.nil hL rfl ?_
  refine NW.then ?_
  refine CW.seq ?_
  refine CW.seq ?_
  refine CW.region fun L hL => ?_
  refine LW.rd hL rfl (Wants.free rfl) rfl (Rd.fa (v := .pointer (some (⟨b2, 0, none⟩ : Addr))) rfl (fun _ => by kernel_rfl)) ?_
  refine LW.rd hL rfl (Wants.free rfl) rfl (Rd.ld (v := .int .i64 a1) rfl (by kernel_rfl) (eqs (box_cell (hB.at (i := 1) rfl) rfl))) ?_
  refine LW.rd hL rfl (Wants.free rfl) rfl (Rd.bin (v := .bool (a1 == 1)) rfl rfl (fun w => by kernel_rfl)) ?_
  refine LW.nil hL rfl ?_
  refine NW.then ?_
  replace h := h b3 b2 b1 w3 ⟨hlo_b3, lt_of_heap (hB.at (i := 0) rfl)⟩ ⟨hlo_b2, lt_of_heap (hB.at (i := 1) rfl)⟩ ⟨hlo_b1, lt_of_heap (hB.at (i := 2) rfl)⟩ hc_w3
  refine CW.cond rfl (fun hb1 => ?_) (fun hb1 => ?_)
  · replace h := h.1 hb1
    refine CW.seq ?_
    refine CW.region fun L hL => ?_
    refine LW.rd hL rfl (Wants.free rfl) rfl (Rd.move (v := .pointer f1) rfl) ?_
    refine LW.rd hL rfl (Wants.free rfl) rfl (Rd.fa (v := .pointer (some (⟨b2, 2, none⟩ : Addr))) rfl (fun _ => by kernel_rfl)) ?_
    refine LW.rd hL rfl (Wants.free rfl) rfl (Rd.ldN (cs := [.int .i64 a3, .int .i64 a4]) rfl (by kernel_rfl) (by kernel_rfl) (cellsS (box_cells (hB.at (i := 1) rfl) rfl))) ?_
    refine LW.rd hL rfl (Wants.free rfl) rfl (Rd.fa (v := .pointer (some (⟨b2, 1, none⟩ : Addr))) rfl (fun _ => by kernel_rfl)) ?_
    refine LW.rd hL rfl (Wants.free rfl) rfl (Rd.ld (v := .int .i64 a2) rfl (by kernel_rfl) (eqs (box_cell (hB.at (i := 1) rfl) rfl))) ?_
    refine LW.rd hL rfl (Wants.free rfl) rfl (Rd.fa (v := .pointer (some (⟨b2, 4, none⟩ : Addr))) rfl (fun _ => by kernel_rfl)) ?_
    refine LW.rd hL rfl (Wants.free rfl) rfl (Rd.ld (v := .int .u32 a5) rfl (by kernel_rfl) (eqs (box_cell (hB.at (i := 1) rfl) rfl))) ?_
    refine LW.call hL rfl (Wants.free rfl) rfl (Cl.fn (f := 36) rfl Try.func36 (by kernel_rfl) rfl) h (fun e w4 h_ => ?_)
    clear h
    obtain ⟨r7, rfl, h⟩ := h_
    obtain ⟨hsm1, h⟩ := h
    replace hB := Boxes.same hB (by exact hsm1)
    refine ⟨_, rfl, ?_⟩
    refine LW.rd hL rfl (Wants.free rfl) rfl (Rd.assign (v := .int .i64 r7) rfl) ?_
    refine LW.nil hL rfl ?_
    refine NW.then ?_
    refine CW.seq ?_
    refine CW.region fun L hL => ?_
    refine LW.rd hL rfl (Wants.free rfl) rfl (Rd.ldN (cs := [.int .i64 g1, .int .i64 g2, .int .i64 g3, .slice g4 g4n g4c, .slice g5 g5n g5c]) rfl (by kernel_rfl) (by kernel_rfl) (cellsS (box_cells (hB.at (i := 2) rfl) rfl))) ?_
    refine LW.rd hL rfl (Wants.free rfl) rfl (Rd.fa (v := .pointer (some (⟨b2, 2, none⟩ : Addr))) rfl (fun _ => by kernel_rfl)) ?_
    refine LW.rd hL rfl (Wants.free rfl) rfl (Rd.ldN (cs := [.int .i64 a3, .int .i64 a4]) rfl (by kernel_rfl) (by kernel_rfl) (cellsS (box_cells (hB.at (i := 1) rfl) rfl))) ?_
    refine LW.rd hL rfl (Wants.free rfl) rfl (Rd.fa (v := .pointer (some (⟨b2, 1, none⟩ : Addr))) rfl (fun _ => by kernel_rfl)) ?_
    refine LW.rd hL rfl (Wants.free rfl) rfl (Rd.ld (v := .int .i64 a2) rfl (by kernel_rfl) (eqs (box_cell (hB.at (i := 1) rfl) rfl))) ?_
    refine LW.rd hL rfl (Wants.free rfl) rfl (Rd.fa (v := .pointer (some (⟨b2, 4, none⟩ : Addr))) rfl (fun _ => by kernel_rfl)) ?_
    refine LW.rd hL rfl (Wants.free rfl) rfl (Rd.ld (v := .int .u32 a5) rfl (by kernel_rfl) (eqs (box_cell (hB.at (i := 1) rfl) rfl))) ?_
    refine LW.call hL rfl (Wants.free rfl) rfl (Cl.fn (f := 63) rfl Try.func63 (by kernel_rfl) rfl) h (fun e w5 h_ => ?_)
    clear h
    obtain ⟨r8, r9, r10, r11, r11n, r11c, r12, r12n, r12c, r13, rfl, h⟩ := h_
    obtain ⟨hsm2, h⟩ := h
    replace hB := Boxes.same hB (by exact hsm2)
    refine ⟨_, rfl, ?_⟩
    refine LW.rd hL rfl (Wants.free rfl) rfl (Rd.move (v := .tuple #[.agg #[.int .i64 r8, .int .i64 r9, .int .i64 r10, .slice r11 r11n r11c, .slice r12 r12n r12c], .int .i64 r13]) rfl) ?_
    refine LW.rd hL rfl (Wants.free rfl) rfl (Rd.extract (v := .agg #[.int .i64 r8, .int .i64 r9, .int .i64 r10, .slice r11 r11n r11c, .slice r12 r12n r12c]) rfl rfl) ?_
    refine LW.rd hL rfl (Wants.free rfl) rfl (Rd.extract (v := .int .i64 r13) rfl rfl) ?_
    obtain ⟨b4, hb_b4⟩ : ∃ b4, b4 = World.size w5 := ⟨_, rfl⟩
    obtain ⟨w6, hw_w6⟩ : ∃ w6, w6 = World.alloc w5 (.cells #[.int .i64 0, .int .i64 0, .int .i64 0, .slice none 0 0, .slice none 0 0] 36) := ⟨_, rfl⟩
    refine LW.val hL rfl (Wants.free rfl) rfl (boxE hb_b4 hw_w6 (Vl.alloc (z := .agg #[.int .i64 0, .int .i64 0, .int .i64 0, .slice none 0 0, .slice none 0 0]) (by kernel_rfl))) ?_
    replace hB := Boxes.alloc (cs := [.int .i64 0, .int .i64 0, .int .i64 0, .slice none 0 0, .slice none 0 0]) (T := 36) hB hb_b4 hw_w6
    have hlo_b4 := sil_lo (Chg.refl [] w5) hb_b4
    have hc_w6 := sil_alloc (Chg.refl [] w5) hw_w6
    obtain ⟨w7, hw_w7⟩ : ∃ x, x = setCells w6 (⟨b4, 0, none⟩ : Addr) 0 [.int .i64 r8, .int .i64 r9, .int .i64 r10, .slice r11 r11n r11c, .slice r12 r12n r12c] := ⟨_, rfl⟩
    refine LW.eff hL rfl (Wants.free rfl) rfl (stNE hw_w7 (Ef.stN (cs := [.int .i64 r8, .int .i64 r9, .int .i64 r10, .slice r11 r11n r11c, .slice r12 r12n r12c]) rfl rfl (by kernel_rfl) (List.forall_mem_cons.2 ⟨rfl, (List.forall_mem_cons.2 ⟨rfl, (List.forall_mem_cons.2 ⟨rfl, (List.forall_mem_cons.2 ⟨rfl, (List.forall_mem_cons.2 ⟨rfl, (List.forall_mem_nil _)⟩)⟩)⟩)⟩)⟩) (has_of (hB.at (i := 0) rfl) (by simp)) (free_of' (hB.at (i := 0) rfl)))) ?_
    replace hB : Boxes w7 [(b4, [.int .i64 r8, .int .i64 r9, .int .i64 r10, .slice r11 r11n r11c, .slice r12 r12n r12c], 36), (b3, [.int .i64 0, .int .i64 0, .int .i64 0, .slice none 0 0, .slice none 0 0], 36), (b2, [.int .i64 a1, .int .i64 a2, .int .i64 a3, .int .i64 a4, .int .u32 a5, .slice a6 a6n a6c], 58), (b1, [.int .i64 g1, .int .i64 g2, .int .i64 g3, .slice g4 g4n g4c, .slice g5 g5n g5c], 36)] := Boxes.store (vs := [.int .i64 r8, .int .i64 r9, .int .i64 r10, .slice r11 r11n r11c, .slice r12 r12n r12c]) (i := 0) (o := 0) hB rfl rfl rfl rfl hw_w7
    have hc_w7 := sil_new hc_w6 (sil_cN hw_w7) hlo_b4
    refine LW.rd hL rfl (Wants.free rfl) rfl (Rd.assign (v := .int .i64 r13) rfl) ?_
    refine LW.nil hL rfl ?_
    refine NW.then ?_
    refine CW.seq ?_
    refine CW.region fun L hL => ?_
    refine LW.rd hL rfl (Wants.free rfl) rfl (Rd.ldN (cs := [.int .i64 r8, .int .i64 r9, .int .i64 r10, .slice r11 r11n r11c, .slice r12 r12n r12c]) rfl (by kernel_rfl) (by kernel_rfl) (cellsS (box_cells (hB.at (i := 0) rfl) rfl))) ?_
    refine LW.rd hL rfl (Wants.free rfl) rfl (Rd.move (v := .int .i64 r7) rfl) ?_
    refine LW.rd hL rfl (Wants.free rfl) rfl (Rd.move (v := .int .i64 r13) rfl) ?_
    refine LW.rd hL rfl (Wants.free rfl) rfl (Rd.bin (v := .bool (r7 == r13)) rfl rfl (fun w => by kernel_rfl)) ?_
    obtain ⟨w8, hw_w8⟩ : ∃ x, x = setCells w7 (⟨b3, 0, none⟩ : Addr) 0 [.int .i64 r8, .int .i64 r9, .int .i64 r10, .slice r11 r11n r11c, .slice r12 r12n r12c] := ⟨_, rfl⟩
    refine LW.eff hL rfl (Wants.free rfl) rfl (stNE hw_w8 (Ef.stN (cs := [.int .i64 r8, .int .i64 r9, .int .i64 r10, .slice r11 r11n r11c, .slice r12 r12n r12c]) rfl rfl (by kernel_rfl) (List.forall_mem_cons.2 ⟨rfl, (List.forall_mem_cons.2 ⟨rfl, (List.forall_mem_cons.2 ⟨rfl, (List.forall_mem_cons.2 ⟨rfl, (List.forall_mem_cons.2 ⟨rfl, (List.forall_mem_nil _)⟩)⟩)⟩)⟩)⟩) (has_of (hB.at (i := 1) rfl) (by simp)) (free_of' (hB.at (i := 1) rfl)))) ?_
    replace hB : Boxes w8 [(b4, [.int .i64 r8, .int .i64 r9, .int .i64 r10, .slice r11 r11n r11c, .slice r12 r12n r12c], 36), (b3, [.int .i64 r8, .int .i64 r9, .int .i64 r10, .slice r11 r11n r11c, .slice r12 r12n r12c], 36), (b2, [.int .i64 a1, .int .i64 a2, .int .i64 a3, .int .i64 a4, .int .u32 a5, .slice a6 a6n a6c], 58), (b1, [.int .i64 g1, .int .i64 g2, .int .i64 g3, .slice g4 g4n g4c, .slice g5 g5n g5c], 36)] := Boxes.store (vs := [.int .i64 r8, .int .i64 r9, .int .i64 r10, .slice r11 r11n r11c, .slice r12 r12n r12c]) (i := 1) (o := 0) hB rfl rfl rfl rfl hw_w8
    have hc_w8 : Chg [b3] w5 w8 := sil_more hc_w7 (sil_cN hw_w8)
    refine LW.rd hL rfl (Wants.free rfl) rfl (Rd.assign (v := .bool (r7 == r13)) rfl) ?_
    refine LW.nil hL rfl ?_
    refine NW.then ?_
    replace h := h b4 w8 ⟨hlo_b4, lt_of_heap (hB.at (i := 0) rfl)⟩ hc_w8
    refine CW.ret ?_
    refine RW.then ?_
    exact resN (vs := [.agg #[.int .i64 r8, .int .i64 r9, .int .i64 r10, .slice r11 r11n r11c, .slice r12 r12n r12c], .bool (r7 == r13)]) (ResOK.c rfl (lvN (cs := [.int .i64 r8, .int .i64 r9, .int .i64 r10, .slice r11 r11n r11c, .slice r12 r12n r12c]) (by kernel_rfl) (by kernel_rfl) (cellsAt_get (box_cells (hB.at (i := 1) rfl) rfl))) (ResOK.t rfl ResOK.nil)) rfl ⟨r8, r9, r10, r11, r11n, r11c, r12, r12n, r12c, r7 == r13, rfl, h⟩
  · replace h := h.2 hb1
    refine CW.skip ?_
    refine NW.then ?_
    refine CW.seq ?_
    refine CW.region fun L hL => ?_
    refine LW.rd hL rfl (Wants.free rfl) rfl (Rd.move (v := .pointer f1) rfl) ?_
    refine LW.rd hL rfl (Wants.free rfl) rfl (Rd.fa (v := .pointer (some (⟨b2, 5, none⟩ : Addr))) rfl (fun _ => by kernel_rfl)) ?_
    refine LW.rd hL rfl (Wants.free rfl) rfl (Rd.ld (v := .slice a6 a6n a6c) rfl (by kernel_rfl) (eqs (box_cell (hB.at (i := 1) rfl) rfl))) ?_
    refine LW.call hL rfl (Wants.free rfl) rfl (Cl.fn (f := 65) rfl Try.func65 (by kernel_rfl) rfl) h (fun e w9 h_ => ?_)
    clear h
    obtain ⟨r14, r15, rfl, h⟩ := h_
    obtain ⟨hsm3, h⟩ := h
    replace hB := Boxes.same hB (by exact hsm3)
    refine ⟨_, rfl, ?_⟩
    refine LW.rd hL rfl (Wants.free rfl) rfl (Rd.move (v := .tuple #[.int .u32 r14, .int .i64 r15]) rfl) ?_
    refine LW.rd hL rfl (Wants.free rfl) rfl (Rd.extract (v := .int .u32 r14) rfl rfl) ?_
    refine LW.rd hL rfl (Wants.free rfl) rfl (Rd.extract (v := .int .i64 r15) rfl rfl) ?_
    refine LW.rd hL rfl (Wants.free rfl) rfl (Rd.assign (v := .int .u32 r14) rfl) ?_
    refine LW.rd hL rfl (Wants.free rfl) rfl (Rd.assign (v := .int .i64 r15) rfl) ?_
    refine LW.nil hL rfl ?_
    refine NW.then ?_
    refine CW.seq ?_
    refine CW.region fun L hL => ?_
    refine LW.rd hL rfl (Wants.free rfl) rfl (Rd.ldN (cs := [.int .i64 g1, .int .i64 g2, .int .i64 g3, .slice g4 g4n g4c, .slice g5 g5n g5c]) rfl (by kernel_rfl) (by kernel_rfl) (cellsS (box_cells (hB.at (i := 2) rfl) rfl))) ?_
    refine LW.rd hL rfl (Wants.free rfl) rfl (Rd.fa (v := .pointer (some (⟨b2, 5, none⟩ : Addr))) rfl (fun _ => by kernel_rfl)) ?_
    refine LW.rd hL rfl (Wants.free rfl) rfl (Rd.ld (v := .slice a6 a6n a6c) rfl (by kernel_rfl) (eqs (box_cell (hB.at (i := 1) rfl) rfl))) ?_
    refine LW.call hL rfl (Wants.free rfl) rfl (Cl.fn (f := 70) rfl Try.func70 (by kernel_rfl) rfl) h (fun e w10 h_ => ?_)
    clear h
    obtain ⟨r16, rfl, h⟩ := h_
    obtain ⟨hsm4, h⟩ := h
    replace hB := Boxes.same hB (by exact hsm4)
    refine ⟨_, rfl, ?_⟩
    refine LW.rd hL rfl (Wants.free rfl) rfl (Rd.assign (v := .bool r16) rfl) ?_
    refine LW.nil hL rfl ?_
    refine NW.then ?_
    refine CW.seq ?_
    refine CW.seq ?_
    refine CW.region fun L hL => ?_
    refine LW.rd hL rfl (Wants.free rfl) rfl (Rd.move (v := .int .i64 r15) rfl) ?_
    refine LW.rd hL rfl (Wants.free rfl) rfl (Rd.bin (v := .bool (r15 == 0)) rfl rfl (fun w => by kernel_rfl)) ?_
    refine LW.rd hL rfl (Wants.free rfl) rfl (Rd.move (v := .bool r16) rfl) ?_
    refine LW.rd hL rfl (Wants.free rfl) rfl (Rd.bin (v := .bool (!((r15 == 0) == r16))) rfl rfl (fun w => by kernel_rfl)) ?_
    refine LW.rd hL rfl (Wants.free rfl) rfl (Rd.move (v := .bool (!((r15 == 0) == r16))) rfl) ?_
    obtain ⟨J1, hJ1, h1_J1, h0_J1⟩ := h
    suffices K1 : ∀ (b5 : Bool) (w11 : World), Boxes w11 [(b3, [.int .i64 0, .int .i64 0, .int .i64 0, .slice none 0 0, .slice none 0 0], 36), (b2, [.int .i64 a1, .int .i64 a2, .int .i64 a3, .int .i64 a4, .int .u32 a5, .slice a6 a6n a6c], 58), (b1, [.int .i64 g1, .int .i64 g2, .int .i64 g3, .slice g4 g4n g4c, .slice g5 g5n g5c], 36)] → J1 b5 w11 → L 15 [(0, .pointer f1), (4, .pointer (some (⟨b1, 0, none⟩ : Addr))), (5, .pointer (some (⟨b2, 0, none⟩ : Addr))), (6, .pointer (some (⟨b3, 0, none⟩ : Addr))), (7, .bool false), (11, .int .u32 r14), (12, .int .i64 r15), (13, .bool r16), (68, .bool b5)] w11 by
      rcases Bool.eq_false_or_eq_true (!((r15 == 0) == r16)) with hb2 | hb2
      · have h := h0_J1 hb2
        refine LW.skip hL rfl (Skips.on rfl rfl rfl rfl rfl hb2) rfl ?_
        refine LW.skip hL rfl (Skips.on rfl rfl rfl rfl rfl hb2) rfl ?_
        refine LW.skip hL rfl (Skips.un rfl rfl rfl rfl rfl) rfl ?_
        refine LW.skip hL rfl (Skips.un rfl rfl rfl rfl rfl) rfl ?_
        refine LW.skip hL rfl (Skips.un rfl rfl rfl rfl rfl) rfl ?_
        refine LW.skip hL rfl (Skips.un rfl rfl rfl rfl rfl) rfl ?_
        refine LW.skip hL rfl (Skips.un rfl rfl rfl rfl rfl) rfl ?_
        refine LW.skip hL rfl (Skips.un rfl rfl rfl rfl rfl) rfl ?_
        refine LW.skip hL rfl (Skips.on rfl rfl rfl rfl rfl hb2) rfl ?_
        refine LW.rd hL rfl (Wants.free rfl) rfl (Rd.pickT rfl hb2 rfl) ?_
        exact LW.sub hL (by exact ⟨rfl, rfl, rfl, rfl, rfl, rfl, rfl, rfl, rfl, trivial⟩) (K1 true w10 (by exact hB) h)
      · have h := h1_J1 hb2
        refine LW.rd hL rfl (Wants.on rfl rfl rfl rfl rfl hb2) rfl (Rd.move (v := .bool r16) rfl) ?_
        refine LW.rd hL rfl (Wants.on rfl rfl rfl rfl rfl hb2) rfl (Rd.move (v := .bool r16) rfl) ?_
        obtain ⟨J2, hJ2, h1_J2, h0_J2⟩ := h
        suffices K2 : ∀ (b6 : Bool) (w12 : World), Boxes w12 [(b3, [.int .i64 0, .int .i64 0, .int .i64 0, .slice none 0 0, .slice none 0 0], 36), (b2, [.int .i64 a1, .int .i64 a2, .int .i64 a3, .int .i64 a4, .int .u32 a5, .slice a6 a6n a6c], 58), (b1, [.int .i64 g1, .int .i64 g2, .int .i64 g3, .slice g4 g4n g4c, .slice g5 g5n g5c], 36)] → J2 b6 w12 → L 14 [(0, .pointer f1), (4, .pointer (some (⟨b1, 0, none⟩ : Addr))), (5, .pointer (some (⟨b2, 0, none⟩ : Addr))), (6, .pointer (some (⟨b3, 0, none⟩ : Addr))), (7, .bool false), (11, .int .u32 r14), (12, .int .i64 r15), (13, .bool r16), (58, .bool (!((r15 == 0) == r16))), (67, .bool b6)] w12 by
          rcases Bool.eq_false_or_eq_true r16 with hb3 | hb3
          · have h := h1_J2 hb3
            refine LW.rd hL rfl (Wants.on rfl rfl rfl rfl rfl hb3) rfl (Rd.move (v := .int .u32 r14) rfl) ?_
            refine LW.rd hL rfl (Wants.on rfl rfl rfl rfl rfl hb3) rfl (Rd.ldN (cs := [.int .i64 g1, .int .i64 g2, .int .i64 g3, .slice g4 g4n g4c, .slice g5 g5n g5c]) rfl (by kernel_rfl) (by kernel_rfl) (cellsS (box_cells (hB.at (i := 2) rfl) rfl))) ?_
            refine LW.rd hL rfl (Wants.on rfl rfl rfl rfl rfl hb3) rfl (Rd.fa (v := .pointer (some (⟨b2, 5, none⟩ : Addr))) rfl (fun _ => by kernel_rfl)) ?_
            refine LW.rd hL rfl (Wants.on rfl rfl rfl rfl rfl hb3) rfl (Rd.ld (v := .slice a6 a6n a6c) rfl (by kernel_rfl) (eqs (box_cell (hB.at (i := 1) rfl) rfl))) ?_
            refine LW.call hL rfl (Wants.on rfl rfl rfl rfl rfl hb3) rfl (Cl.fn (f := 71) rfl Try.func71 (by kernel_rfl) rfl) h (fun e w13 h_ => ?_)
            clear h
            obtain ⟨r17, rfl, h⟩ := h_
            obtain ⟨hsm5, h⟩ := h
            replace hB := Boxes.same hB (by exact hsm5)
            refine ⟨_, rfl, ?_⟩
            refine LW.rd hL rfl (Wants.on rfl rfl rfl rfl rfl hb3) rfl (Rd.bin (v := .bool (!(r14 == r17))) rfl rfl (fun w => by kernel_rfl)) ?_
            refine LW.rd hL rfl (Wants.on rfl rfl rfl rfl rfl hb2) rfl (Rd.pickT rfl hb3 rfl) ?_
            exact LW.sub hL (by exact ⟨rfl, rfl, rfl, rfl, rfl, rfl, rfl, rfl, rfl, rfl, trivial⟩) (K2 (!(r14 == r17)) w13 (by exact hB) h)
          · have h := h0_J2 hb3
            refine LW.skip hL rfl (Skips.on rfl rfl rfl rfl rfl hb3) rfl ?_
            refine LW.skip hL rfl (Skips.on rfl rfl rfl rfl rfl hb3) rfl ?_
            refine LW.skip hL rfl (Skips.on rfl rfl rfl rfl rfl hb3) rfl ?_
            refine LW.skip hL rfl (Skips.on rfl rfl rfl rfl rfl hb3) rfl ?_
            refine LW.skip hL rfl (Skips.on rfl rfl rfl rfl rfl hb3) rfl ?_
            refine LW.skip hL rfl (Skips.on rfl rfl rfl rfl rfl hb3) rfl ?_
            refine LW.rd hL rfl (Wants.on rfl rfl rfl rfl rfl hb2) rfl (Rd.pickF rfl hb3 rfl) ?_
            exact LW.sub hL (by exact ⟨rfl, rfl, rfl, rfl, rfl, rfl, rfl, rfl, rfl, rfl, trivial⟩) (K2 false w10 (by exact hB) h)
        intro b6 w12 hB h_
        have h := hJ2 b6 w12 h_; clear h_
        refine LW.rd hL rfl (Wants.free rfl) rfl (Rd.pickF rfl hb2 rfl) ?_
        exact LW.sub hL (by exact ⟨rfl, rfl, rfl, rfl, rfl, rfl, rfl, rfl, rfl, trivial⟩) (K1 b6 w12 (by exact hB) h)
    intro b5 w11 hB h_
    have h := hJ1 b5 w11 h_; clear h_
    refine LW.rd hL rfl (Wants.free rfl) rfl (Rd.move (v := .bool b5) rfl) ?_
    suffices K3 : L 27 [(0, .pointer f1), (4, .pointer (some (⟨b1, 0, none⟩ : Addr))), (5, .pointer (some (⟨b2, 0, none⟩ : Addr))), (6, .pointer (some (⟨b3, 0, none⟩ : Addr))), (7, .bool false), (80, .bool (b5 || (!r16 && (!(r14 == 0) || !(r15 == 2)))))] w11 by
      rcases Bool.eq_false_or_eq_true b5 with hb5 | hb5
      · skip
        refine LW.skip hL rfl (Skips.on rfl rfl rfl rfl rfl hb5) rfl ?_
        refine LW.skip hL rfl (Skips.on rfl rfl rfl rfl rfl hb5) rfl ?_
        refine LW.skip hL rfl (Skips.on rfl rfl rfl rfl rfl hb5) rfl ?_
        refine LW.skip hL rfl (Skips.un rfl rfl rfl rfl rfl) rfl ?_
        refine LW.skip hL rfl (Skips.un rfl rfl rfl rfl rfl) rfl ?_
        refine LW.skip hL rfl (Skips.un rfl rfl rfl rfl rfl) rfl ?_
        refine LW.skip hL rfl (Skips.un rfl rfl rfl rfl rfl) rfl ?_
        refine LW.skip hL rfl (Skips.un rfl rfl rfl rfl rfl) rfl ?_
        refine LW.skip hL rfl (Skips.un rfl rfl rfl rfl rfl) rfl ?_
        refine LW.skip hL rfl (Skips.on rfl rfl rfl rfl rfl hb5) rfl ?_
        refine LW.rd hL rfl (Wants.free rfl) rfl (Rd.pickT rfl hb5 rfl) ?_
        exact LW.sub hL (by exact ⟨rfl, rfl, rfl, rfl, rfl, (by rw [hb5]; rfl), trivial⟩) K3
      · skip
        refine LW.rd hL rfl (Wants.on rfl rfl rfl rfl rfl hb5) rfl (Rd.move (v := .bool r16) rfl) ?_
        refine LW.rd hL rfl (Wants.on rfl rfl rfl rfl rfl hb5) rfl (Rd.un (v := .bool (!r16)) rfl (fun _ => by kernel_rfl)) ?_
        refine LW.rd hL rfl (Wants.on rfl rfl rfl rfl rfl hb5) rfl (Rd.move (v := .bool (!r16)) rfl) ?_
        suffices K4 : L 26 [(0, .pointer f1), (4, .pointer (some (⟨b1, 0, none⟩ : Addr))), (5, .pointer (some (⟨b2, 0, none⟩ : Addr))), (6, .pointer (some (⟨b3, 0, none⟩ : Addr))), (7, .bool false), (69, .bool b5), (79, .bool (!r16 && (!(r14 == 0) || !(r15 == 2))))] w11 by
          rcases Bool.eq_false_or_eq_true (!r16) with hb7 | hb7
          · skip
            refine LW.rd hL rfl (Wants.on rfl rfl rfl rfl rfl hb7) rfl (Rd.move (v := .int .u32 r14) rfl) ?_
            refine LW.rd hL rfl (Wants.on rfl rfl rfl rfl rfl hb7) rfl (Rd.bin (v := .bool (!(r14 == 0))) rfl rfl (fun w => by kernel_rfl)) ?_
            refine LW.rd hL rfl (Wants.on rfl rfl rfl rfl rfl hb7) rfl (Rd.move (v := .bool (!(r14 == 0))) rfl) ?_
            suffices K5 : L 25 [(0, .pointer f1), (4, .pointer (some (⟨b1, 0, none⟩ : Addr))), (5, .pointer (some (⟨b2, 0, none⟩ : Addr))), (6, .pointer (some (⟨b3, 0, none⟩ : Addr))), (7, .bool false), (69, .bool b5), (72, .bool (!r16)), (78, .bool (!(r14 == 0) || !(r15 == 2)))] w11 by
              rcases Bool.eq_false_or_eq_true (!(r14 == 0)) with hb9 | hb9
              · skip
                refine LW.skip hL rfl (Skips.on rfl rfl rfl rfl rfl hb9) rfl ?_
                refine LW.skip hL rfl (Skips.on rfl rfl rfl rfl rfl hb9) rfl ?_
                refine LW.rd hL rfl (Wants.on rfl rfl rfl rfl rfl hb7) rfl (Rd.pickT rfl hb9 rfl) ?_
                exact LW.sub hL (by exact ⟨rfl, rfl, rfl, rfl, rfl, rfl, rfl, (by rw [hb9]; rfl), trivial⟩) K5
              · skip
                refine LW.rd hL rfl (Wants.on rfl rfl rfl rfl rfl hb9) rfl (Rd.move (v := .int .i64 r15) rfl) ?_
                refine LW.rd hL rfl (Wants.on rfl rfl rfl rfl rfl hb9) rfl (Rd.bin (v := .bool (!(r15 == 2))) rfl rfl (fun w => by kernel_rfl)) ?_
                refine LW.rd hL rfl (Wants.on rfl rfl rfl rfl rfl hb7) rfl (Rd.pickF rfl hb9 rfl) ?_
                exact LW.sub hL (by exact ⟨rfl, rfl, rfl, rfl, rfl, rfl, rfl, (by rw [hb9]; rfl), trivial⟩) K5
            refine LW.rd hL rfl (Wants.on rfl rfl rfl rfl rfl hb5) rfl (Rd.pickT rfl hb7 rfl) ?_
            exact LW.sub hL (by exact ⟨rfl, rfl, rfl, rfl, rfl, rfl, (by rw [hb7]; rfl), trivial⟩) K4
          · skip
            refine LW.skip hL rfl (Skips.on rfl rfl rfl rfl rfl hb7) rfl ?_
            refine LW.skip hL rfl (Skips.on rfl rfl rfl rfl rfl hb7) rfl ?_
            refine LW.skip hL rfl (Skips.on rfl rfl rfl rfl rfl hb7) rfl ?_
            refine LW.skip hL rfl (Skips.un rfl rfl rfl rfl rfl) rfl ?_
            refine LW.skip hL rfl (Skips.un rfl rfl rfl rfl rfl) rfl ?_
            refine LW.skip hL rfl (Skips.on rfl rfl rfl rfl rfl hb7) rfl ?_
            refine LW.rd hL rfl (Wants.on rfl rfl rfl rfl rfl hb5) rfl (Rd.pickF rfl hb7 rfl) ?_
            exact LW.sub hL (by exact ⟨rfl, rfl, rfl, rfl, rfl, rfl, (by rw [hb7]; rfl), trivial⟩) K4
        refine LW.rd hL rfl (Wants.free rfl) rfl (Rd.pickF rfl hb5 rfl) ?_
        exact LW.sub hL (by exact ⟨rfl, rfl, rfl, rfl, rfl, (by rw [hb5]; rfl), trivial⟩) K3
    refine LW.nil hL rfl ?_
    refine NW.then ?_
    refine CW.cond rfl (fun hb10 => ?_) (fun hb10 => ?_)
    · replace h := h.1 hb10
      refine CW.seq ?_
      refine CW.region fun L hL => ?_
      refine LW.rd hL rfl (Wants.free rfl) rfl (Rd.ldN (cs := [.int .i64 g1, .int .i64 g2, .int .i64 g3, .slice g4 g4n g4c, .slice g5 g5n g5c]) rfl (by kernel_rfl) (by kernel_rfl) (cellsS (box_cells (hB.at (i := 2) rfl) rfl))) ?_
      obtain ⟨w14, hw_w14⟩ : ∃ x, x = setCells w11 (⟨b3, 0, none⟩ : Addr) 0 [.int .i64 g1, .int .i64 g2, .int .i64 g3, .slice g4 g4n g4c, .slice g5 g5n g5c] := ⟨_, rfl⟩
      refine LW.eff hL rfl (Wants.free rfl) rfl (stNE hw_w14 (Ef.stN (cs := [.int .i64 g1, .int .i64 g2, .int .i64 g3, .slice g4 g4n g4c, .slice g5 g5n g5c]) rfl rfl (by kernel_rfl) (List.forall_mem_cons.2 ⟨rfl, (List.forall_mem_cons.2 ⟨rfl, (List.forall_mem_cons.2 ⟨rfl, (List.forall_mem_cons.2 ⟨rfl, (List.forall_mem_cons.2 ⟨rfl, (List.forall_mem_nil _)⟩)⟩)⟩)⟩)⟩) (has_of (hB.at (i := 0) rfl) (by simp)) (free_of' (hB.at (i := 0) rfl)))) ?_
      replace hB : Boxes w14 [(b3, [.int .i64 g1, .int .i64 g2, .int .i64 g3, .slice g4 g4n g4c, .slice g5 g5n g5c], 36), (b2, [.int .i64 a1, .int .i64 a2, .int .i64 a3, .int .i64 a4, .int .u32 a5, .slice a6 a6n a6c], 58), (b1, [.int .i64 g1, .int .i64 g2, .int .i64 g3, .slice g4 g4n g4c, .slice g5 g5n g5c], 36)] := Boxes.store (vs := [.int .i64 g1, .int .i64 g2, .int .i64 g3, .slice g4 g4n g4c, .slice g5 g5n g5c]) (i := 0) (o := 0) hB rfl rfl rfl rfl hw_w14
      have hc_w14 : Chg [b3] w11 w14 := sil_more (Chg.refl [] w11) (sil_cN hw_w14)
      refine LW.rd hL rfl (Wants.free rfl) rfl (Rd.assign (v := .bool false) rfl) ?_
      refine LW.nil hL rfl ?_
      refine NW.then ?_
      replace h := h  w14  hc_w14
      refine CW.ret ?_
      refine RW.then ?_
      exact resN (vs := [.agg #[.int .i64 g1, .int .i64 g2, .int .i64 g3, .slice g4 g4n g4c, .slice g5 g5n g5c], .bool false]) (ResOK.c rfl (lvN (cs := [.int .i64 g1, .int .i64 g2, .int .i64 g3, .slice g4 g4n g4c, .slice g5 g5n g5c]) (by kernel_rfl) (by kernel_rfl) (cellsAt_get (box_cells (hB.at (i := 0) rfl) rfl))) (ResOK.t rfl ResOK.nil)) rfl ⟨g1, g2, g3, g4, g4n, g4c, g5, g5n, g5c, false, rfl, h⟩
    · replace h := h.2 hb10
      refine CW.skip ?_
      refine NW.then ?_
      refine CW.seq ?_
      refine CW.region fun L hL => ?_
      refine LW.rd hL rfl (Wants.free rfl) rfl (Rd.move (v := .pointer f1) rfl) ?_
      refine LW.rd hL rfl (Wants.free rfl) rfl (Rd.fa (v := .pointer (some (⟨b2, 5, none⟩ : Addr))) rfl (fun _ => by kernel_rfl)) ?_
      refine LW.rd hL rfl (Wants.free rfl) rfl (Rd.ld (v := .slice a6 a6n a6c) rfl (by kernel_rfl) (eqs (box_cell (hB.at (i := 1) rfl) rfl))) ?_
      refine LW.call hL rfl (Wants.free rfl) rfl (Cl.fn (f := 38) rfl Try.func38 (by kernel_rfl) rfl) h (fun e w15 h_ => ?_)
      clear h
      obtain ⟨r18, rfl, h⟩ := h_
      obtain ⟨hsm6, h⟩ := h
      replace hB := Boxes.same hB (by exact hsm6)
      refine ⟨_, rfl, ?_⟩
      refine LW.rd hL rfl (Wants.free rfl) rfl (Rd.assign (v := .int .i64 r18) rfl) ?_
      refine LW.nil hL rfl ?_
      refine NW.then ?_
      refine CW.seq ?_
      refine CW.region fun L hL => ?_
      refine LW.rd hL rfl (Wants.free rfl) rfl (Rd.ldN (cs := [.int .i64 g1, .int .i64 g2, .int .i64 g3, .slice g4 g4n g4c, .slice g5 g5n g5c]) rfl (by kernel_rfl) (by kernel_rfl) (cellsS (box_cells (hB.at (i := 2) rfl) rfl))) ?_
      refine LW.rd hL rfl (Wants.free rfl) rfl (Rd.fa (v := .pointer (some (⟨b2, 5, none⟩ : Addr))) rfl (fun _ => by kernel_rfl)) ?_
      refine LW.rd hL rfl (Wants.free rfl) rfl (Rd.ld (v := .slice a6 a6n a6c) rfl (by kernel_rfl) (eqs (box_cell (hB.at (i := 1) rfl) rfl))) ?_
      refine LW.call hL rfl (Wants.free rfl) rfl (Cl.fn (f := 72) rfl Try.func72 (by kernel_rfl) rfl) h (fun e w16 h_ => ?_)
      clear h
      obtain ⟨r19, r20, r21, r22, r22n, r22c, r23, r23n, r23c, r24, rfl, h⟩ := h_
      obtain ⟨hsm7, h⟩ := h
      replace hB := Boxes.same (hB.sel [0] (by decide) rfl) (by exact hsm7)
      refine ⟨_, rfl, ?_⟩
      refine LW.rd hL rfl (Wants.free rfl) rfl (Rd.move (v := .tuple #[.agg #[.int .i64 r19, .int .i64 r20, .int .i64 r21, .slice r22 r22n r22c, .slice r23 r23n r23c], .int .i64 r24]) rfl) ?_
      refine LW.rd hL rfl (Wants.free rfl) rfl (Rd.extract (v := .agg #[.int .i64 r19, .int .i64 r20, .int .i64 r21, .slice r22 r22n r22c, .slice r23 r23n r23c]) rfl rfl) ?_
      refine LW.rd hL rfl (Wants.free rfl) rfl (Rd.extract (v := .int .i64 r24) rfl rfl) ?_
      obtain ⟨b7, hb_b7⟩ : ∃ b7, b7 = World.size w16 := ⟨_, rfl⟩
      obtain ⟨w17, hw_w17⟩ : ∃ w17, w17 = World.alloc w16 (.cells #[.int .i64 0, .int .i64 0, .int .i64 0, .slice none 0 0, .slice none 0 0] 36) := ⟨_, rfl⟩
      refine LW.val hL rfl (Wants.free rfl) rfl (boxE hb_b7 hw_w17 (Vl.alloc (z := .agg #[.int .i64 0, .int .i64 0, .int .i64 0, .slice none 0 0, .slice none 0 0]) (by kernel_rfl))) ?_
      replace hB := Boxes.alloc (cs := [.int .i64 0, .int .i64 0, .int .i64 0, .slice none 0 0, .slice none 0 0]) (T := 36) hB hb_b7 hw_w17
      have hlo_b7 := sil_lo (Chg.refl [] w16) hb_b7
      have hc_w17 := sil_alloc (Chg.refl [] w16) hw_w17
      obtain ⟨w18, hw_w18⟩ : ∃ x, x = setCells w17 (⟨b7, 0, none⟩ : Addr) 0 [.int .i64 r19, .int .i64 r20, .int .i64 r21, .slice r22 r22n r22c, .slice r23 r23n r23c] := ⟨_, rfl⟩
      refine LW.eff hL rfl (Wants.free rfl) rfl (stNE hw_w18 (Ef.stN (cs := [.int .i64 r19, .int .i64 r20, .int .i64 r21, .slice r22 r22n r22c, .slice r23 r23n r23c]) rfl rfl (by kernel_rfl) (List.forall_mem_cons.2 ⟨rfl, (List.forall_mem_cons.2 ⟨rfl, (List.forall_mem_cons.2 ⟨rfl, (List.forall_mem_cons.2 ⟨rfl, (List.forall_mem_cons.2 ⟨rfl, (List.forall_mem_nil _)⟩)⟩)⟩)⟩)⟩) (has_of (hB.at (i := 0) rfl) (by simp)) (free_of' (hB.at (i := 0) rfl)))) ?_
      replace hB : Boxes w18 [(b7, [.int .i64 r19, .int .i64 r20, .int .i64 r21, .slice r22 r22n r22c, .slice r23 r23n r23c], 36), (b3, [.int .i64 0, .int .i64 0, .int .i64 0, .slice none 0 0, .slice none 0 0], 36)] := Boxes.store (vs := [.int .i64 r19, .int .i64 r20, .int .i64 r21, .slice r22 r22n r22c, .slice r23 r23n r23c]) (i := 0) (o := 0) hB rfl rfl rfl rfl hw_w18
      have hc_w18 := sil_new hc_w17 (sil_cN hw_w18) hlo_b7
      refine LW.rd hL rfl (Wants.free rfl) rfl (Rd.assign (v := .int .i64 r24) rfl) ?_
      refine LW.nil hL rfl ?_
      refine NW.then ?_
      refine CW.seq ?_
      refine CW.region fun L hL => ?_
      refine LW.rd hL rfl (Wants.free rfl) rfl (Rd.ldN (cs := [.int .i64 r19, .int .i64 r20, .int .i64 r21, .slice r22 r22n r22c, .slice r23 r23n r23c]) rfl (by kernel_rfl) (by kernel_rfl) (cellsS (box_cells (hB.at (i := 0) rfl) rfl))) ?_
      refine LW.rd hL rfl (Wants.free rfl) rfl (Rd.move (v := .int .i64 r18) rfl) ?_
      refine LW.rd hL rfl (Wants.free rfl) rfl (Rd.move (v := .int .i64 r24) rfl) ?_
      refine LW.rd hL rfl (Wants.free rfl) rfl (Rd.bin (v := .bool (r18 == r24)) rfl rfl (fun w => by kernel_rfl)) ?_
      obtain ⟨w19, hw_w19⟩ : ∃ x, x = setCells w18 (⟨b3, 0, none⟩ : Addr) 0 [.int .i64 r19, .int .i64 r20, .int .i64 r21, .slice r22 r22n r22c, .slice r23 r23n r23c] := ⟨_, rfl⟩
      refine LW.eff hL rfl (Wants.free rfl) rfl (stNE hw_w19 (Ef.stN (cs := [.int .i64 r19, .int .i64 r20, .int .i64 r21, .slice r22 r22n r22c, .slice r23 r23n r23c]) rfl rfl (by kernel_rfl) (List.forall_mem_cons.2 ⟨rfl, (List.forall_mem_cons.2 ⟨rfl, (List.forall_mem_cons.2 ⟨rfl, (List.forall_mem_cons.2 ⟨rfl, (List.forall_mem_cons.2 ⟨rfl, (List.forall_mem_nil _)⟩)⟩)⟩)⟩)⟩) (has_of (hB.at (i := 1) rfl) (by simp)) (free_of' (hB.at (i := 1) rfl)))) ?_
      replace hB : Boxes w19 [(b7, [.int .i64 r19, .int .i64 r20, .int .i64 r21, .slice r22 r22n r22c, .slice r23 r23n r23c], 36), (b3, [.int .i64 r19, .int .i64 r20, .int .i64 r21, .slice r22 r22n r22c, .slice r23 r23n r23c], 36)] := Boxes.store (vs := [.int .i64 r19, .int .i64 r20, .int .i64 r21, .slice r22 r22n r22c, .slice r23 r23n r23c]) (i := 1) (o := 0) hB rfl rfl rfl rfl hw_w19
      have hc_w19 : Chg [b3] w16 w19 := sil_more hc_w18 (sil_cN hw_w19)
      refine LW.rd hL rfl (Wants.free rfl) rfl (Rd.assign (v := .bool (r18 == r24)) rfl) ?_
      refine LW.nil hL rfl ?_
      refine NW.then ?_
      replace h := h b7 w19 ⟨hlo_b7, lt_of_heap (hB.at (i := 0) rfl)⟩ hc_w19
      refine CW.ret ?_
      exact resN (vs := [.agg #[.int .i64 r19, .int .i64 r20, .int .i64 r21, .slice r22 r22n r22c, .slice r23 r23n r23c], .bool (r18 == r24)]) (ResOK.c rfl (lvN (cs := [.int .i64 r19, .int .i64 r20, .int .i64 r21, .slice r22 r22n r22c, .slice r23 r23n r23c]) (by kernel_rfl) (by kernel_rfl) (cellsAt_get (box_cells (hB.at (i := 1) rfl) rfl))) (ResOK.t rfl ResOK.nil)) rfl ⟨r19, r20, r21, r22, r22n, r22c, r23, r23n, r23c, r18 == r24, rfl, h⟩

/- pomander/pomanderlaw12.FlowGets -/
def W_pomanderlaw12_FlowGets (l1 : Option Addr) (l1n : Nat) (l1c : Nat) (places1 : Option Addr) (places1n : Nat) (places1c : Nat) (w : World) (R : Bool → World → Prop) : Prop :=
  Calls Try.prog 23 #[.slice l1 l1n l1c] w fun e w1 => ∃ (r2 : Bool), e = .returned (.bool r2) ∧ (((r2 || decide ((places1n : Int) > 40)) = true → Calls Try.prog 24 #[] w1 fun e w2 => ∃ (r3 : Bool), e = .returned (.bool r3) ∧ (R r3 w2)) ∧ ((r2 || decide ((places1n : Int) > 40)) = false → ∀ (b1 : Nat) (w4 : World), (w1.heap.size ≤ b1 ∧ b1 < w4.heap.size) → Chg [] w1 w4 → (Calls Try.prog 25 #[.agg #[.int .i64 2, .int .i64 2], .int .i64 20] w4 fun e w5 => ∃ (r4 : Option Addr) (r5 : Int), e = .returned (.tuple #[.pointer r4, .int .i64 r5]) ∧ (Same w4 w5 [b1] ∧ (Calls Try.prog 26 #[.agg #[.int .i64 2, .int .i64 2], .int .i64 20] w5 fun e w6 => ∃ (r6 : Int) (r7 : Int) (r8 : Int) (r9 : Option Addr) (r9n : Nat) (r9c : Nat) (r10 : Option Addr) (r10n : Nat) (r10c : Nat), e = .returned (.agg #[.int .i64 r6, .int .i64 r7, .int .i64 r8, .slice r9 r9n r9c, .slice r10 r10n r10c]) ∧ (∀ (b2 : Nat) (w8 : World), (w6.heap.size ≤ b2 ∧ b2 < w8.heap.size) → Chg [] w6 w8 → (∃ (I1 : Bool → Int → Int → Int → Int → (Option Addr) → Nat → Nat → (Option Addr) → Nat → Nat → World → Prop) (m1 : Bool → Int → Int → Int → Int → (Option Addr) → Nat → Nat → (Option Addr) → Nat → Nat → World → Nat), I1 false 0 r6 r7 r8 r9 r9n r9c r10 r10n r10c w8 ∧ ∀ (x1 : Bool) (i1 : Int) (c1 : Int) (c2 : Int) (c3 : Int) (c4 : Option Addr) (c4n : Nat) (c4c : Nat) (c5 : Option Addr) (c5n : Nat) (c5c : Nat) (w9 : World), I1 x1 i1 c1 c2 c3 c4 c4n c4c c5 c5n c5c w9 → ((decide (i1 < (l1n : Int))) = true → ∀ (w10 : World), Chg [] w9 w10 → (∃ a1 : Addr, l1 = some a1 ∧ (0 : Int) ≤ i1 ∧ i1 < (l1n : Int) ∧ (∃ (t1 : Int) (t2 : Int) (t3 : Int) (t4 : Int) (t5 : Int) (t6 : Option Addr) (t6n : Nat) (t6c : Nat), CellsAt w10 (a1.add (Int.toNat i1 * 6)) 0 [.int .i64 t1, .int .i64 t2, .int .i64 t3, .int .i64 t4, .int .u32 t5, .slice t6 t6n t6c] ∧ (∃ J1 : Nat → Int → Int → Int → (Option Addr) → Nat → Nat → (Option Addr) → Nat → Nat → Bool → World → Prop, (∀ (b3 : Nat) (x2 : Int) (x3 : Int) (x4 : Int) (x5 : Option Addr) (x5n : Nat) (x5c : Nat) (x6 : Option Addr) (x6n : Nat) (x6c : Nat) (x7 : Bool) (w11 : World), J1 b3 x2 x3 x4 x5 x5n x5c x6 x6n x6c x7 w11 → ∀ (w16 : World), Chg [b3] w11 w16 → (((!x7) = true → R false w16) ∧ ((!x7) = false → ∀ (w17 : World), Chg [b2] w16 w17 → ((I1 x1 (IntKind.wrap .i64 (i1 + 1)) x2 x3 x4 x5 x5n x5c x6 x6n x6c w17 ∧ m1 x1 (IntKind.wrap .i64 (i1 + 1)) x2 x3 x4 x5 x5n x5c x6 x6n x6c w17 < m1 x1 i1 c1 c2 c3 c4 c4n c4c c5 c5n c5c w9))))) ∧ (Calls Try.prog 27 #[.pointer r4, .agg #[.int .i64 c1, .int .i64 c2, .int .i64 c3, .slice c4 c4n c4c, .slice c5 c5n c5c], .agg #[.int .i64 t1, .int .i64 t2, .int .i64 t3, .int .i64 t4, .int .u32 t5, .slice t6 t6n t6c]] w10 fun e w12 => ∃ (r11 : Int) (r12 : Int) (r13 : Int) (r14 : Option Addr) (r14n : Nat) (r14c : Nat) (r15 : Option Addr) (r15n : Nat) (r15c : Nat) (r16 : Bool), e = .returned (.tuple #[.agg #[.int .i64 r11, .int .i64 r12, .int .i64 r13, .slice r14 r14n r14c, .slice r15 r15n r15c], .bool r16]) ∧ ((CellsAt w12 (a1.add (Int.toNat i1 * 6)) 0 [.int .i64 t1, .int .i64 t2, .int .i64 t3, .int .i64 t4, .int .u32 t5, .slice t6 t6n t6c]) ∧ (Same w10 w12 [b2] ∧ (∀ (b4 : Nat) (w13 : World), (w12.heap.size ≤ b4 ∧ b4 < w13.heap.size) → Chg [] w12 w13 → (J1 b4 r11 r12 r13 r14 r14n r14c r15 r15n r15c r16 w13))))) ∧ (∀ (b5 : Nat) (w14 : World), (w10.heap.size ≤ b5 ∧ b5 < w14.heap.size) → Chg [] w10 w14 → (Calls Try.prog 27 #[.pointer r4, .agg #[.int .i64 c1, .int .i64 c2, .int .i64 c3, .slice c4 c4n c4c, .slice c5 c5n c5c], .agg #[.int .i64 t1, .int .i64 t2, .int .i64 t3, .int .i64 t4, .int .u32 t5, .slice t6 t6n t6c]] w14 fun e w15 => ∃ (r17 : Int) (r18 : Int) (r19 : Int) (r20 : Option Addr) (r20n : Nat) (r20c : Nat) (r21 : Option Addr) (r21n : Nat) (r21c : Nat) (r22 : Bool), e = .returned (.tuple #[.agg #[.int .i64 r17, .int .i64 r18, .int .i64 r19, .slice r20 r20n r20c, .slice r21 r21n r21c], .bool r22]) ∧ ((CellsAt w15 (a1.add (Int.toNat i1 * 6)) 0 [.int .i64 t1, .int .i64 t2, .int .i64 t3, .int .i64 t4, .int .u32 t5, .slice t6 t6n t6c]) ∧ (Same w14 w15 [b5, b2] ∧ (J1 b5 r17 r18 r19 r20 r20n r20c r21 r21n r21c r22 w15))))))))) ∧ ((decide (i1 < (l1n : Int))) = false → ∃ (I2 : Bool → Int → World → Prop) (m2 : Bool → Int → World → Nat), I2 x1 0 w9 ∧ ∀ (x8 : Bool) (i2 : Int) (w18 : World), I2 x8 i2 w18 → ((decide (i2 < (places1n : Int))) = true → ∃ a2 : Addr, places1 = some a2 ∧ (0 : Int) ≤ i2 ∧ i2 < (places1n : Int) ∧ (∃ (t7 : Int) (t8 : Int), CellsAt w18 (a2.add (Int.toNat i2 * 2)) 0 [.int .i64 t7, .int .i64 t8] ∧ (Calls Try.prog 28 #[.pointer r4, .agg #[.int .i64 t7, .int .i64 t8]] w18 fun e w19 => ∃ (r23 : Int) (r24 : Int), e = .returned (.tuple #[.int .u32 r23, .int .i64 r24]) ∧ (Same w18 w19 [b2] ∧ (∀ (w20 : World), Chg [] w19 w20 → (∃ (t9 : Int) (t10 : Int), CellsAt w20 (a2.add (Int.toNat i2 * 2)) 0 [.int .i64 t9, .int .i64 t10] ∧ (Calls Try.prog 29 #[.agg #[.int .i64 c1, .int .i64 c2, .int .i64 c3, .slice c4 c4n c4c, .slice c5 c5n c5c], .agg #[.int .i64 t9, .int .i64 t10]] w20 fun e w21 => ∃ (r25 : Bool), e = .returned (.bool r25) ∧ ((CellsAt w21 (a2.add (Int.toNat i2 * 2)) 0 [.int .i64 t9, .int .i64 t10]) ∧ (Same w20 w21 [b2] ∧ (∃ J2 : Bool → World → Prop, (∀ (b6 : Bool) (w22 : World), J2 b6 w22 → ((b6 || (!(r24 == 0) && (!(r23 == 0) || !(r24 == 2)))) = true → R false w22) ∧ ((b6 || (!(r24 == 0) && (!(r23 == 0) || !(r24 == 2)))) = false → (I2 x8 (IntKind.wrap .i64 (i2 + 1)) w22 ∧ m2 x8 (IntKind.wrap .i64 (i2 + 1)) w22 < m2 x8 i2 w18))) ∧ (((!(r25 == (r24 == 0))) = false → ∃ (t11 : Int) (t12 : Int), CellsAt w21 (a2.add (Int.toNat i2 * 2)) 0 [.int .i64 t11, .int .i64 t12] ∧ (Calls Try.prog 30 #[.agg #[.int .i64 c1, .int .i64 c2, .int .i64 c3, .slice c4 c4n c4c, .slice c5 c5n c5c], .agg #[.int .i64 t11, .int .i64 t12]] w21 fun e w23 => ∃ (r26 : Int), e = .returned (.int .u32 r26) ∧ (Same w21 w23 [b2] ∧ (J2 (!(r23 == r26)) w23)))) ∧ ((!(r25 == (r24 == 0))) = true → J2 true w21)))))))))))) ∧ ((decide (i2 < (places1n : Int))) = false → Calls Try.prog 24 #[] w18 fun e w24 => ∃ (r27 : Bool), e = .returned (.bool r27) ∧ (R r27 w24))))))))))
set_option maxRecDepth 100000 in
theorem go_pomanderlaw12_FlowGets (l1 : Option Addr) (l1n : Nat) (l1c : Nat) (places1 : Option Addr) (places1n : Nat) (places1c : Nat) (w : World) (R : Bool → World → Prop) (h : W_pomanderlaw12_FlowGets l1 l1n l1c places1 places1n places1c w R) : Calls Try.prog 4 #[.slice l1 l1n l1c, .slice places1 places1n places1c] w (fun e w' => ∃ (r1 : Bool), e = .returned (.bool r1) ∧ R r1 w') := by
  unfold W_pomanderlaw12_FlowGets at h
  refine enter (N := 97) Try.func4 rfl rfl ?_
  refine CW.seq ?_
  refine CW.region fun L hL => ?_
  refine LW.rd hL rfl (Wants.free rfl) rfl (Rd.assign (v := .bool false) rfl) ?_
  refine LW.nil hL rfl ?_
  refine NW.then ?_
  refine CW.seq ?_
  refine CW.seq ?_
  refine CW.region fun L hL => ?_
  refine LW.rd hL rfl (Wants.free rfl) rfl (Rd.move (v := .slice l1 l1n l1c) rfl) ?_
  refine LW.call hL rfl (Wants.free rfl) rfl (Cl.fn (f := 23) rfl Try.func23 (by kernel_rfl) rfl) h (fun e w1 h_ => ?_)
  clear h
  obtain ⟨r2, rfl, h⟩ := h_
  refine ⟨_, rfl, ?_⟩
  refine LW.rd hL rfl (Wants.free rfl) rfl (Rd.move (v := .bool r2) rfl) ?_
  suffices K1 : L 7 [(0, .slice l1 l1n l1c), (1, .slice places1 places1n places1c), (4, .bool false), (21, .bool (r2 || decide ((places1n : Int) > 40)))] w1 by
    rcases Bool.eq_false_or_eq_true r2 with hb2 | hb2
    · skip
      refine LW.skip hL rfl (Skips.on rfl rfl rfl rfl rfl hb2) rfl ?_
      refine LW.skip hL rfl (Skips.on rfl rfl rfl rfl rfl hb2) rfl ?_
      refine LW.skip hL rfl (Skips.on rfl rfl rfl rfl rfl hb2) rfl ?_
      refine LW.rd hL rfl (Wants.free rfl) rfl (Rd.pickT rfl hb2 rfl) ?_
      exact LW.sub hL (by exact ⟨rfl, rfl, rfl, (by rw [hb2]; rfl), trivial⟩) K1
    · skip
      refine LW.rd hL rfl (Wants.on rfl rfl rfl rfl rfl hb2) rfl (Rd.move (v := .slice places1 places1n places1c) rfl) ?_
      refine LW.rd hL rfl (Wants.on rfl rfl rfl rfl rfl hb2) rfl (Rd.builtin (v := .int .i64 (places1n : Int)) rfl (fun _ _ => by kernel_rfl)) ?_
      refine LW.rd hL rfl (Wants.on rfl rfl rfl rfl rfl hb2) rfl (Rd.bin (v := .bool (decide ((places1n : Int) > 40))) rfl rfl (fun w => by kernel_rfl)) ?_
      refine LW.rd hL rfl (Wants.free rfl) rfl (Rd.pickF rfl hb2 rfl) ?_
      exact LW.sub hL (by exact ⟨rfl, rfl, rfl, (by rw [hb2]; rfl), trivial⟩) K1
  refine LW.nil hL rfl ?_
  refine NW.then ?_
  refine CW.cond rfl (fun hb3 => ?_) (fun hb3 => ?_)
  · replace h := h.1 hb3
    refine CW.seq ?_
    refine CW.region fun L hL => ?_
    refine LW.call hL rfl (Wants.free rfl) rfl (Cl.fn (f := 24) rfl Try.func24 (by kernel_rfl) rfl) h (fun e w2 h_ => ?_)
    clear h
    obtain ⟨r3, rfl, h⟩ := h_
    refine ⟨_, rfl, ?_⟩
    refine LW.rd hL rfl (Wants.free rfl) rfl (Rd.assign (v := .bool r3) rfl) ?_
    refine LW.nil hL rfl ?_
    refine NW.then ?_
    refine CW.ret ?_
    refine RW.then ?_
    exact res1 rfl rfl ⟨r3, rfl, h⟩
  · replace h := h.2 hb3
    refine CW.skip ?_
    refine NW.then ?_
    refine CW.seq ?_
    refine CW.region fun L hL => ?_
    refine LW.rd hL rfl (Wants.free rfl) rfl (Rd.build (v := .agg #[.int .i64 2, .int .i64 2]) rfl (fun _ => by kernel_rfl)) ?_
    obtain ⟨b1, hb_b1⟩ : ∃ b1, b1 = World.size w1 := ⟨_, rfl⟩
    obtain ⟨w3, hw_w3⟩ : ∃ w3, w3 = World.alloc w1 (.cells #[.int .i64 0, .int .i64 0] 30) := ⟨_, rfl⟩
    refine LW.val hL rfl (Wants.free rfl) rfl (boxE hb_b1 hw_w3 (Vl.alloc (z := .agg #[.int .i64 0, .int .i64 0]) (by kernel_rfl))) ?_
    have hB := Boxes.alloc (cs := [.int .i64 0, .int .i64 0]) (T := 30) (Boxes.nil w1) hb_b1 hw_w3
    have hlo_b1 := sil_lo (Chg.refl [] w1) hb_b1
    have hc_w3 := sil_alloc (Chg.refl [] w1) hw_w3
    obtain ⟨w4, hw_w4⟩ : ∃ x, x = setCells w3 (⟨b1, 0, none⟩ : Addr) 0 [.int .i64 2, .int .i64 2] := ⟨_, rfl⟩
    refine LW.eff hL rfl (Wants.free rfl) rfl (stNE hw_w4 (Ef.stN (cs := [.int .i64 2, .int .i64 2]) rfl rfl (by kernel_rfl) (List.forall_mem_cons.2 ⟨rfl, (List.forall_mem_cons.2 ⟨rfl, (List.forall_mem_nil _)⟩)⟩) (has_of (hB.at (i := 0) rfl) (by simp)) (free_of' (hB.at (i := 0) rfl)))) ?_
    replace hB : Boxes w4 [(b1, [.int .i64 2, .int .i64 2], 30)] := Boxes.store (vs := [.int .i64 2, .int .i64 2]) (i := 0) (o := 0) hB rfl rfl rfl rfl hw_w4
    have hc_w4 := sil_new hc_w3 (sil_cN hw_w4) hlo_b1
    refine LW.nil hL rfl ?_
    refine NW.then ?_
    refine CW.seq ?_
    refine CW.region fun L hL => ?_
    refine LW.rd hL rfl (Wants.free rfl) rfl (Rd.ldN (cs := [.int .i64 2, .int .i64 2]) rfl (by kernel_rfl) (by kernel_rfl) (cellsS (box_cells (hB.at (i := 0) rfl) rfl))) ?_
    replace h := h b1 w4 ⟨hlo_b1, lt_of_heap (hB.at (i := 0) rfl)⟩ hc_w4
    refine LW.call hL rfl (Wants.free rfl) rfl (Cl.fn (f := 25) rfl Try.func25 (by kernel_rfl) rfl) h (fun e w5 h_ => ?_)
    clear h
    obtain ⟨r4, r5, rfl, h⟩ := h_
    obtain ⟨hsm1, h⟩ := h
    replace hB := Boxes.same hB (by exact hsm1)
    refine ⟨_, rfl, ?_⟩
    refine LW.rd hL rfl (Wants.free rfl) rfl (Rd.move (v := .tuple #[.pointer r4, .int .i64 r5]) rfl) ?_
    refine LW.rd hL rfl (Wants.free rfl) rfl (Rd.extract (v := .pointer r4) rfl rfl) ?_
    refine LW.rd hL rfl (Wants.free rfl) rfl (Rd.extract (v := .int .i64 r5) rfl rfl) ?_
    refine LW.rd hL rfl (Wants.free rfl) rfl (Rd.assign (v := .pointer r4) rfl) ?_
    refine LW.rd hL rfl (Wants.free rfl) rfl (Rd.assign (v := .int .i64 r5) rfl) ?_
    refine LW.nil hL rfl ?_
    refine NW.then ?_
    refine CW.seq ?_
    refine CW.region fun L hL => ?_
    refine LW.rd hL rfl (Wants.free rfl) rfl (Rd.ldN (cs := [.int .i64 2, .int .i64 2]) rfl (by kernel_rfl) (by kernel_rfl) (cellsS (box_cells (hB.at (i := 0) rfl) rfl))) ?_
    refine LW.call hL rfl (Wants.free rfl) rfl (Cl.fn (f := 26) rfl Try.func26 (by kernel_rfl) rfl) h (fun e w6 h_ => ?_)
    clear h
    obtain ⟨r6, r7, r8, r9, r9n, r9c, r10, r10n, r10c, rfl, h⟩ := h_
    refine ⟨_, rfl, ?_⟩
    obtain ⟨b2, hb_b2⟩ : ∃ b2, b2 = World.size w6 := ⟨_, rfl⟩
    obtain ⟨w7, hw_w7⟩ : ∃ w7, w7 = World.alloc w6 (.cells #[.int .i64 0, .int .i64 0, .int .i64 0, .slice none 0 0, .slice none 0 0] 36) := ⟨_, rfl⟩
    refine LW.val hL rfl (Wants.free rfl) rfl (boxE hb_b2 hw_w7 (Vl.alloc (z := .agg #[.int .i64 0, .int .i64 0, .int .i64 0, .slice none 0 0, .slice none 0 0]) (by kernel_rfl))) ?_
    have hB := Boxes.alloc (cs := [.int .i64 0, .int .i64 0, .int .i64 0, .slice none 0 0, .slice none 0 0]) (T := 36) (Boxes.nil w6) hb_b2 hw_w7
    have hlo_b2 := sil_lo (Chg.refl [] w6) hb_b2
    have hc_w7 := sil_alloc (Chg.refl [] w6) hw_w7
    obtain ⟨w8, hw_w8⟩ : ∃ x, x = setCells w7 (⟨b2, 0, none⟩ : Addr) 0 [.int .i64 r6, .int .i64 r7, .int .i64 r8, .slice r9 r9n r9c, .slice r10 r10n r10c] := ⟨_, rfl⟩
    refine LW.eff hL rfl (Wants.free rfl) rfl (stNE hw_w8 (Ef.stN (cs := [.int .i64 r6, .int .i64 r7, .int .i64 r8, .slice r9 r9n r9c, .slice r10 r10n r10c]) rfl rfl (by kernel_rfl) (List.forall_mem_cons.2 ⟨rfl, (List.forall_mem_cons.2 ⟨rfl, (List.forall_mem_cons.2 ⟨rfl, (List.forall_mem_cons.2 ⟨rfl, (List.forall_mem_cons.2 ⟨rfl, (List.forall_mem_nil _)⟩)⟩)⟩)⟩)⟩) (has_of (hB.at (i := 0) rfl) (by simp)) (free_of' (hB.at (i := 0) rfl)))) ?_
    replace hB : Boxes w8 [(b2, [.int .i64 r6, .int .i64 r7, .int .i64 r8, .slice r9 r9n r9c, .slice r10 r10n r10c], 36)] := Boxes.store (vs := [.int .i64 r6, .int .i64 r7, .int .i64 r8, .slice r9 r9n r9c, .slice r10 r10n r10c]) (i := 0) (o := 0) hB rfl rfl rfl rfl hw_w8
    have hc_w8 := sil_new hc_w7 (sil_cN hw_w8) hlo_b2
    refine LW.nil hL rfl ?_
    refine NW.then ?_
    refine CW.seq ?_
    refine CW.seq ?_
    refine CW.region fun L hL => ?_
    refine LW.rd hL rfl (Wants.free rfl) rfl (Rd.assign (v := .int .i64 0) rfl) ?_
    refine LW.nil hL rfl ?_
    refine NW.then ?_
    refine CW.block ?_
    replace h := h b2 w8 ⟨hlo_b2, lt_of_heap (hB.at (i := 0) rfl)⟩ hc_w8
    obtain ⟨I1, m1, hI1, h⟩ := h
    refine CW.loop (S := Bool × Int × Int × Int × Int × (Option Addr) × Nat × Nat × (Option Addr) × Nat × Nat) (fun s1 => [(0, .slice l1 l1n l1c), (1, .slice places1 places1n places1c), (6, .pointer r4), (8, .pointer (some (⟨b2, 0, none⟩ : Addr))), (4, .bool s1.1), (9, .int .i64 s1.2.1)]) (fun s1 w9 => I1 s1.1 s1.2.1 s1.2.2.1 s1.2.2.2.1 s1.2.2.2.2.1 s1.2.2.2.2.2.1 s1.2.2.2.2.2.2.1 s1.2.2.2.2.2.2.2.1 s1.2.2.2.2.2.2.2.2.1 s1.2.2.2.2.2.2.2.2.2.1 s1.2.2.2.2.2.2.2.2.2.2 w9 ∧ Boxes w9 [(b2, [.int .i64 s1.2.2.1, .int .i64 s1.2.2.2.1, .int .i64 s1.2.2.2.2.1, .slice s1.2.2.2.2.2.1 s1.2.2.2.2.2.2.1 s1.2.2.2.2.2.2.2.1, .slice s1.2.2.2.2.2.2.2.2.1 s1.2.2.2.2.2.2.2.2.2.1 s1.2.2.2.2.2.2.2.2.2.2], 36)]) (fun s1 w9 => m1 s1.1 s1.2.1 s1.2.2.1 s1.2.2.2.1 s1.2.2.2.2.1 s1.2.2.2.2.2.1 s1.2.2.2.2.2.2.1 s1.2.2.2.2.2.2.2.1 s1.2.2.2.2.2.2.2.2.1 s1.2.2.2.2.2.2.2.2.2.1 s1.2.2.2.2.2.2.2.2.2.2 w9) (false, 0, r6, r7, r8, r9, r9n, r9c, r10, r10n, r10c) (by exact ⟨rfl, rfl, rfl, rfl, rfl, rfl, trivial⟩) ⟨hI1, hB⟩ (fun s1 w9 hI1 => ?_)
    obtain ⟨hI1, hB⟩ := hI1
    obtain ⟨x1, i1, c1, c2, c3, c4, c4n, c4c, c5, c5n, c5c⟩ := s1; replace h := h x1 i1 c1 c2 c3 c4 c4n c4c c5 c5n c5c w9 hI1
    refine CW.seq ?_
    refine CW.seq ?_
    refine CW.region fun L hL => ?_
    refine LW.rd hL rfl (Wants.free rfl) rfl (Rd.move (v := .int .i64 i1) rfl) ?_
    refine LW.rd hL rfl (Wants.free rfl) rfl (Rd.move (v := .slice l1 l1n l1c) rfl) ?_
    refine LW.rd hL rfl (Wants.free rfl) rfl (Rd.builtin (v := .int .i64 (l1n : Int)) rfl (fun _ _ => by kernel_rfl)) ?_
    refine LW.rd hL rfl (Wants.free rfl) rfl (Rd.bin (v := .bool (decide (i1 < (l1n : Int)))) rfl rfl (fun w => by kernel_rfl)) ?_
    refine LW.nil hL rfl ?_
    refine NW.then ?_
    refine CW.cond rfl (fun hb4 => ?_) (fun hb4 => ?_)
    · replace h := h.1 hb4
      refine CW.skip ?_
      refine NW.then ?_
      refine CW.seq ?_
      refine CW.block ?_
      refine CW.seq ?_
      obtain ⟨w10, hw_w10⟩ : ∃ x, x = World.drew w9 := ⟨_, rfl⟩
      have hc_w10 := sil_drew (Chg.refl [] w9) hw_w10
      replace hB := hB.drew hw_w10
      replace h := h  w10  hc_w10
      obtain ⟨a1, he1, hi1, hi2, h⟩ := h
      obtain ⟨t1, t2, t3, t4, t5, t6, t6n, t6c, hc1, h⟩ := h
      refine CW.drawn (fun w => CellsAt w (a1.add (Int.toNat i1 * 6)) 0 [.int .i64 t1, .int .i64 t2, .int .i64 t3, .int .i64 t4, .int .u32 t5, .slice t6 t6n t6c] ∧ Boxes w [(b2, [.int .i64 c1, .int .i64 c2, .int .i64 c3, .slice c4 c4n c4c, .slice c5 c5n c5c], 36)]) 11 (by kernel_rfl) fun H hH => ?_
      rw [← hw_w10]
      have hS1 : CellsAt w10 (a1.add (Int.toNat i1 * 6)) 0 [.int .i64 t1, .int .i64 t2, .int .i64 t3, .int .i64 t4, .int .u32 t5, .slice t6 t6n t6c] ∧ Boxes w10 [(b2, [.int .i64 c1, .int .i64 c2, .int .i64 c3, .slice c4 c4n c4c, .slice c5 c5n c5c], 36)] := ⟨hc1, hB⟩
      refine HW.pure (i := 0) hH rfl (by kernel_rfl) (Wants.free rfl) rfl (fun _ => hS1) (Rd.move (v := .pointer r4) rfl) ?_
      refine HW.take (i := 1) hH rfl (by kernel_rfl) (by kernel_rfl) (Wants.free rfl) rfl (fun _ => hS1) (Rd.ldN (cs := [.int .i64 c1, .int .i64 c2, .int .i64 c3, .slice c4 c4n c4c, .slice c5 c5n c5c]) rfl (by kernel_rfl) (by kernel_rfl) (fun w h => cellsAt_get (box_cells (Boxes.at (i := 0) h.2 rfl) rfl))) ?_
      refine HW.pure (i := 2) hH rfl (by kernel_rfl) (Wants.free rfl) rfl (fun _ => hS1) (Rd.move (v := .slice l1 l1n l1c) rfl) ?_
      refine HW.pure (i := 3) hH rfl (by kernel_rfl) (Wants.free rfl) rfl (fun _ => hS1) (Rd.move (v := .int .i64 i1) rfl) ?_
      refine HW.pure (i := 4) hH rfl (by kernel_rfl) (Wants.free rfl) rfl (fun _ => hS1) (Rd.iaS (q := a1) (sz := 6) (by rw [← he1]; rfl) rfl Try.underlying46 (by kernel_rfl) hi1 hi2) ?_
      refine HW.take (i := 5) hH rfl (by kernel_rfl) (by kernel_rfl) (Wants.free rfl) rfl (fun _ => hS1) (Rd.ldN (cs := [.int .i64 t1, .int .i64 t2, .int .i64 t3, .int .i64 t4, .int .u32 t5, .slice t6 t6n t6c]) rfl (by kernel_rfl) (by kernel_rfl) (fun w h => cellsAt_get h.1)) ?_
      obtain ⟨J1, hJ1, h1_J1, h2_J1⟩ := h
      suffices K2 : ∀ (s2 : Nat × Int × Int × Int × (Option Addr) × Nat × Nat × (Option Addr) × Nat × Nat × Bool) (w11 : World), (CellsAt w11 (a1.add (Int.toNat i1 * 6)) 0 [.int .i64 t1, .int .i64 t2, .int .i64 t3, .int .i64 t4, .int .u32 t5, .slice t6 t6n t6c] ∧ Boxes w11 [(b2, [.int .i64 c1, .int .i64 c2, .int .i64 c3, .slice c4 c4n c4c, .slice c5 c5n c5c], 36)]) → Boxes w11 [(s2.1, [.int .i64 0, .int .i64 0, .int .i64 0, .slice none 0 0, .slice none 0 0], 36), (b2, [.int .i64 c1, .int .i64 c2, .int .i64 c3, .slice c4 c4n c4c, .slice c5 c5n c5c], 36)] → J1 s2.1 s2.2.1 s2.2.2.1 s2.2.2.2.1 s2.2.2.2.2.1 s2.2.2.2.2.2.1 s2.2.2.2.2.2.2.1 s2.2.2.2.2.2.2.2.1 s2.2.2.2.2.2.2.2.2.1 s2.2.2.2.2.2.2.2.2.2.1 s2.2.2.2.2.2.2.2.2.2.2 w11 → H 2 #[true, true, true, true, true, true, true, true, true, true, true, false, false] [(0, .slice l1 l1n l1c), (1, .slice places1 places1n places1c), (4, .bool x1), (6, .pointer r4), (8, .pointer (some (⟨b2, 0, none⟩ : Addr))), (9, .int .i64 i1), (10, .pointer (some (⟨s2.1, 0, none⟩ : Addr))), (45, .agg #[.int .i64 s2.2.1, .int .i64 s2.2.2.1, .int .i64 s2.2.2.2.1, .slice s2.2.2.2.2.1 s2.2.2.2.2.2.1 s2.2.2.2.2.2.2.1, .slice s2.2.2.2.2.2.2.2.1 s2.2.2.2.2.2.2.2.2.1 s2.2.2.2.2.2.2.2.2.2.1]), (46, .bool s2.2.2.2.2.2.2.2.2.2.2)] w11 by
        refine HW.two (i := 6) (j := 10) hH (by kernel_rfl) ?_ ?_
        · have h := h1_J1
          refine H1.call (i := 6) hH rfl (Wants.free rfl) rfl (Cl.fn (f := 27) rfl Try.func27 (by kernel_rfl) rfl) h (fun e w12 h_ => ?_)
          clear h
          obtain ⟨r11, r12, r13, r14, r14n, r14c, r15, r15n, r15c, r16, rfl, hS2, h⟩ := h_
          obtain ⟨hsm2, h⟩ := h
          replace hB := Boxes.same hB (by exact hsm2)
          have hS3 := (⟨hS2, hB⟩ : CellsAt w12 (a1.add (Int.toNat i1 * 6)) 0 [.int .i64 t1, .int .i64 t2, .int .i64 t3, .int .i64 t4, .int .u32 t5, .slice t6 t6n t6c] ∧ Boxes w12 [(b2, [.int .i64 c1, .int .i64 c2, .int .i64 c3, .slice c4 c4n c4c, .slice c5 c5n c5c], 36)])
          refine ⟨_, rfl, (fun _ => hS3), ?_⟩
          refine HW.pure (i := 7) hH rfl (by kernel_rfl) (Wants.free rfl) rfl (fun _ => hS3) (Rd.move (v := .tuple #[.agg #[.int .i64 r11, .int .i64 r12, .int .i64 r13, .slice r14 r14n r14c, .slice r15 r15n r15c], .bool r16]) rfl) ?_
          refine HW.pure (i := 8) hH rfl (by kernel_rfl) (Wants.free rfl) rfl (fun _ => hS3) (Rd.extract (v := .agg #[.int .i64 r11, .int .i64 r12, .int .i64 r13, .slice r14 r14n r14c, .slice r15 r15n r15c]) rfl rfl) ?_
          refine HW.pure (i := 9) hH rfl (by kernel_rfl) (Wants.free rfl) rfl (fun _ => hS3) (Rd.extract (v := .bool r16) rfl rfl) ?_
          obtain ⟨b4, hb_b4⟩ : ∃ b4, b4 = World.size w12 := ⟨_, rfl⟩
          obtain ⟨w13, hw_w13⟩ : ∃ w13, w13 = World.alloc w12 (.cells #[.int .i64 0, .int .i64 0, .int .i64 0, .slice none 0 0, .slice none 0 0] 36) := ⟨_, rfl⟩
          have hS4 := (⟨cellsAlloc hw_w13 hS3.1, ((hS3.2).grow hw_w13)⟩ : CellsAt w13 (a1.add (Int.toNat i1 * 6)) 0 [.int .i64 t1, .int .i64 t2, .int .i64 t3, .int .i64 t4, .int .u32 t5, .slice t6 t6n t6c] ∧ Boxes w13 [(b2, [.int .i64 c1, .int .i64 c2, .int .i64 c3, .slice c4 c4n c4c, .slice c5 c5n c5c], 36)])
          refine HW.val (i := 10) hH (by kernel_rfl) rfl (Wants.free rfl) rfl (boxE hb_b4 hw_w13 (Vl.alloc (z := .agg #[.int .i64 0, .int .i64 0, .int .i64 0, .slice none 0 0, .slice none 0 0]) (by kernel_rfl))) (fun _ => hS4) ?_
          replace hB := Boxes.alloc (cs := [.int .i64 0, .int .i64 0, .int .i64 0, .slice none 0 0, .slice none 0 0]) (T := 36) hB hb_b4 hw_w13
          have hlo_b4 := sil_lo (Chg.refl [] w12) hb_b4
          have hc_w13 := sil_alloc (Chg.refl [] w12) hw_w13
          replace h := h b4 w13 ⟨hlo_b4, lt_of_heap (hB.at (i := 0) rfl)⟩ hc_w13
          exact HW.sub hH (by exact ⟨rfl, rfl, rfl, rfl, rfl, rfl, rfl, rfl, rfl, trivial⟩) (K2 (b4, r11, r12, r13, r14, r14n, r14c, r15, r15n, r15c, r16) w13 hS4 (by exact hB) h)
        · have h := h2_J1
          obtain ⟨b5, hb_b5⟩ : ∃ b5, b5 = World.size w10 := ⟨_, rfl⟩
          obtain ⟨w14, hw_w14⟩ : ∃ w14, w14 = World.alloc w10 (.cells #[.int .i64 0, .int .i64 0, .int .i64 0, .slice none 0 0, .slice none 0 0] 36) := ⟨_, rfl⟩
          have hS5 := (⟨cellsAlloc hw_w14 hS1.1, ((hS1.2).grow hw_w14)⟩ : CellsAt w14 (a1.add (Int.toNat i1 * 6)) 0 [.int .i64 t1, .int .i64 t2, .int .i64 t3, .int .i64 t4, .int .u32 t5, .slice t6 t6n t6c] ∧ Boxes w14 [(b2, [.int .i64 c1, .int .i64 c2, .int .i64 c3, .slice c4 c4n c4c, .slice c5 c5n c5c], 36)])
          refine H1.val (i := 10) hH rfl (Wants.free rfl) rfl (boxE hb_b5 hw_w14 (Vl.alloc (z := .agg #[.int .i64 0, .int .i64 0, .int .i64 0, .slice none 0 0, .slice none 0 0]) (by kernel_rfl))) (fun _ => hS5) ?_
          replace hB := Boxes.alloc (cs := [.int .i64 0, .int .i64 0, .int .i64 0, .slice none 0 0, .slice none 0 0]) (T := 36) hB hb_b5 hw_w14
          have hlo_b5 := sil_lo (Chg.refl [] w10) hb_b5
          have hc_w14 := sil_alloc (Chg.refl [] w10) hw_w14
          replace h := h b5 w14 ⟨hlo_b5, lt_of_heap (hB.at (i := 0) rfl)⟩ hc_w14
          refine HW.call (i := 6) hH (by kernel_rfl) rfl (Wants.free rfl) rfl (Cl.fn (f := 27) rfl Try.func27 (by kernel_rfl) rfl) h (fun e w15 h_ => ?_)
          clear h
          obtain ⟨r17, r18, r19, r20, r20n, r20c, r21, r21n, r21c, r22, rfl, hS6, h⟩ := h_
          obtain ⟨hsm3, h⟩ := h
          replace hB := Boxes.same hB (by exact hsm3)
          have hS7 := (⟨hS6, (hB.sel [1] (by decide) rfl)⟩ : CellsAt w15 (a1.add (Int.toNat i1 * 6)) 0 [.int .i64 t1, .int .i64 t2, .int .i64 t3, .int .i64 t4, .int .u32 t5, .slice t6 t6n t6c] ∧ Boxes w15 [(b2, [.int .i64 c1, .int .i64 c2, .int .i64 c3, .slice c4 c4n c4c, .slice c5 c5n c5c], 36)])
          refine ⟨_, rfl, (fun _ => hS7), ?_⟩
          refine HW.pure (i := 7) hH rfl (by kernel_rfl) (Wants.free rfl) rfl (fun _ => hS7) (Rd.move (v := .tuple #[.agg #[.int .i64 r17, .int .i64 r18, .int .i64 r19, .slice r20 r20n r20c, .slice r21 r21n r21c], .bool r22]) rfl) ?_
          refine HW.pure (i := 8) hH rfl (by kernel_rfl) (Wants.free rfl) rfl (fun _ => hS7) (Rd.extract (v := .agg #[.int .i64 r17, .int .i64 r18, .int .i64 r19, .slice r20 r20n r20c, .slice r21 r21n r21c]) rfl rfl) ?_
          refine HW.pure (i := 9) hH rfl (by kernel_rfl) (Wants.free rfl) rfl (fun _ => hS7) (Rd.extract (v := .bool r22) rfl rfl) ?_
          exact HW.sub hH (by exact ⟨rfl, rfl, rfl, rfl, rfl, rfl, rfl, rfl, rfl, trivial⟩) (K2 (b5, r17, r18, r19, r20, r20n, r20c, r21, r21n, r21c, r22) w15 hS7 (by exact hB) h)
      intro s2 w11 hS8 hB h_
      obtain ⟨b3, x2, x3, x4, x5, x5n, x5c, x6, x6n, x6c, x7⟩ := s2
      have h := hJ1 b3 x2 x3 x4 x5 x5n x5c x6 x6n x6c x7 w11 h_; clear h_
      obtain ⟨w16, hw_w16⟩ : ∃ x, x = setCells w11 (⟨b3, 0, none⟩ : Addr) 0 [.int .i64 x2, .int .i64 x3, .int .i64 x4, .slice x5 x5n x5c, .slice x6 x6n x6c] := ⟨_, rfl⟩
      refine HW.eff (i := 11) hH (by kernel_rfl) rfl (Wants.free rfl) rfl (stNE hw_w16 (Ef.stN (cs := [.int .i64 x2, .int .i64 x3, .int .i64 x4, .slice x5 x5n x5c, .slice x6 x6n x6c]) rfl rfl (by kernel_rfl) (List.forall_mem_cons.2 ⟨rfl, (List.forall_mem_cons.2 ⟨rfl, (List.forall_mem_cons.2 ⟨rfl, (List.forall_mem_cons.2 ⟨rfl, (List.forall_mem_cons.2 ⟨rfl, (List.forall_mem_nil _)⟩)⟩)⟩)⟩)⟩) (has_of (hB.at (i := 0) rfl) (by simp)) (free_of' (hB.at (i := 0) rfl)))) (fun hc => by cases hc) ?_
      replace hB : Boxes w16 [(b3, [.int .i64 x2, .int .i64 x3, .int .i64 x4, .slice x5 x5n x5c, .slice x6 x6n x6c], 36), (b2, [.int .i64 c1, .int .i64 c2, .int .i64 c3, .slice c4 c4n c4c, .slice c5 c5n c5c], 36)] := Boxes.store (vs := [.int .i64 x2, .int .i64 x3, .int .i64 x4, .slice x5 x5n x5c, .slice x6 x6n x6c]) (i := 0) (o := 0) hB rfl rfl rfl rfl hw_w16
      have hc_w16 : Chg [b3] w11 w16 := sil_more (Chg.refl [] w11) (sil_cN hw_w16)
      refine HW.pure (i := 12) hH rfl (by kernel_rfl) (Wants.free rfl) rfl (fun hc => by cases hc) (Rd.assign (v := .bool x7) rfl) ?_
      refine HW.done hH (by kernel_rfl) ?_
      refine NW.then ?_
      refine CW.seq ?_
      refine CW.seq ?_
      refine CW.region fun L hL => ?_
      refine LW.rd hL rfl (Wants.free rfl) rfl (Rd.move (v := .bool x7) rfl) ?_
      refine LW.rd hL rfl (Wants.free rfl) rfl (Rd.un (v := .bool (!x7)) rfl (fun _ => by kernel_rfl)) ?_
      refine LW.nil hL rfl ?_
      refine NW.then ?_
      replace h := h  w16  hc_w16
      refine CW.cond rfl (fun hb5 => ?_) (fun hb5 => ?_)
      · replace h := h.1 hb5
        refine CW.seq ?_
        refine CW.region fun L hL => ?_
        refine LW.rd hL rfl (Wants.free rfl) rfl (Rd.assign (v := .bool false) rfl) ?_
        refine LW.nil hL rfl ?_
        refine NW.then ?_
        refine CW.ret ?_
        refine RW.then ?_
        refine RW.block ?_
        refine RW.then ?_
        refine RW.then ?_
        refine RW.block ?_
        refine RW.then ?_
        exact res1 rfl rfl ⟨false, rfl, h⟩
      · replace h := h.2 hb5
        refine CW.skip ?_
        refine NW.then ?_
        refine CW.region fun L hL => ?_
        refine LW.rd hL rfl (Wants.free rfl) rfl (Rd.ldN (cs := [.int .i64 x2, .int .i64 x3, .int .i64 x4, .slice x5 x5n x5c, .slice x6 x6n x6c]) rfl (by kernel_rfl) (by kernel_rfl) (cellsS (box_cells (hB.at (i := 0) rfl) rfl))) ?_
        obtain ⟨w17, hw_w17⟩ : ∃ x, x = setCells w16 (⟨b2, 0, none⟩ : Addr) 0 [.int .i64 x2, .int .i64 x3, .int .i64 x4, .slice x5 x5n x5c, .slice x6 x6n x6c] := ⟨_, rfl⟩
        refine LW.eff hL rfl (Wants.free rfl) rfl (stNE hw_w17 (Ef.stN (cs := [.int .i64 x2, .int .i64 x3, .int .i64 x4, .slice x5 x5n x5c, .slice x6 x6n x6c]) rfl rfl (by kernel_rfl) (List.forall_mem_cons.2 ⟨rfl, (List.forall_mem_cons.2 ⟨rfl, (List.forall_mem_cons.2 ⟨rfl, (List.forall_mem_cons.2 ⟨rfl, (List.forall_mem_cons.2 ⟨rfl, (List.forall_mem_nil _)⟩)⟩)⟩)⟩)⟩) (has_of (hB.at (i := 1) rfl) (by simp)) (free_of' (hB.at (i := 1) rfl)))) ?_
        replace hB : Boxes w17 [(b3, [.int .i64 x2, .int .i64 x3, .int .i64 x4, .slice x5 x5n x5c, .slice x6 x6n x6c], 36), (b2, [.int .i64 x2, .int .i64 x3, .int .i64 x4, .slice x5 x5n x5c, .slice x6 x6n x6c], 36)] := Boxes.store (vs := [.int .i64 x2, .int .i64 x3, .int .i64 x4, .slice x5 x5n x5c, .slice x6 x6n x6c]) (i := 1) (o := 0) hB rfl rfl rfl rfl hw_w17
        have hc_w17 : Chg [b2] w16 w17 := sil_more (Chg.refl [] w16) (sil_cN hw_w17)
        refine LW.nil hL rfl ?_
        refine NW.block ?_
        refine NW.then ?_
        refine CW.region fun L hL => ?_
        refine LW.rd hL rfl (Wants.free rfl) rfl (Rd.move (v := .int .i64 i1) rfl) ?_
        refine LW.rd hL rfl (Wants.free rfl) rfl (Rd.bin (v := .int .i64 (IntKind.wrap .i64 (i1 + 1))) rfl rfl (fun w => by kernel_rfl)) ?_
        refine LW.rd hL rfl (Wants.free rfl) rfl (Rd.assign (v := .int .i64 (IntKind.wrap .i64 (i1 + 1))) rfl) ?_
        refine LW.nil hL rfl ?_
        replace h := h  w17  hc_w17
        exact NW.loop (S := Bool × Int × Int × Int × Int × (Option Addr) × Nat × Nat × (Option Addr) × Nat × Nat) (Ek := fun s1 => [(0, .slice l1 l1n l1c), (1, .slice places1 places1n places1c), (6, .pointer r4), (8, .pointer (some (⟨b2, 0, none⟩ : Addr))), (4, .bool s1.1), (9, .int .i64 s1.2.1)]) (x1, IntKind.wrap .i64 (i1 + 1), x2, x3, x4, x5, x5n, x5c, x6, x6n, x6c) (by exact ⟨rfl, rfl, rfl, rfl, rfl, rfl, trivial⟩) ⟨⟨h.1, (hB.sel [1] (by decide) rfl)⟩, h.2⟩
    · replace h := h.2 hb4
      refine CW.exit ?_
      refine XW.then ?_
      refine XW.then ?_
      refine XW.hit ?_
      refine NW.then ?_
      refine CW.seq ?_
      refine CW.seq ?_
      refine CW.region fun L hL => ?_
      refine LW.rd hL rfl (Wants.free rfl) rfl (Rd.assign (v := .int .i64 0) rfl) ?_
      refine LW.nil hL rfl ?_
      refine NW.then ?_
      refine CW.block ?_
      obtain ⟨I2, m2, hI2, h⟩ := h
      refine CW.loop (S := Bool × Int) (fun s3 => [(1, .slice places1 places1n places1c), (6, .pointer r4), (8, .pointer (some (⟨b2, 0, none⟩ : Addr))), (4, .bool s3.1), (12, .int .i64 s3.2)]) (fun s3 w18 => I2 s3.1 s3.2 w18 ∧ Boxes w18 [(b2, [.int .i64 c1, .int .i64 c2, .int .i64 c3, .slice c4 c4n c4c, .slice c5 c5n c5c], 36)]) (fun s3 w18 => m2 s3.1 s3.2 w18) (x1, 0) (by exact ⟨rfl, rfl, rfl, rfl, rfl, trivial⟩) ⟨hI2, hB⟩ (fun s3 w18 hI2 => ?_)
      obtain ⟨hI2, hB⟩ := hI2
      obtain ⟨x8, i2⟩ := s3; replace h := h x8 i2 w18 hI2
      refine CW.seq ?_
      refine CW.seq ?_
      refine CW.region fun L hL => ?_
      refine LW.rd hL rfl (Wants.free rfl) rfl (Rd.move (v := .int .i64 i2) rfl) ?_
      refine LW.rd hL rfl (Wants.free rfl) rfl (Rd.move (v := .slice places1 places1n places1c) rfl) ?_
      refine LW.rd hL rfl (Wants.free rfl) rfl (Rd.builtin (v := .int .i64 (places1n : Int)) rfl (fun _ _ => by kernel_rfl)) ?_
      refine LW.rd hL rfl (Wants.free rfl) rfl (Rd.bin (v := .bool (decide (i2 < (places1n : Int)))) rfl rfl (fun w => by kernel_rfl)) ?_
      refine LW.nil hL rfl ?_
      refine NW.then ?_
      refine CW.cond rfl (fun hb6 => ?_) (fun hb6 => ?_)
      · replace h := h.1 hb6
        refine CW.skip ?_
        refine NW.then ?_
        refine CW.seq ?_
        refine CW.block ?_
        refine CW.seq ?_
        refine CW.region fun L hL => ?_
        refine LW.rd hL rfl (Wants.free rfl) rfl (Rd.move (v := .pointer r4) rfl) ?_
        refine LW.rd hL rfl (Wants.free rfl) rfl (Rd.move (v := .slice places1 places1n places1c) rfl) ?_
        refine LW.rd hL rfl (Wants.free rfl) rfl (Rd.move (v := .int .i64 i2) rfl) ?_
        obtain ⟨a2, he2, hi3, hi4, h⟩ := h
        refine LW.rd hL rfl (Wants.free rfl) rfl (Rd.iaS (q := a2) (sz := 2) (by rw [← he2]; rfl) rfl Try.underlying47 (by kernel_rfl) hi3 hi4) ?_
        obtain ⟨t7, t8, hc2, h⟩ := h
        refine LW.rd hL rfl (Wants.free rfl) rfl (Rd.ldN (cs := [.int .i64 t7, .int .i64 t8]) rfl (by kernel_rfl) (by kernel_rfl) (cellsS hc2)) ?_
        refine LW.call hL rfl (Wants.free rfl) rfl (Cl.fn (f := 28) rfl Try.func28 (by kernel_rfl) rfl) h (fun e w19 h_ => ?_)
        clear h
        obtain ⟨r23, r24, rfl, h⟩ := h_
        obtain ⟨hsm4, h⟩ := h
        replace hB := Boxes.same hB (by exact hsm4)
        refine ⟨_, rfl, ?_⟩
        refine LW.rd hL rfl (Wants.free rfl) rfl (Rd.move (v := .tuple #[.int .u32 r23, .int .i64 r24]) rfl) ?_
        refine LW.rd hL rfl (Wants.free rfl) rfl (Rd.extract (v := .int .u32 r23) rfl rfl) ?_
        refine LW.rd hL rfl (Wants.free rfl) rfl (Rd.extract (v := .int .i64 r24) rfl rfl) ?_
        refine LW.rd hL rfl (Wants.free rfl) rfl (Rd.assign (v := .int .u32 r23) rfl) ?_
        refine LW.rd hL rfl (Wants.free rfl) rfl (Rd.assign (v := .int .i64 r24) rfl) ?_
        refine LW.nil hL rfl ?_
        refine NW.then ?_
        refine CW.seq ?_
        obtain ⟨w20, hw_w20⟩ : ∃ x, x = World.drew w19 := ⟨_, rfl⟩
        have hc_w20 := sil_drew (Chg.refl [] w19) hw_w20
        replace hB := hB.drew hw_w20
        replace h := h  w20  hc_w20
        obtain ⟨t9, t10, hc3, h⟩ := h
        refine CW.drawn (fun w => CellsAt w (a2.add (Int.toNat i2 * 2)) 0 [.int .i64 t9, .int .i64 t10] ∧ Boxes w [(b2, [.int .i64 c1, .int .i64 c2, .int .i64 c3, .slice c4 c4n c4c, .slice c5 c5n c5c], 36)]) 16 (by kernel_rfl) fun H hH => ?_
        rw [← hw_w20]
        have hS9 : CellsAt w20 (a2.add (Int.toNat i2 * 2)) 0 [.int .i64 t9, .int .i64 t10] ∧ Boxes w20 [(b2, [.int .i64 c1, .int .i64 c2, .int .i64 c3, .slice c4 c4n c4c, .slice c5 c5n c5c], 36)] := ⟨hc3, hB⟩
        refine HW.take (i := 0) hH rfl (by kernel_rfl) (by kernel_rfl) (Wants.free rfl) rfl (fun _ => hS9) (Rd.ldN (cs := [.int .i64 c1, .int .i64 c2, .int .i64 c3, .slice c4 c4n c4c, .slice c5 c5n c5c]) rfl (by kernel_rfl) (by kernel_rfl) (fun w h => cellsAt_get (box_cells (Boxes.at (i := 0) h.2 rfl) rfl))) ?_
        refine HW.pure (i := 1) hH rfl (by kernel_rfl) (Wants.free rfl) rfl (fun _ => hS9) (Rd.move (v := .slice places1 places1n places1c) rfl) ?_
        refine HW.pure (i := 2) hH rfl (by kernel_rfl) (Wants.free rfl) rfl (fun _ => hS9) (Rd.move (v := .int .i64 i2) rfl) ?_
        refine HW.pure (i := 3) hH rfl (by kernel_rfl) (Wants.free rfl) rfl (fun _ => hS9) (Rd.iaS (q := a2) (sz := 2) (by rw [← he2]; rfl) rfl Try.underlying47 (by kernel_rfl) hi3 hi4) ?_
        refine HW.take (i := 4) hH rfl (by kernel_rfl) (by kernel_rfl) (Wants.free rfl) rfl (fun _ => hS9) (Rd.ldN (cs := [.int .i64 t9, .int .i64 t10]) rfl (by kernel_rfl) (by kernel_rfl) (fun w h => cellsAt_get h.1)) ?_
        refine HW.pure (i := 6) hH rfl (by kernel_rfl) (Wants.free rfl) rfl (fun _ => hS9) (Rd.move (v := .int .i64 r24) rfl) ?_
        refine HW.pure (i := 7) hH rfl (by kernel_rfl) (Wants.free rfl) rfl (fun _ => hS9) (Rd.bin (v := .bool (r24 == 0)) rfl rfl (fun w => by kernel_rfl)) ?_
        refine HW.call (i := 5) hH (by kernel_rfl) rfl (Wants.free rfl) rfl (Cl.fn (f := 29) rfl Try.func29 (by kernel_rfl) rfl) h (fun e w21 h_ => ?_)
        clear h
        obtain ⟨r25, rfl, hS10, h⟩ := h_
        obtain ⟨hsm5, h⟩ := h
        replace hB := Boxes.same hB (by exact hsm5)
        have hS11 := (⟨hS10, hB⟩ : CellsAt w21 (a2.add (Int.toNat i2 * 2)) 0 [.int .i64 t9, .int .i64 t10] ∧ Boxes w21 [(b2, [.int .i64 c1, .int .i64 c2, .int .i64 c3, .slice c4 c4n c4c, .slice c5 c5n c5c], 36)])
        refine ⟨_, rfl, (fun _ => hS11), ?_⟩
        refine HW.pure (i := 8) hH rfl (by kernel_rfl) (Wants.free rfl) rfl (fun _ => hS11) (Rd.bin (v := .bool (!(r25 == (r24 == 0)))) rfl rfl (fun w => by kernel_rfl)) ?_
        refine HW.pure (i := 9) hH rfl (by kernel_rfl) (Wants.free rfl) rfl (fun _ => hS11) (Rd.move (v := .bool (!(r25 == (r24 == 0)))) rfl) ?_
        obtain ⟨J2, hJ2, h1_J2, h0_J2⟩ := h
        suffices K3 : ∀ (b6 : Bool) (w22 : World), Boxes w22 [(b2, [.int .i64 c1, .int .i64 c2, .int .i64 c3, .slice c4 c4n c4c, .slice c5 c5n c5c], 36)] → J2 b6 w22 → H 12 #[true, true, true, true, true, true, true, true, true, true, true, true, true, true, true, true, true, true, true, false, false, false, false, false, false, false, false, false, false, false, false] [(1, .slice places1 places1n places1c), (4, .bool x8), (6, .pointer r4), (8, .pointer (some (⟨b2, 0, none⟩ : Addr))), (12, .int .i64 i2), (13, .int .u32 r23), (14, .int .i64 r24), (83, .bool b6)] w22 by
          rcases Bool.eq_false_or_eq_true (!(r25 == (r24 == 0))) with hb7 | hb7
          · have h := h0_J2 hb7
            refine HW.skip (i := 10) hH rfl (by kernel_rfl) (Skips.on rfl rfl rfl rfl rfl hb7) rfl (fun _ => hS11) ?_
            refine HW.skip (i := 11) hH rfl (by kernel_rfl) (Skips.on rfl rfl rfl rfl rfl hb7) rfl (fun _ => hS11) ?_
            refine HW.skip (i := 12) hH rfl (by kernel_rfl) (Skips.on rfl rfl rfl rfl rfl hb7) rfl (fun _ => hS11) ?_
            refine HW.skip (i := 13) hH rfl (by kernel_rfl) (Skips.on rfl rfl rfl rfl rfl hb7) rfl (fun _ => hS11) ?_
            refine HW.skip (i := 14) hH rfl (by kernel_rfl) (Skips.on rfl rfl rfl rfl rfl hb7) rfl (fun _ => hS11) ?_
            refine HW.skip (i := 15) hH rfl (by kernel_rfl) (Skips.on rfl rfl rfl rfl rfl hb7) rfl (fun _ => hS11) ?_
            refine HW.skip1 (i := 16) hH (by kernel_rfl) rfl (Skips.on rfl rfl rfl rfl rfl hb7) rfl (fun hc => by cases hc) ?_
            refine HW.skip (i := 17) hH rfl (by kernel_rfl) (Skips.on rfl rfl rfl rfl rfl hb7) rfl (fun hc => by cases hc) ?_
            refine HW.pure (i := 18) hH rfl (by kernel_rfl) (Wants.free rfl) rfl (fun hc => by cases hc) (Rd.pickT rfl hb7 rfl) ?_
            exact HW.sub hH (by exact ⟨rfl, rfl, rfl, rfl, rfl, rfl, rfl, rfl, trivial⟩) (K3 true w21 (by exact hB) h)
          · have h := h1_J2 hb7
            refine HW.pure (i := 10) hH rfl (by kernel_rfl) (Wants.on rfl rfl rfl rfl rfl hb7) rfl (fun _ => hS11) (Rd.move (v := .int .u32 r23) rfl) ?_
            refine HW.take (i := 11) hH rfl (by kernel_rfl) (by kernel_rfl) (Wants.on rfl rfl rfl rfl rfl hb7) rfl (fun _ => hS11) (Rd.ldN (cs := [.int .i64 c1, .int .i64 c2, .int .i64 c3, .slice c4 c4n c4c, .slice c5 c5n c5c]) rfl (by kernel_rfl) (by kernel_rfl) (fun w h => cellsAt_get (box_cells (Boxes.at (i := 0) h.2 rfl) rfl))) ?_
            refine HW.pure (i := 12) hH rfl (by kernel_rfl) (Wants.on rfl rfl rfl rfl rfl hb7) rfl (fun _ => hS11) (Rd.move (v := .slice places1 places1n places1c) rfl) ?_
            refine HW.pure (i := 13) hH rfl (by kernel_rfl) (Wants.on rfl rfl rfl rfl rfl hb7) rfl (fun _ => hS11) (Rd.move (v := .int .i64 i2) rfl) ?_
            refine HW.pure (i := 14) hH rfl (by kernel_rfl) (Wants.on rfl rfl rfl rfl rfl hb7) rfl (fun _ => hS11) (Rd.iaS (q := a2) (sz := 2) (by rw [← he2]; rfl) rfl Try.underlying47 (by kernel_rfl) hi3 hi4) ?_
            obtain ⟨t11, t12, hc4, h⟩ := h
            refine HW.val (i := 15) hH (by kernel_rfl) rfl (Wants.on rfl rfl rfl rfl rfl hb7) rfl (fun a ha => (Rd.ldN (cs := [.int .i64 t11, .int .i64 t12]) rfl (by kernel_rfl) (by kernel_rfl) (cellsS hc4)) a ha _ rfl) (fun _ => hS11) ?_
            refine HW.call (i := 16) hH (by kernel_rfl) rfl (Wants.on rfl rfl rfl rfl rfl hb7) rfl (Cl.fn (f := 30) rfl Try.func30 (by kernel_rfl) rfl) h (fun e w23 h_ => ?_)
            clear h
            obtain ⟨r26, rfl, h⟩ := h_
            obtain ⟨hsm6, h⟩ := h
            replace hB := Boxes.same hB (by exact hsm6)
            refine ⟨_, rfl, (fun hc => by cases hc), ?_⟩
            refine HW.pure (i := 17) hH rfl (by kernel_rfl) (Wants.on rfl rfl rfl rfl rfl hb7) rfl (fun hc => by cases hc) (Rd.bin (v := .bool (!(r23 == r26))) rfl rfl (fun w => by kernel_rfl)) ?_
            refine HW.pure (i := 18) hH rfl (by kernel_rfl) (Wants.free rfl) rfl (fun hc => by cases hc) (Rd.pickF rfl hb7 rfl) ?_
            exact HW.sub hH (by exact ⟨rfl, rfl, rfl, rfl, rfl, rfl, rfl, rfl, trivial⟩) (K3 (!(r23 == r26)) w23 (by exact hB) h)
        intro b6 w22 hB h_
        have h := hJ2 b6 w22 h_; clear h_
        refine HW.pure (i := 19) hH rfl (by kernel_rfl) (Wants.free rfl) rfl (fun hc => by cases hc) (Rd.move (v := .bool b6) rfl) ?_
        suffices K4 : H 0 #[true, true, true, true, true, true, true, true, true, true, true, true, true, true, true, true, true, true, true, true, true, true, true, true, true, true, true, true, true, true, true] [(1, .slice places1 places1n places1c), (4, .bool x8), (6, .pointer r4), (8, .pointer (some (⟨b2, 0, none⟩ : Addr))), (12, .int .i64 i2), (95, .bool (b6 || (!(r24 == 0) && (!(r23 == 0) || !(r24 == 2)))))] w22 by
          rcases Bool.eq_false_or_eq_true b6 with hb9 | hb9
          · skip
            refine HW.skip (i := 20) hH rfl (by kernel_rfl) (Skips.on rfl rfl rfl rfl rfl hb9) rfl (fun hc => by cases hc) ?_
            refine HW.skip (i := 21) hH rfl (by kernel_rfl) (Skips.on rfl rfl rfl rfl rfl hb9) rfl (fun hc => by cases hc) ?_
            refine HW.skip (i := 22) hH rfl (by kernel_rfl) (Skips.on rfl rfl rfl rfl rfl hb9) rfl (fun hc => by cases hc) ?_
            refine HW.skip (i := 23) hH rfl (by kernel_rfl) (Skips.un rfl rfl rfl rfl rfl) rfl (fun hc => by cases hc) ?_
            refine HW.skip (i := 24) hH rfl (by kernel_rfl) (Skips.un rfl rfl rfl rfl rfl) rfl (fun hc => by cases hc) ?_
            refine HW.skip (i := 25) hH rfl (by kernel_rfl) (Skips.un rfl rfl rfl rfl rfl) rfl (fun hc => by cases hc) ?_
            refine HW.skip (i := 26) hH rfl (by kernel_rfl) (Skips.un rfl rfl rfl rfl rfl) rfl (fun hc => by cases hc) ?_
            refine HW.skip (i := 27) hH rfl (by kernel_rfl) (Skips.un rfl rfl rfl rfl rfl) rfl (fun hc => by cases hc) ?_
            refine HW.skip (i := 28) hH rfl (by kernel_rfl) (Skips.un rfl rfl rfl rfl rfl) rfl (fun hc => by cases hc) ?_
            refine HW.skip (i := 29) hH rfl (by kernel_rfl) (Skips.on rfl rfl rfl rfl rfl hb9) rfl (fun hc => by cases hc) ?_
            refine HW.pure (i := 30) hH rfl (by kernel_rfl) (Wants.free rfl) rfl (fun hc => by cases hc) (Rd.pickT rfl hb9 rfl) ?_
            exact HW.sub hH (by exact ⟨rfl, rfl, rfl, rfl, rfl, (by rw [hb9]; rfl), trivial⟩) K4
          · skip
            refine HW.pure (i := 20) hH rfl (by kernel_rfl) (Wants.on rfl rfl rfl rfl rfl hb9) rfl (fun hc => by cases hc) (Rd.move (v := .int .i64 r24) rfl) ?_
            refine HW.pure (i := 21) hH rfl (by kernel_rfl) (Wants.on rfl rfl rfl rfl rfl hb9) rfl (fun hc => by cases hc) (Rd.bin (v := .bool (!(r24 == 0))) rfl rfl (fun w => by kernel_rfl)) ?_
            refine HW.pure (i := 22) hH rfl (by kernel_rfl) (Wants.on rfl rfl rfl rfl rfl hb9) rfl (fun hc => by cases hc) (Rd.move (v := .bool (!(r24 == 0))) rfl) ?_
            suffices K5 : H 1 #[true, true, true, true, true, true, true, true, true, true, true, true, true, true, true, true, true, true, true, true, true, true, true, true, true, true, true, true, true, true, false] [(1, .slice places1 places1n places1c), (4, .bool x8), (6, .pointer r4), (8, .pointer (some (⟨b2, 0, none⟩ : Addr))), (12, .int .i64 i2), (84, .bool b6), (94, .bool (!(r24 == 0) && (!(r23 == 0) || !(r24 == 2))))] w22 by
              rcases Bool.eq_false_or_eq_true (!(r24 == 0)) with hb11 | hb11
              · skip
                refine HW.pure (i := 23) hH rfl (by kernel_rfl) (Wants.on rfl rfl rfl rfl rfl hb11) rfl (fun hc => by cases hc) (Rd.move (v := .int .u32 r23) rfl) ?_
                refine HW.pure (i := 24) hH rfl (by kernel_rfl) (Wants.on rfl rfl rfl rfl rfl hb11) rfl (fun hc => by cases hc) (Rd.bin (v := .bool (!(r23 == 0))) rfl rfl (fun w => by kernel_rfl)) ?_
                refine HW.pure (i := 25) hH rfl (by kernel_rfl) (Wants.on rfl rfl rfl rfl rfl hb11) rfl (fun hc => by cases hc) (Rd.move (v := .bool (!(r23 == 0))) rfl) ?_
                suffices K6 : H 2 #[true, true, true, true, true, true, true, true, true, true, true, true, true, true, true, true, true, true, true, true, true, true, true, true, true, true, true, true, true, false, false] [(1, .slice places1 places1n places1c), (4, .bool x8), (6, .pointer r4), (8, .pointer (some (⟨b2, 0, none⟩ : Addr))), (12, .int .i64 i2), (84, .bool b6), (87, .bool (!(r24 == 0))), (93, .bool (!(r23 == 0) || !(r24 == 2)))] w22 by
                  rcases Bool.eq_false_or_eq_true (!(r23 == 0)) with hb13 | hb13
                  · skip
                    refine HW.skip (i := 26) hH rfl (by kernel_rfl) (Skips.on rfl rfl rfl rfl rfl hb13) rfl (fun hc => by cases hc) ?_
                    refine HW.skip (i := 27) hH rfl (by kernel_rfl) (Skips.on rfl rfl rfl rfl rfl hb13) rfl (fun hc => by cases hc) ?_
                    refine HW.pure (i := 28) hH rfl (by kernel_rfl) (Wants.on rfl rfl rfl rfl rfl hb11) rfl (fun hc => by cases hc) (Rd.pickT rfl hb13 rfl) ?_
                    exact HW.sub hH (by exact ⟨rfl, rfl, rfl, rfl, rfl, rfl, rfl, (by rw [hb13]; rfl), trivial⟩) K6
                  · skip
                    refine HW.pure (i := 26) hH rfl (by kernel_rfl) (Wants.on rfl rfl rfl rfl rfl hb13) rfl (fun hc => by cases hc) (Rd.move (v := .int .i64 r24) rfl) ?_
                    refine HW.pure (i := 27) hH rfl (by kernel_rfl) (Wants.on rfl rfl rfl rfl rfl hb13) rfl (fun hc => by cases hc) (Rd.bin (v := .bool (!(r24 == 2))) rfl rfl (fun w => by kernel_rfl)) ?_
                    refine HW.pure (i := 28) hH rfl (by kernel_rfl) (Wants.on rfl rfl rfl rfl rfl hb11) rfl (fun hc => by cases hc) (Rd.pickF rfl hb13 rfl) ?_
                    exact HW.sub hH (by exact ⟨rfl, rfl, rfl, rfl, rfl, rfl, rfl, (by rw [hb13]; rfl), trivial⟩) K6
                refine HW.pure (i := 29) hH rfl (by kernel_rfl) (Wants.on rfl rfl rfl rfl rfl hb9) rfl (fun hc => by cases hc) (Rd.pickT rfl hb11 rfl) ?_
                exact HW.sub hH (by exact ⟨rfl, rfl, rfl, rfl, rfl, rfl, (by rw [hb11]; rfl), trivial⟩) K5
              · skip
                refine HW.skip (i := 23) hH rfl (by kernel_rfl) (Skips.on rfl rfl rfl rfl rfl hb11) rfl (fun hc => by cases hc) ?_
                refine HW.skip (i := 24) hH rfl (by kernel_rfl) (Skips.on rfl rfl rfl rfl rfl hb11) rfl (fun hc => by cases hc) ?_
                refine HW.skip (i := 25) hH rfl (by kernel_rfl) (Skips.on rfl rfl rfl rfl rfl hb11) rfl (fun hc => by cases hc) ?_
                refine HW.skip (i := 26) hH rfl (by kernel_rfl) (Skips.un rfl rfl rfl rfl rfl) rfl (fun hc => by cases hc) ?_
                refine HW.skip (i := 27) hH rfl (by kernel_rfl) (Skips.un rfl rfl rfl rfl rfl) rfl (fun hc => by cases hc) ?_
                refine HW.skip (i := 28) hH rfl (by kernel_rfl) (Skips.on rfl rfl rfl rfl rfl hb11) rfl (fun hc => by cases hc) ?_
                refine HW.pure (i := 29) hH rfl (by kernel_rfl) (Wants.on rfl rfl rfl rfl rfl hb9) rfl (fun hc => by cases hc) (Rd.pickF rfl hb11 rfl) ?_
                exact HW.sub hH (by exact ⟨rfl, rfl, rfl, rfl, rfl, rfl, (by rw [hb11]; rfl), trivial⟩) K5
            refine HW.pure (i := 30) hH rfl (by kernel_rfl) (Wants.free rfl) rfl (fun hc => by cases hc) (Rd.pickF rfl hb9 rfl) ?_
            exact HW.sub hH (by exact ⟨rfl, rfl, rfl, rfl, rfl, (by rw [hb9]; rfl), trivial⟩) K4
        refine HW.done hH (by kernel_rfl) ?_
        refine NW.then ?_
        refine CW.cond rfl (fun hb14 => ?_) (fun hb14 => ?_)
        · replace h := h.1 hb14
          refine CW.seq ?_
          refine CW.region fun L hL => ?_
          refine LW.rd hL rfl (Wants.free rfl) rfl (Rd.assign (v := .bool false) rfl) ?_
          refine LW.nil hL rfl ?_
          refine NW.then ?_
          refine CW.ret ?_
          refine RW.block ?_
          refine RW.then ?_
          refine RW.then ?_
          refine RW.block ?_
          refine RW.then ?_
          exact res1 rfl rfl ⟨false, rfl, h⟩
        · replace h := h.2 hb14
          refine CW.skip ?_
          refine NW.block ?_
          refine NW.then ?_
          refine CW.region fun L hL => ?_
          refine LW.rd hL rfl (Wants.free rfl) rfl (Rd.move (v := .int .i64 i2) rfl) ?_
          refine LW.rd hL rfl (Wants.free rfl) rfl (Rd.bin (v := .int .i64 (IntKind.wrap .i64 (i2 + 1))) rfl rfl (fun w => by kernel_rfl)) ?_
          refine LW.rd hL rfl (Wants.free rfl) rfl (Rd.assign (v := .int .i64 (IntKind.wrap .i64 (i2 + 1))) rfl) ?_
          refine LW.nil hL rfl ?_
          exact NW.loop (S := Bool × Int) (Ek := fun s3 => [(1, .slice places1 places1n places1c), (6, .pointer r4), (8, .pointer (some (⟨b2, 0, none⟩ : Addr))), (4, .bool s3.1), (12, .int .i64 s3.2)]) (x8, IntKind.wrap .i64 (i2 + 1)) (by exact ⟨rfl, rfl, rfl, rfl, rfl, trivial⟩) ⟨⟨h.1, hB⟩, h.2⟩
      · replace h := h.2 hb6
        refine CW.exit ?_
        refine XW.then ?_
        refine XW.then ?_
        refine XW.hit ?_
        refine NW.then ?_
        refine CW.seq ?_
        refine CW.region fun L hL => ?_
        refine LW.call hL rfl (Wants.free rfl) rfl (Cl.fn (f := 24) rfl Try.func24 (by kernel_rfl) rfl) h (fun e w24 h_ => ?_)
        clear h
        obtain ⟨r27, rfl, h⟩ := h_
        refine ⟨_, rfl, ?_⟩
        refine LW.rd hL rfl (Wants.free rfl) rfl (Rd.assign (v := .bool r27) rfl) ?_
        refine LW.nil hL rfl ?_
        refine NW.then ?_
        refine CW.ret ?_
        exact res1 rfl rfl ⟨r27, rfl, h⟩

/- pomander/pomanderlaw12.FlowChain -/
def W_pomanderlaw12_FlowChain (l1 : Option Addr) (l1n : Nat) (l1c : Nat) (set1 : Int) (w : World) (R : Bool → World → Prop) : Prop :=
  (((decide ((l1n : Int) < 2) || decide ((l1n : Int) > 12)) || decide (set1 ≥ 65536)) = true → Calls Try.prog 24 #[] w fun e w1 => ∃ (r2 : Bool), e = .returned (.bool r2) ∧ (R r2 w1)) ∧ (((decide ((l1n : Int) < 2) || decide ((l1n : Int) > 12)) || decide (set1 ≥ 65536)) = false → ∀ (b1 : Nat) (w3 : World), (w.heap.size ≤ b1 ∧ b1 < w3.heap.size) → Chg [] w w3 → (Calls Try.prog 25 #[.agg #[.int .i64 2, .int .i64 2], .int .i64 65536] w3 fun e w4 => ∃ (r3 : Option Addr) (r4 : Int), e = .returned (.tuple #[.pointer r3, .int .i64 r4]) ∧ (∃ (I1 : Bool → Int → World → Prop) (m1 : Bool → Int → World → Nat), I1 false 0 w4 ∧ ∀ (x1 : Bool) (i1 : Int) (w5 : World), I1 x1 i1 w5 → ((decide (i1 < (l1n : Int))) = true → ∃ a1 : Addr, l1 = some a1 ∧ (0 : Int) ≤ i1 ∧ i1 < (l1n : Int) ∧ (∃ (t1 : Int) (t2 : Int), CellsAt w5 (a1.add (Int.toNat i1 * 2)) 0 [.int .i64 t1, .int .i64 t2] ∧ (Calls Try.prog 28 #[.pointer r3, .agg #[.int .i64 t1, .int .i64 t2]] w5 fun e w6 => ∃ (r5 : Int) (r6 : Int), e = .returned (.tuple #[.int .u32 r5, .int .i64 r6]) ∧ (((!(r6 == 0)) = true → Calls Try.prog 24 #[] w6 fun e w7 => ∃ (r7 : Bool), e = .returned (.bool r7) ∧ (R r7 w7)) ∧ ((!(r6 == 0)) = false → ∃ (I2 : Bool → Int → World → Prop) (m2 : Bool → Int → World → Nat), I2 x1 0 w6 ∧ ∀ (x2 : Bool) (k1 : Int) (w8 : World), I2 x2 k1 w8 → ((decide (k1 < i1)) = true → ∃ a2 : Addr, l1 = some a2 ∧ (0 : Int) ≤ k1 ∧ k1 < (l1n : Int) ∧ (∀ (w9 : World), Chg [] w8 w9 → (∃ (t3 : Int) (t4 : Int), CellsAt w9 (a2.add (Int.toNat k1 * 2)) 0 [.int .i64 t3, .int .i64 t4] ∧ (∃ (t5 : Int) (t6 : Int), CellsAt w9 (a1.add (Int.toNat i1 * 2)) 0 [.int .i64 t5, .int .i64 t6] ∧ ((((t3 == t5) && (t4 == t6)) = true → Calls Try.prog 24 #[] w9 fun e w10 => ∃ (r8 : Bool), e = .returned (.bool r8) ∧ (R r8 w10)) ∧ (((t3 == t5) && (t4 == t6)) = false → (I2 x2 (IntKind.wrap .i64 (k1 + 1)) w9 ∧ m2 x2 (IntKind.wrap .i64 (k1 + 1)) w9 < m2 x2 k1 w8))))))) ∧ ((decide (k1 < i1)) = false → (I1 x2 (IntKind.wrap .i64 (i1 + 1)) w8 ∧ m1 x2 (IntKind.wrap .i64 (i1 + 1)) w8 < m1 x1 i1 w5))))))) ∧ ((decide (i1 < (l1n : Int))) = false → ∃ a3 : Addr, l1 = some a3 ∧ (0 : Int) ≤ 0 ∧ 0 < (l1n : Int) ∧ (∃ (t7 : Int) (t8 : Int), CellsAt w5 (a3.add (Int.toNat 0 * 2)) 0 [.int .i64 t7, .int .i64 t8] ∧ (Calls Try.prog 36 #[.pointer r3, .agg #[.int .i64 t7, .int .i64 t8], .int .i64 1, .int .u32 set1] w5 fun e w11 => ∃ (r9 : Int), e = .returned (.int .i64 r9) ∧ (Calls Try.prog 37 #[.pointer r3] w11 fun e w12 => ∃ (r10 : Option Addr), e = .returned (.pointer r10) ∧ (∃ (I3 : Bool → (Option Addr) → Nat → Nat → Int → World → Prop) (m3 : Bool → (Option Addr) → Nat → Nat → Int → World → Nat), I3 x1 none 0 0 1 w12 ∧ ∀ (x3 : Bool) (all1 : Option Addr) (all1n : Nat) (all1c : Nat) (i2 : Int) (w13 : World), I3 x3 all1 all1n all1c i2 w13 → ((decide (i2 < (l1n : Int))) = true → ∀ (w14 : World), Chg [] w13 w14 → (∃ a4 : Addr, l1 = some a4 ∧ (0 : Int) ≤ i2 ∧ i2 < (l1n : Int) ∧ (∃ (t9 : Int) (t10 : Int), CellsAt w14 (a4.add (Int.toNat i2 * 2)) 0 [.int .i64 t9, .int .i64 t10] ∧ (∃ a5 : Addr, l1 = some a5 ∧ (0 : Int) ≤ IntKind.wrap .i64 (i2 - 1) ∧ IntKind.wrap .i64 (i2 - 1) < (l1n : Int) ∧ (∃ (t11 : Int) (t12 : Int), CellsAt w14 (a5.add (Int.toNat (IntKind.wrap .i64 (i2 - 1)) * 2)) 0 [.int .i64 t11, .int .i64 t12] ∧ (∃ J1 : Nat → Int → Int → (Option Addr) → Nat → Nat → World → Prop, (∀ (b2 : Nat) (x4 : Int) (x5 : Int) (x6 : Option Addr) (x6n : Nat) (x6c : Nat) (w15 : World), J1 b2 x4 x5 x6 x6n x6c w15 → ∀ (w20 : World), Chg [b2] w15 w20 → (∀ b7 : Nat, b7 = World.size w20 → ∀ w21 : World, w21 = World.alloc w20 (.cells #[.int .i64 x4, .int .i64 x5, .slice x6 x6n x6c] 81) → (Calls Try.prog 38 #[.pointer r3, .slice (some (⟨b7, 0, none⟩ : Addr)) 1 1] w21 fun e w22 => ∃ (r11 : Int), e = .returned (.int .i64 r11) ∧ (Same w21 w22 [b2] ∧ (((!(r11 == 0)) = true → R false w22) ∧ ((!(r11 == 0)) = false → ∀ b8 : Nat, b8 = World.size w22 → ∀ w23 : World, w23 = World.alloc w22 (.cells #[.int .i64 x4, .int .i64 x5, .slice x6 x6n x6c] 81) → (∃ (l2 : Option Addr) (l2n : Nat) (l2c : Nat) (w24 : World), (Builtin.append_ #[25, 25] 25 #[.slice all1 all1n all1c, .slice (some (⟨b8, 0, none⟩ : Addr)) 1 1]).run Try.prog w23 = .ok (.slice l2 l2n l2c) w24 ∧ ((I3 x3 l2 l2n l2c (IntKind.wrap .i64 (i2 + 1)) w24 ∧ m3 x3 l2 l2n l2c (IntKind.wrap .i64 (i2 + 1)) w24 < m3 x3 all1 all1n all1c i2 w13))))))))) ∧ (∀ b3 : Nat, b3 = World.size w14 → ∀ w16 : World, w16 = World.alloc w14 (.cells #[.int .i64 t11, .int .i64 t12] 56) → (∀ (b4 : Nat) (w17 : World), (w16.heap.size ≤ b4 ∧ b4 < w17.heap.size) → Chg [] w16 w17 → (J1 b4 t9 t10 (some (⟨b3, 0, none⟩ : Addr)) 1 1 w17))) ∧ (∀ (b5 : Nat) (w18 : World), (w14.heap.size ≤ b5 ∧ b5 < w18.heap.size) → Chg [] w14 w18 → (∀ b6 : Nat, b6 = World.size w18 → ∀ w19 : World, w19 = World.alloc w18 (.cells #[.int .i64 t11, .int .i64 t12] 56) → (J1 b5 t9 t10 (some (⟨b6, 0, none⟩ : Addr)) 1 1 w19))))))))) ∧ ((decide (i2 < (l1n : Int))) = false → Calls Try.prog 38 #[.pointer r10, .slice all1 all1n all1c] w13 fun e w25 => ∃ (r12 : Int), e = .returned (.int .i64 r12) ∧ (((!(r12 == 0)) = true → R false w25) ∧ ((!(r12 == 0)) = false → ∃ (I4 : Bool → Int → World → Prop) (m4 : Bool → Int → World → Nat), I4 x3 0 w25 ∧ ∀ (x7 : Bool) (i3 : Int) (w26 : World), I4 x7 i3 w26 → ((decide (i3 < (l1n : Int))) = true → ∃ a6 : Addr, l1 = some a6 ∧ (0 : Int) ≤ i3 ∧ i3 < (l1n : Int) ∧ (∃ (t13 : Int) (t14 : Int), CellsAt w26 (a6.add (Int.toNat i3 * 2)) 0 [.int .i64 t13, .int .i64 t14] ∧ (Calls Try.prog 28 #[.pointer r3, .agg #[.int .i64 t13, .int .i64 t14]] w26 fun e w27 => ∃ (r13 : Int) (r14 : Int), e = .returned (.tuple #[.int .u32 r13, .int .i64 r14]) ∧ (∃ (t15 : Int) (t16 : Int), CellsAt w27 (a6.add (Int.toNat i3 * 2)) 0 [.int .i64 t15, .int .i64 t16] ∧ (Calls Try.prog 28 #[.pointer r10, .agg #[.int .i64 t15, .int .i64 t16]] w27 fun e w28 => ∃ (r15 : Int) (r16 : Int), e = .returned (.tuple #[.int .u32 r15, .int .i64 r16]) ∧ ((((!(r13 == set1) || (decide (i3 < 2) && !(r15 == set1))) || (decide (i3 ≥ 2) && !(r15 == 0))) = true → R false w28) ∧ (((!(r13 == set1) || (decide (i3 < 2) && !(r15 == set1))) || (decide (i3 ≥ 2) && !(r15 == 0))) = false → (I4 x7 (IntKind.wrap .i64 (i3 + 1)) w28 ∧ m4 x7 (IntKind.wrap .i64 (i3 + 1)) w28 < m4 x7 i3 w26)))))))) ∧ ((decide (i3 < (l1n : Int))) = false → Calls Try.prog 24 #[] w26 fun e w29 => ∃ (r17 : Bool), e = .returned (.bool r17) ∧ (R r17 w29)))))))))))))
set_option maxRecDepth 100000 in
theorem go_pomanderlaw12_FlowChain (l1 : Option Addr) (l1n : Nat) (l1c : Nat) (set1 : Int) (w : World) (R : Bool → World → Prop) (h : W_pomanderlaw12_FlowChain l1 l1n l1c set1 w R) : Calls Try.prog 6 #[.slice l1 l1n l1c, .int .u32 set1] w (fun e w' => ∃ (r1 : Bool), e = .returned (.bool r1) ∧ R r1 w') := by
  unfold W_pomanderlaw12_FlowChain at h
  refine enter (N := 156) Try.func6 rfl rfl ?_
  refine CW.seq ?_
  refine CW.region fun L hL => ?_
  refine LW.rd hL rfl (Wants.free rfl) rfl (Rd.assign (v := .bool false) rfl) ?_
  refine LW.nil hL rfl ?_
  refine NW.then ?_
  refine CW.seq ?_
  refine CW.seq ?_
  refine CW.region fun L hL => ?_
  refine LW.rd hL rfl (Wants.free rfl) rfl (Rd.move (v := .slice l1 l1n l1c) rfl) ?_
  refine LW.rd hL rfl (Wants.free rfl) rfl (Rd.builtin (v := .int .i64 (l1n : Int)) rfl (fun _ _ => by kernel_rfl)) ?_
  refine LW.rd hL rfl (Wants.free rfl) rfl (Rd.bin (v := .bool (decide ((l1n : Int) < 2))) rfl rfl (fun w => by kernel_rfl)) ?_
  refine LW.rd hL rfl (Wants.free rfl) rfl (Rd.move (v := .bool (decide ((l1n : Int) < 2))) rfl) ?_
  suffices K1 : L 8 [(0, .slice l1 l1n l1c), (1, .int .u32 set1), (4, .bool false), (28, .bool (decide ((l1n : Int) < 2) || decide ((l1n : Int) > 12)))] w by
    rcases Bool.eq_false_or_eq_true (decide ((l1n : Int) < 2)) with hb2 | hb2
    · skip
      refine LW.skip hL rfl (Skips.on rfl rfl rfl rfl rfl hb2) rfl ?_
      refine LW.skip hL rfl (Skips.on rfl rfl rfl rfl rfl hb2) rfl ?_
      refine LW.skip hL rfl (Skips.on rfl rfl rfl rfl rfl hb2) rfl ?_
      refine LW.rd hL rfl (Wants.free rfl) rfl (Rd.pickT rfl hb2 rfl) ?_
      exact LW.sub hL (by exact ⟨rfl, rfl, rfl, (by rw [hb2]; rfl), trivial⟩) K1
    · skip
      refine LW.rd hL rfl (Wants.on rfl rfl rfl rfl rfl hb2) rfl (Rd.move (v := .slice l1 l1n l1c) rfl) ?_
      refine LW.rd hL rfl (Wants.on rfl rfl rfl rfl rfl hb2) rfl (Rd.builtin (v := .int .i64 (l1n : Int)) rfl (fun _ _ => by kernel_rfl)) ?_
      refine LW.rd hL rfl (Wants.on rfl rfl rfl rfl rfl hb2) rfl (Rd.bin (v := .bool (decide ((l1n : Int) > 12))) rfl rfl (fun w => by kernel_rfl)) ?_
      refine LW.rd hL rfl (Wants.free rfl) rfl (Rd.pickF rfl hb2 rfl) ?_
      exact LW.sub hL (by exact ⟨rfl, rfl, rfl, (by rw [hb2]; rfl), trivial⟩) K1
  refine LW.rd hL rfl (Wants.free rfl) rfl (Rd.move (v := .bool (decide ((l1n : Int) < 2) || decide ((l1n : Int) > 12))) rfl) ?_
  suffices K2 : L 12 [(0, .slice l1 l1n l1c), (1, .int .u32 set1), (4, .bool false), (32, .bool ((decide ((l1n : Int) < 2) || decide ((l1n : Int) > 12)) || decide (set1 ≥ 65536)))] w by
    rcases Bool.eq_false_or_eq_true (decide ((l1n : Int) < 2) || decide ((l1n : Int) > 12)) with hb4 | hb4
    · skip
      refine LW.skip hL rfl (Skips.on rfl rfl rfl rfl rfl hb4) rfl ?_
      refine LW.skip hL rfl (Skips.on rfl rfl rfl rfl rfl hb4) rfl ?_
      refine LW.rd hL rfl (Wants.free rfl) rfl (Rd.pickT rfl hb4 rfl) ?_
      exact LW.sub hL (by exact ⟨rfl, rfl, rfl, (by rw [hb4]; rfl), trivial⟩) K2
    · skip
      refine LW.rd hL rfl (Wants.on rfl rfl rfl rfl rfl hb4) rfl (Rd.move (v := .int .u32 set1) rfl) ?_
      refine LW.rd hL rfl (Wants.on rfl rfl rfl rfl rfl hb4) rfl (Rd.bin (v := .bool (decide (set1 ≥ 65536))) rfl rfl (fun w => by kernel_rfl)) ?_
      refine LW.rd hL rfl (Wants.free rfl) rfl (Rd.pickF rfl hb4 rfl) ?_
      exact LW.sub hL (by exact ⟨rfl, rfl, rfl, (by rw [hb4]; rfl), trivial⟩) K2
  refine LW.nil hL rfl ?_
  refine NW.then ?_
  refine CW.cond rfl (fun hb5 => ?_) (fun hb5 => ?_)
  · replace h := h.1 hb5
    refine CW.seq ?_
    refine CW.region fun L hL => ?_
    refine LW.call hL rfl (Wants.free rfl) rfl (Cl.fn (f := 24) rfl Try.func24 (by kernel_rfl) rfl) h (fun e w1 h_ => ?_)
    clear h
    obtain ⟨r2, rfl, h⟩ := h_
    refine ⟨_, rfl, ?_⟩
    refine LW.rd hL rfl (Wants.free rfl) rfl (Rd.assign (v := .bool r2) rfl) ?_
    refine LW.nil hL rfl ?_
    refine NW.then ?_
    refine CW.ret ?_
    refine RW.then ?_
    exact res1 rfl rfl ⟨r2, rfl, h⟩
  · replace h := h.2 hb5
    refine CW.skip ?_
    refine NW.then ?_
    refine CW.seq ?_
    refine CW.region fun L hL => ?_
    refine LW.rd hL rfl (Wants.free rfl) rfl (Rd.build (v := .agg #[.int .i64 2, .int .i64 2]) rfl (fun _ => by kernel_rfl)) ?_
    obtain ⟨b1, hb_b1⟩ : ∃ b1, b1 = World.size w := ⟨_, rfl⟩
    obtain ⟨w2, hw_w2⟩ : ∃ w2, w2 = World.alloc w (.cells #[.int .i64 0, .int .i64 0] 30) := ⟨_, rfl⟩
    refine LW.val hL rfl (Wants.free rfl) rfl (boxE hb_b1 hw_w2 (Vl.alloc (z := .agg #[.int .i64 0, .int .i64 0]) (by kernel_rfl))) ?_
    have hB := Boxes.alloc (cs := [.int .i64 0, .int .i64 0]) (T := 30) (Boxes.nil w) hb_b1 hw_w2
    have hlo_b1 := sil_lo (Chg.refl [] w) hb_b1
    have hc_w2 := sil_alloc (Chg.refl [] w) hw_w2
    obtain ⟨w3, hw_w3⟩ : ∃ x, x = setCells w2 (⟨b1, 0, none⟩ : Addr) 0 [.int .i64 2, .int .i64 2] := ⟨_, rfl⟩
    refine LW.eff hL rfl (Wants.free rfl) rfl (stNE hw_w3 (Ef.stN (cs := [.int .i64 2, .int .i64 2]) rfl rfl (by kernel_rfl) (List.forall_mem_cons.2 ⟨rfl, (List.forall_mem_cons.2 ⟨rfl, (List.forall_mem_nil _)⟩)⟩) (has_of (hB.at (i := 0) rfl) (by simp)) (free_of' (hB.at (i := 0) rfl)))) ?_
    replace hB : Boxes w3 [(b1, [.int .i64 2, .int .i64 2], 30)] := Boxes.store (vs := [.int .i64 2, .int .i64 2]) (i := 0) (o := 0) hB rfl rfl rfl rfl hw_w3
    have hc_w3 := sil_new hc_w2 (sil_cN hw_w3) hlo_b1
    refine LW.nil hL rfl ?_
    refine NW.then ?_
    refine CW.seq ?_
    refine CW.region fun L hL => ?_
    refine LW.rd hL rfl (Wants.free rfl) rfl (Rd.ldN (cs := [.int .i64 2, .int .i64 2]) rfl (by kernel_rfl) (by kernel_rfl) (cellsS (box_cells (hB.at (i := 0) rfl) rfl))) ?_
    replace h := h b1 w3 ⟨hlo_b1, lt_of_heap (hB.at (i := 0) rfl)⟩ hc_w3
    refine LW.call hL rfl (Wants.free rfl) rfl (Cl.fn (f := 25) rfl Try.func25 (by kernel_rfl) rfl) h (fun e w4 h_ => ?_)
    clear h
    obtain ⟨r3, r4, rfl, h⟩ := h_
    refine ⟨_, rfl, ?_⟩
    refine LW.rd hL rfl (Wants.free rfl) rfl (Rd.move (v := .tuple #[.pointer r3, .int .i64 r4]) rfl) ?_
    refine LW.rd hL rfl (Wants.free rfl) rfl (Rd.extract (v := .pointer r3) rfl rfl) ?_
    refine LW.rd hL rfl (Wants.free rfl) rfl (Rd.extract (v := .int .i64 r4) rfl rfl) ?_
    refine LW.rd hL rfl (Wants.free rfl) rfl (Rd.assign (v := .pointer r3) rfl) ?_
    refine LW.rd hL rfl (Wants.free rfl) rfl (Rd.assign (v := .int .i64 r4) rfl) ?_
    refine LW.nil hL rfl ?_
    refine NW.then ?_
    refine CW.seq ?_
    refine CW.seq ?_
    refine CW.region fun L hL => ?_
    refine LW.rd hL rfl (Wants.free rfl) rfl (Rd.assign (v := .int .i64 0) rfl) ?_
    refine LW.nil hL rfl ?_
    refine NW.then ?_
    refine CW.block ?_
    obtain ⟨I1, m1, hI1, h⟩ := h
    refine CW.loop (S := Bool × Int) (fun s1 => [(0, .slice l1 l1n l1c), (1, .int .u32 set1), (6, .pointer r3), (4, .bool s1.1), (8, .int .i64 s1.2)]) (fun s1 w5 => I1 s1.1 s1.2 w5) (fun s1 w5 => m1 s1.1 s1.2 w5) (false, 0) (by exact ⟨rfl, rfl, rfl, rfl, rfl, trivial⟩) hI1 (fun s1 w5 hI1 => ?_)
    obtain ⟨x1, i1⟩ := s1; replace h := h x1 i1 w5 hI1
    refine CW.seq ?_
    refine CW.seq ?_
    refine CW.region fun L hL => ?_
    refine LW.rd hL rfl (Wants.free rfl) rfl (Rd.move (v := .int .i64 i1) rfl) ?_
    refine LW.rd hL rfl (Wants.free rfl) rfl (Rd.move (v := .slice l1 l1n l1c) rfl) ?_
    refine LW.rd hL rfl (Wants.free rfl) rfl (Rd.builtin (v := .int .i64 (l1n : Int)) rfl (fun _ _ => by kernel_rfl)) ?_
    refine LW.rd hL rfl (Wants.free rfl) rfl (Rd.bin (v := .bool (decide (i1 < (l1n : Int)))) rfl rfl (fun w => by kernel_rfl)) ?_
    refine LW.nil hL rfl ?_
    refine NW.then ?_
    refine CW.cond rfl (fun hb6 => ?_) (fun hb6 => ?_)
    · replace h := h.1 hb6
      refine CW.skip ?_
      refine NW.then ?_
      refine CW.seq ?_
      refine CW.block ?_
      refine CW.seq ?_
      refine CW.region fun L hL => ?_
      refine LW.rd hL rfl (Wants.free rfl) rfl (Rd.move (v := .pointer r3) rfl) ?_
      refine LW.rd hL rfl (Wants.free rfl) rfl (Rd.move (v := .slice l1 l1n l1c) rfl) ?_
      refine LW.rd hL rfl (Wants.free rfl) rfl (Rd.move (v := .int .i64 i1) rfl) ?_
      obtain ⟨a1, he1, hi1, hi2, h⟩ := h
      refine LW.rd hL rfl (Wants.free rfl) rfl (Rd.iaS (q := a1) (sz := 2) (by rw [← he1]; rfl) rfl Try.underlying47 (by kernel_rfl) hi1 hi2) ?_
      obtain ⟨t1, t2, hc1, h⟩ := h
      refine LW.rd hL rfl (Wants.free rfl) rfl (Rd.ldN (cs := [.int .i64 t1, .int .i64 t2]) rfl (by kernel_rfl) (by kernel_rfl) (cellsS hc1)) ?_
      refine LW.call hL rfl (Wants.free rfl) rfl (Cl.fn (f := 28) rfl Try.func28 (by kernel_rfl) rfl) h (fun e w6 h_ => ?_)
      clear h
      obtain ⟨r5, r6, rfl, h⟩ := h_
      refine ⟨_, rfl, ?_⟩
      refine LW.rd hL rfl (Wants.free rfl) rfl (Rd.move (v := .tuple #[.int .u32 r5, .int .i64 r6]) rfl) ?_
      refine LW.rd hL rfl (Wants.free rfl) rfl (Rd.extract (v := .int .u32 r5) rfl rfl) ?_
      refine LW.rd hL rfl (Wants.free rfl) rfl (Rd.extract (v := .int .i64 r6) rfl rfl) ?_
      refine LW.rd hL rfl (Wants.free rfl) rfl (Rd.assign (v := .int .u32 r5) rfl) ?_
      refine LW.rd hL rfl (Wants.free rfl) rfl (Rd.assign (v := .int .i64 r6) rfl) ?_
      refine LW.nil hL rfl ?_
      refine NW.then ?_
      refine CW.seq ?_
      refine CW.seq ?_
      refine CW.region fun L hL => ?_
      refine LW.rd hL rfl (Wants.free rfl) rfl (Rd.move (v := .int .i64 r6) rfl) ?_
      refine LW.rd hL rfl (Wants.free rfl) rfl (Rd.bin (v := .bool (!(r6 == 0))) rfl rfl (fun w => by kernel_rfl)) ?_
      refine LW.nil hL rfl ?_
      refine NW.then ?_
      refine CW.cond rfl (fun hb7 => ?_) (fun hb7 => ?_)
      · replace h := h.1 hb7
        refine CW.seq ?_
        refine CW.region fun L hL => ?_
        refine LW.call hL rfl (Wants.free rfl) rfl (Cl.fn (f := 24) rfl Try.func24 (by kernel_rfl) rfl) h (fun e w7 h_ => ?_)
        clear h
        obtain ⟨r7, rfl, h⟩ := h_
        refine ⟨_, rfl, ?_⟩
        refine LW.rd hL rfl (Wants.free rfl) rfl (Rd.assign (v := .bool r7) rfl) ?_
        refine LW.nil hL rfl ?_
        refine NW.then ?_
        refine CW.ret ?_
        refine RW.then ?_
        refine RW.block ?_
        refine RW.then ?_
        refine RW.then ?_
        refine RW.block ?_
        refine RW.then ?_
        exact res1 rfl rfl ⟨r7, rfl, h⟩
      · replace h := h.2 hb7
        refine CW.skip ?_
        refine NW.then ?_
        refine CW.seq ?_
        refine CW.region fun L hL => ?_
        refine LW.rd hL rfl (Wants.free rfl) rfl (Rd.assign (v := .int .i64 0) rfl) ?_
        refine LW.nil hL rfl ?_
        refine NW.then ?_
        refine CW.block ?_
        obtain ⟨I2, m2, hI2, h⟩ := h
        refine CW.loop (S := Bool × Int) (fun s2 => [(0, .slice l1 l1n l1c), (1, .int .u32 set1), (6, .pointer r3), (8, .int .i64 i1), (4, .bool s2.1), (11, .int .i64 s2.2)]) (fun s2 w8 => I2 s2.1 s2.2 w8) (fun s2 w8 => m2 s2.1 s2.2 w8) (x1, 0) (by exact ⟨rfl, rfl, rfl, rfl, rfl, rfl, trivial⟩) hI2 (fun s2 w8 hI2 => ?_)
        obtain ⟨x2, k1⟩ := s2; replace h := h x2 k1 w8 hI2
        refine CW.seq ?_
        refine CW.seq ?_
        refine CW.region fun L hL => ?_
        refine LW.rd hL rfl (Wants.free rfl) rfl (Rd.move (v := .int .i64 k1) rfl) ?_
        refine LW.rd hL rfl (Wants.free rfl) rfl (Rd.move (v := .int .i64 i1) rfl) ?_
        refine LW.rd hL rfl (Wants.free rfl) rfl (Rd.bin (v := .bool (decide (k1 < i1))) rfl rfl (fun w => by kernel_rfl)) ?_
        refine LW.nil hL rfl ?_
        refine NW.then ?_
        refine CW.cond rfl (fun hb8 => ?_) (fun hb8 => ?_)
        · replace h := h.1 hb8
          refine CW.skip ?_
          refine NW.then ?_
          refine CW.seq ?_
          refine CW.block ?_
          refine CW.seq ?_
          obtain ⟨w9, hw_w9⟩ : ∃ x, x = World.drew w8 := ⟨_, rfl⟩
          have hc_w9 := sil_drew (Chg.refl [] w8) hw_w9
          refine CW.drawn (fun w => w = w9) 9 (by kernel_rfl) fun H hH => ?_
          rw [← hw_w9]
          refine HW.pure (i := 0) hH rfl (by kernel_rfl) (Wants.free rfl) rfl (fun _ => rfl) (Rd.move (v := .slice l1 l1n l1c) rfl) ?_
          refine HW.pure (i := 1) hH rfl (by kernel_rfl) (Wants.free rfl) rfl (fun _ => rfl) (Rd.move (v := .int .i64 k1) rfl) ?_
          obtain ⟨a2, he2, hi3, hi4, h⟩ := h
          refine HW.pure (i := 2) hH rfl (by kernel_rfl) (Wants.free rfl) rfl (fun _ => rfl) (Rd.iaS (q := a2) (sz := 2) (by rw [← he2]; rfl) rfl Try.underlying47 (by kernel_rfl) hi3 hi4) ?_
          replace h := h  w9  hc_w9
          obtain ⟨t3, t4, hc2, h⟩ := h
          refine HW.take (i := 3) hH rfl (by kernel_rfl) (by kernel_rfl) (Wants.free rfl) rfl (fun _ => rfl) (Rd.ldN (cs := [.int .i64 t3, .int .i64 t4]) rfl (by kernel_rfl) (by kernel_rfl) (cellsS hc2)) ?_
          refine HW.pure (i := 4) hH rfl (by kernel_rfl) (Wants.free rfl) rfl (fun _ => rfl) (Rd.move (v := .slice l1 l1n l1c) rfl) ?_
          refine HW.pure (i := 5) hH rfl (by kernel_rfl) (Wants.free rfl) rfl (fun _ => rfl) (Rd.move (v := .int .i64 i1) rfl) ?_
          refine HW.pure (i := 6) hH rfl (by kernel_rfl) (Wants.free rfl) rfl (fun _ => rfl) (Rd.iaS (q := a1) (sz := 2) (by rw [← he1]; rfl) rfl Try.underlying47 (by kernel_rfl) hi1 hi2) ?_
          obtain ⟨t5, t6, hc3, h⟩ := h
          refine HW.take (i := 7) hH rfl (by kernel_rfl) (by kernel_rfl) (Wants.free rfl) rfl (fun _ => rfl) (Rd.ldN (cs := [.int .i64 t5, .int .i64 t6]) rfl (by kernel_rfl) (by kernel_rfl) (cellsS hc3)) ?_
          refine HW.pure (i := 8) hH rfl (by kernel_rfl) (Wants.free rfl) rfl (fun _ => rfl) (Rd.bin (v := .bool ((t3 == t5) && (t4 == t6))) rfl rfl (fun w => eqS_56 _ _ _ _ w)) ?_
          refine HW.done hH (by kernel_rfl) ?_
          refine NW.then ?_
          refine CW.cond rfl (fun hb9 => ?_) (fun hb9 => ?_)
          · replace h := h.1 hb9
            refine CW.seq ?_
            refine CW.region fun L hL => ?_
            refine LW.call hL rfl (Wants.free rfl) rfl (Cl.fn (f := 24) rfl Try.func24 (by kernel_rfl) rfl) h (fun e w10 h_ => ?_)
            clear h
            obtain ⟨r8, rfl, h⟩ := h_
            refine ⟨_, rfl, ?_⟩
            refine LW.rd hL rfl (Wants.free rfl) rfl (Rd.assign (v := .bool r8) rfl) ?_
            refine LW.nil hL rfl ?_
            refine NW.then ?_
            refine CW.ret ?_
            refine RW.block ?_
            refine RW.then ?_
            refine RW.then ?_
            refine RW.block ?_
            refine RW.block ?_
            refine RW.then ?_
            refine RW.then ?_
            refine RW.block ?_
            refine RW.then ?_
            exact res1 rfl rfl ⟨r8, rfl, h⟩
          · replace h := h.2 hb9
            refine CW.skip ?_
            refine NW.block ?_
            refine NW.then ?_
            refine CW.region fun L hL => ?_
            refine LW.rd hL rfl (Wants.free rfl) rfl (Rd.move (v := .int .i64 k1) rfl) ?_
            refine LW.rd hL rfl (Wants.free rfl) rfl (Rd.bin (v := .int .i64 (IntKind.wrap .i64 (k1 + 1))) rfl rfl (fun w => by kernel_rfl)) ?_
            refine LW.rd hL rfl (Wants.free rfl) rfl (Rd.assign (v := .int .i64 (IntKind.wrap .i64 (k1 + 1))) rfl) ?_
            refine LW.nil hL rfl ?_
            exact NW.loop (S := Bool × Int) (Ek := fun s2 => [(0, .slice l1 l1n l1c), (1, .int .u32 set1), (6, .pointer r3), (8, .int .i64 i1), (4, .bool s2.1), (11, .int .i64 s2.2)]) (x2, IntKind.wrap .i64 (k1 + 1)) (by exact ⟨rfl, rfl, rfl, rfl, rfl, rfl, trivial⟩) h
        · replace h := h.2 hb8
          refine CW.exit ?_
          refine XW.then ?_
          refine XW.then ?_
          refine XW.hit ?_
          refine NW.block ?_
          refine NW.then ?_
          refine CW.region fun L hL => ?_
          refine LW.rd hL rfl (Wants.free rfl) rfl (Rd.move (v := .int .i64 i1) rfl) ?_
          refine LW.rd hL rfl (Wants.free rfl) rfl (Rd.bin (v := .int .i64 (IntKind.wrap .i64 (i1 + 1))) rfl rfl (fun w => by kernel_rfl)) ?_
          refine LW.rd hL rfl (Wants.free rfl) rfl (Rd.assign (v := .int .i64 (IntKind.wrap .i64 (i1 + 1))) rfl) ?_
          refine LW.nil hL rfl ?_
          exact NW.loop (S := Bool × Int) (Ek := fun s1 => [(0, .slice l1 l1n l1c), (1, .int .u32 set1), (6, .pointer r3), (4, .bool s1.1), (8, .int .i64 s1.2)]) (x2, IntKind.wrap .i64 (i1 + 1)) (by exact ⟨rfl, rfl, rfl, rfl, rfl, trivial⟩) h
    · replace h := h.2 hb6
      refine CW.exit ?_
      refine XW.then ?_
      refine XW.then ?_
      refine XW.hit ?_
      refine NW.then ?_
      refine CW.seq ?_
      refine CW.region fun L hL => ?_
      refine LW.rd hL rfl (Wants.free rfl) rfl (Rd.move (v := .pointer r3) rfl) ?_
      refine LW.rd hL rfl (Wants.free rfl) rfl (Rd.move (v := .slice l1 l1n l1c) rfl) ?_
      obtain ⟨a3, he3, hi7, hi8, h⟩ := h
      refine LW.rd hL rfl (Wants.free rfl) rfl (Rd.iaS (q := a3) (sz := 2) (by rw [← he3]; rfl) rfl Try.underlying47 (by kernel_rfl) hi7 hi8) ?_
      obtain ⟨t7, t8, hc4, h⟩ := h
      refine LW.rd hL rfl (Wants.free rfl) rfl (Rd.ldN (cs := [.int .i64 t7, .int .i64 t8]) rfl (by kernel_rfl) (by kernel_rfl) (cellsS hc4)) ?_
      refine LW.rd hL rfl (Wants.free rfl) rfl (Rd.move (v := .int .u32 set1) rfl) ?_
      refine LW.call hL rfl (Wants.free rfl) rfl (Cl.fn (f := 36) rfl Try.func36 (by kernel_rfl) rfl) h (fun e w11 h_ => ?_)
      clear h
      obtain ⟨r9, rfl, h⟩ := h_
      refine ⟨_, rfl, ?_⟩
      refine LW.nil hL rfl ?_
      refine NW.then ?_
      refine CW.seq ?_
      refine CW.region fun L hL => ?_
      refine LW.rd hL rfl (Wants.free rfl) rfl (Rd.move (v := .pointer r3) rfl) ?_
      refine LW.call hL rfl (Wants.free rfl) rfl (Cl.fn (f := 37) rfl Try.func37 (by kernel_rfl) rfl) h (fun e w12 h_ => ?_)
      clear h
      obtain ⟨r10, rfl, h⟩ := h_
      refine ⟨_, rfl, ?_⟩
      refine LW.rd hL rfl (Wants.free rfl) rfl (Rd.assign (v := .pointer r10) rfl) ?_
      refine LW.nil hL rfl ?_
      refine NW.then ?_
      refine CW.seq ?_
      refine CW.region fun L hL => ?_
      refine LW.rd hL rfl (Wants.free rfl) rfl (Rd.assign (v := .slice none 0 0) rfl) ?_
      refine LW.nil hL rfl ?_
      refine NW.then ?_
      refine CW.seq ?_
      refine CW.seq ?_
      refine CW.region fun L hL => ?_
      refine LW.rd hL rfl (Wants.free rfl) rfl (Rd.assign (v := .int .i64 1) rfl) ?_
      refine LW.nil hL rfl ?_
      refine NW.then ?_
      refine CW.block ?_
      obtain ⟨I3, m3, hI3, h⟩ := h
      refine CW.loop (S := Bool × (Option Addr) × Nat × Nat × Int) (fun s3 => [(0, .slice l1 l1n l1c), (1, .int .u32 set1), (6, .pointer r3), (12, .pointer r10), (4, .bool s3.1), (13, .slice s3.2.1 s3.2.2.1 s3.2.2.2.1), (14, .int .i64 s3.2.2.2.2)]) (fun s3 w13 => I3 s3.1 s3.2.1 s3.2.2.1 s3.2.2.2.1 s3.2.2.2.2 w13) (fun s3 w13 => m3 s3.1 s3.2.1 s3.2.2.1 s3.2.2.2.1 s3.2.2.2.2 w13) (x1, none, 0, 0, 1) (by exact ⟨rfl, rfl, rfl, rfl, rfl, rfl, rfl, trivial⟩) hI3 (fun s3 w13 hI3 => ?_)
      obtain ⟨x3, all1, all1n, all1c, i2⟩ := s3; replace h := h x3 all1 all1n all1c i2 w13 hI3
      refine CW.seq ?_
      refine CW.seq ?_
      refine CW.region fun L hL => ?_
      refine LW.rd hL rfl (Wants.free rfl) rfl (Rd.move (v := .int .i64 i2) rfl) ?_
      refine LW.rd hL rfl (Wants.free rfl) rfl (Rd.move (v := .slice l1 l1n l1c) rfl) ?_
      refine LW.rd hL rfl (Wants.free rfl) rfl (Rd.builtin (v := .int .i64 (l1n : Int)) rfl (fun _ _ => by kernel_rfl)) ?_
      refine LW.rd hL rfl (Wants.free rfl) rfl (Rd.bin (v := .bool (decide (i2 < (l1n : Int)))) rfl rfl (fun w => by kernel_rfl)) ?_
      refine LW.nil hL rfl ?_
      refine NW.then ?_
      refine CW.cond rfl (fun hb10 => ?_) (fun hb10 => ?_)
      · replace h := h.1 hb10
        refine CW.skip ?_
        refine NW.then ?_
        refine CW.seq ?_
        refine CW.block ?_
        refine CW.seq ?_
        obtain ⟨w14, hw_w14⟩ : ∃ x, x = World.drew w13 := ⟨_, rfl⟩
        have hc_w14 := sil_drew (Chg.refl [] w13) hw_w14
        replace h := h  w14  hc_w14
        obtain ⟨a4, he4, hi9, hi10, h⟩ := h
        obtain ⟨t9, t10, hc5, h⟩ := h
        obtain ⟨a5, he5, hi11, hi12, h⟩ := h
        obtain ⟨t11, t12, hc6, h⟩ := h
        refine CW.drawn (fun w => CellsAt w (a4.add (Int.toNat i2 * 2)) 0 [.int .i64 t9, .int .i64 t10] ∧ CellsAt w (a5.add (Int.toNat (IntKind.wrap .i64 (i2 - 1)) * 2)) 0 [.int .i64 t11, .int .i64 t12] ∧ True) 12 (by kernel_rfl) fun H hH => ?_
        rw [← hw_w14]
        have hS1 : CellsAt w14 (a4.add (Int.toNat i2 * 2)) 0 [.int .i64 t9, .int .i64 t10] ∧ CellsAt w14 (a5.add (Int.toNat (IntKind.wrap .i64 (i2 - 1)) * 2)) 0 [.int .i64 t11, .int .i64 t12] ∧ True := ⟨hc5, hc6, trivial⟩
        refine HW.pure (i := 0) hH rfl (by kernel_rfl) (Wants.free rfl) rfl (fun _ => hS1) (Rd.move (v := .slice l1 l1n l1c) rfl) ?_
        refine HW.pure (i := 1) hH rfl (by kernel_rfl) (Wants.free rfl) rfl (fun _ => hS1) (Rd.move (v := .int .i64 i2) rfl) ?_
        refine HW.pure (i := 2) hH rfl (by kernel_rfl) (Wants.free rfl) rfl (fun _ => hS1) (Rd.iaS (q := a4) (sz := 2) (by rw [← he4]; rfl) rfl Try.underlying47 (by kernel_rfl) hi9 hi10) ?_
        refine HW.take (i := 3) hH rfl (by kernel_rfl) (by kernel_rfl) (Wants.free rfl) rfl (fun _ => hS1) (Rd.ldN (cs := [.int .i64 t9, .int .i64 t10]) rfl (by kernel_rfl) (by kernel_rfl) (fun w h => cellsAt_get h.1)) ?_
        refine HW.pure (i := 4) hH rfl (by kernel_rfl) (Wants.free rfl) rfl (fun _ => hS1) (Rd.move (v := .slice l1 l1n l1c) rfl) ?_
        refine HW.pure (i := 5) hH rfl (by kernel_rfl) (Wants.free rfl) rfl (fun _ => hS1) (Rd.move (v := .int .i64 i2) rfl) ?_
        refine HW.pure (i := 6) hH rfl (by kernel_rfl) (Wants.free rfl) rfl (fun _ => hS1) (Rd.bin (v := .int .i64 (IntKind.wrap .i64 (i2 - 1))) rfl rfl (fun w => by kernel_rfl)) ?_
        refine HW.pure (i := 7) hH rfl (by kernel_rfl) (Wants.free rfl) rfl (fun _ => hS1) (Rd.iaS (q := a5) (sz := 2) (by rw [← he5]; rfl) rfl Try.underlying47 (by kernel_rfl) hi11 hi12) ?_
        refine HW.take (i := 8) hH rfl (by kernel_rfl) (by kernel_rfl) (Wants.free rfl) rfl (fun _ => hS1) (Rd.ldN (cs := [.int .i64 t11, .int .i64 t12]) rfl (by kernel_rfl) (by kernel_rfl) (fun w h => cellsAt_get h.2.1)) ?_
        obtain ⟨J1, hJ1, h1_J1, h2_J1⟩ := h
        suffices K3 : ∀ (s4 : Nat × Int × Int × (Option Addr) × Nat × Nat) (w15 : World), (CellsAt w15 (a4.add (Int.toNat i2 * 2)) 0 [.int .i64 t9, .int .i64 t10] ∧ CellsAt w15 (a5.add (Int.toNat (IntKind.wrap .i64 (i2 - 1)) * 2)) 0 [.int .i64 t11, .int .i64 t12] ∧ True) → Boxes w15 [(s4.1, [.int .i64 0, .int .i64 0, .slice none 0 0], 81)] → J1 s4.1 s4.2.1 s4.2.2.1 s4.2.2.2.1 s4.2.2.2.2.1 s4.2.2.2.2.2 w15 → H 1 #[true, true, true, true, true, true, true, true, true, true, true, true, false] [(0, .slice l1 l1n l1c), (1, .int .u32 set1), (4, .bool x3), (6, .pointer r3), (12, .pointer r10), (13, .slice all1 all1n all1c), (14, .int .i64 i2), (15, .pointer (some (⟨s4.1, 0, none⟩ : Addr))), (97, .agg #[.int .i64 s4.2.1, .int .i64 s4.2.2.1, .slice s4.2.2.2.1 s4.2.2.2.2.1 s4.2.2.2.2.2])] w15 by
          refine HW.two (i := 9) (j := 11) hH (by kernel_rfl) ?_ ?_
          · have h := h1_J1
            obtain ⟨b3, hb_b3⟩ : ∃ b3, b3 = World.size w14 := ⟨_, rfl⟩
            obtain ⟨w16, hw_w16⟩ : ∃ w16, w16 = World.alloc w14 (.cells #[.int .i64 t11, .int .i64 t12] 56) := ⟨_, rfl⟩
            replace h := h b3 hb_b3 w16 hw_w16
            have hS2 := (⟨cellsAlloc hw_w16 hS1.1, cellsAlloc hw_w16 hS1.2.1, trivial⟩ : CellsAt w16 (a4.add (Int.toNat i2 * 2)) 0 [.int .i64 t9, .int .i64 t10] ∧ CellsAt w16 (a5.add (Int.toNat (IntKind.wrap .i64 (i2 - 1)) * 2)) 0 [.int .i64 t11, .int .i64 t12] ∧ True)
            refine H1.val (i := 9) hH rfl (Wants.free rfl) rfl (sliceE (n := 1) hb_b3 hw_w16 (fun w => Vl.buildSlice (vs := [(0, .agg #[.int .i64 t11, .int .i64 t12])]) rfl (by kernel_rfl))) (fun _ => hS2) ?_
            refine HW.pure (i := 10) hH rfl (by kernel_rfl) (Wants.free rfl) rfl (fun _ => hS2) (Rd.build (v := .agg #[.int .i64 t9, .int .i64 t10, .slice (some (⟨b3, 0, none⟩ : Addr)) 1 1]) rfl (fun _ => by kernel_rfl)) ?_
            obtain ⟨b4, hb_b4⟩ : ∃ b4, b4 = World.size w16 := ⟨_, rfl⟩
            obtain ⟨w17, hw_w17⟩ : ∃ w17, w17 = World.alloc w16 (.cells #[.int .i64 0, .int .i64 0, .slice none 0 0] 81) := ⟨_, rfl⟩
            have hS3 := (⟨cellsAlloc hw_w17 hS2.1, cellsAlloc hw_w17 hS2.2.1, trivial⟩ : CellsAt w17 (a4.add (Int.toNat i2 * 2)) 0 [.int .i64 t9, .int .i64 t10] ∧ CellsAt w17 (a5.add (Int.toNat (IntKind.wrap .i64 (i2 - 1)) * 2)) 0 [.int .i64 t11, .int .i64 t12] ∧ True)
            refine HW.val (i := 11) hH (by kernel_rfl) rfl (Wants.free rfl) rfl (boxE hb_b4 hw_w17 (Vl.alloc (z := .agg #[.int .i64 0, .int .i64 0, .slice none 0 0]) (by kernel_rfl))) (fun _ => hS3) ?_
            have hB := Boxes.alloc (cs := [.int .i64 0, .int .i64 0, .slice none 0 0]) (T := 81) (Boxes.nil w16) hb_b4 hw_w17
            have hlo_b4 := sil_lo (Chg.refl [] w16) hb_b4
            have hc_w17 := sil_alloc (Chg.refl [] w16) hw_w17
            replace h := h b4 w17 ⟨hlo_b4, lt_of_heap (hB.at (i := 0) rfl)⟩ hc_w17
            exact HW.sub hH (by exact ⟨rfl, rfl, rfl, rfl, rfl, rfl, rfl, rfl, rfl, trivial⟩) (K3 (b4, t9, t10, some (⟨b3, 0, none⟩ : Addr), 1, 1) w17 hS3 (by exact hB) h)
          · have h := h2_J1
            obtain ⟨b5, hb_b5⟩ : ∃ b5, b5 = World.size w14 := ⟨_, rfl⟩
            obtain ⟨w18, hw_w18⟩ : ∃ w18, w18 = World.alloc w14 (.cells #[.int .i64 0, .int .i64 0, .slice none 0 0] 81) := ⟨_, rfl⟩
            have hS4 := (⟨cellsAlloc hw_w18 hS1.1, cellsAlloc hw_w18 hS1.2.1, trivial⟩ : CellsAt w18 (a4.add (Int.toNat i2 * 2)) 0 [.int .i64 t9, .int .i64 t10] ∧ CellsAt w18 (a5.add (Int.toNat (IntKind.wrap .i64 (i2 - 1)) * 2)) 0 [.int .i64 t11, .int .i64 t12] ∧ True)
            refine H1.val (i := 11) hH rfl (Wants.free rfl) rfl (boxE hb_b5 hw_w18 (Vl.alloc (z := .agg #[.int .i64 0, .int .i64 0, .slice none 0 0]) (by kernel_rfl))) (fun _ => hS4) ?_
            have hB := Boxes.alloc (cs := [.int .i64 0, .int .i64 0, .slice none 0 0]) (T := 81) (Boxes.nil w14) hb_b5 hw_w18
            have hlo_b5 := sil_lo (Chg.refl [] w14) hb_b5
            have hc_w18 := sil_alloc (Chg.refl [] w14) hw_w18
            replace h := h b5 w18 ⟨hlo_b5, lt_of_heap (hB.at (i := 0) rfl)⟩ hc_w18
            obtain ⟨b6, hb_b6⟩ : ∃ b6, b6 = World.size w18 := ⟨_, rfl⟩
            obtain ⟨w19, hw_w19⟩ : ∃ w19, w19 = World.alloc w18 (.cells #[.int .i64 t11, .int .i64 t12] 56) := ⟨_, rfl⟩
            replace h := h b6 hb_b6 w19 hw_w19
            have hS5 := (⟨cellsAlloc hw_w19 hS4.1, cellsAlloc hw_w19 hS4.2.1, trivial⟩ : CellsAt w19 (a4.add (Int.toNat i2 * 2)) 0 [.int .i64 t9, .int .i64 t10] ∧ CellsAt w19 (a5.add (Int.toNat (IntKind.wrap .i64 (i2 - 1)) * 2)) 0 [.int .i64 t11, .int .i64 t12] ∧ True)
            refine HW.val (i := 9) hH (by kernel_rfl) rfl (Wants.free rfl) rfl (sliceE (n := 1) hb_b6 hw_w19 (fun w => Vl.buildSlice (vs := [(0, .agg #[.int .i64 t11, .int .i64 t12])]) rfl (by kernel_rfl))) (fun _ => hS5) ?_
            replace hB := hB.grow hw_w19
            refine HW.pure (i := 10) hH rfl (by kernel_rfl) (Wants.free rfl) rfl (fun _ => hS5) (Rd.build (v := .agg #[.int .i64 t9, .int .i64 t10, .slice (some (⟨b6, 0, none⟩ : Addr)) 1 1]) rfl (fun _ => by kernel_rfl)) ?_
            exact HW.sub hH (by exact ⟨rfl, rfl, rfl, rfl, rfl, rfl, rfl, rfl, rfl, trivial⟩) (K3 (b5, t9, t10, some (⟨b6, 0, none⟩ : Addr), 1, 1) w19 hS5 (by exact hB) h)
        intro s4 w15 hS6 hB h_
        obtain ⟨b2, x4, x5, x6, x6n, x6c⟩ := s4
        have h := hJ1 b2 x4 x5 x6 x6n x6c w15 h_; clear h_
        obtain ⟨w20, hw_w20⟩ : ∃ x, x = setCells w15 (⟨b2, 0, none⟩ : Addr) 0 [.int .i64 x4, .int .i64 x5, .slice x6 x6n x6c] := ⟨_, rfl⟩
        refine HW.eff (i := 12) hH (by kernel_rfl) rfl (Wants.free rfl) rfl (stNE hw_w20 (Ef.stN (cs := [.int .i64 x4, .int .i64 x5, .slice x6 x6n x6c]) rfl rfl (by kernel_rfl) (List.forall_mem_cons.2 ⟨rfl, (List.forall_mem_cons.2 ⟨rfl, (List.forall_mem_cons.2 ⟨rfl, (List.forall_mem_nil _)⟩)⟩)⟩) (has_of (hB.at (i := 0) rfl) (by simp)) (free_of' (hB.at (i := 0) rfl)))) (fun hc => by cases hc) ?_
        replace hB : Boxes w20 [(b2, [.int .i64 x4, .int .i64 x5, .slice x6 x6n x6c], 81)] := Boxes.store (vs := [.int .i64 x4, .int .i64 x5, .slice x6 x6n x6c]) (i := 0) (o := 0) hB rfl rfl rfl rfl hw_w20
        have hc_w20 : Chg [b2] w15 w20 := sil_more (Chg.refl [] w15) (sil_cN hw_w20)
        refine HW.done hH (by kernel_rfl) ?_
        refine NW.then ?_
        refine CW.seq ?_
        refine CW.seq ?_
        refine CW.region fun L hL => ?_
        refine LW.rd hL rfl (Wants.free rfl) rfl (Rd.move (v := .pointer r3) rfl) ?_
        refine LW.rd hL rfl (Wants.free rfl) rfl (Rd.ldN (cs := [.int .i64 x4, .int .i64 x5, .slice x6 x6n x6c]) rfl (by kernel_rfl) (by kernel_rfl) (cellsS (box_cells (hB.at (i := 0) rfl) rfl))) ?_
        replace h := h  w20  hc_w20
        obtain ⟨b7, hb_b7⟩ : ∃ b7, b7 = World.size w20 := ⟨_, rfl⟩
        obtain ⟨w21, hw_w21⟩ : ∃ w21, w21 = World.alloc w20 (.cells #[.int .i64 x4, .int .i64 x5, .slice x6 x6n x6c] 81) := ⟨_, rfl⟩
        replace h := h b7 hb_b7 w21 hw_w21
        refine LW.val hL rfl (Wants.free rfl) rfl (sliceE (n := 1) hb_b7 hw_w21 (fun w => Vl.buildSlice (vs := [(0, .agg #[.int .i64 x4, .int .i64 x5, .slice x6 x6n x6c])]) rfl (by kernel_rfl))) ?_
        replace hB := hB.grow hw_w21
        refine LW.call hL rfl (Wants.free rfl) rfl (Cl.fn (f := 38) rfl Try.func38 (by kernel_rfl) rfl) h (fun e w22 h_ => ?_)
        clear h
        obtain ⟨r11, rfl, h⟩ := h_
        obtain ⟨hsm1, h⟩ := h
        replace hB := Boxes.same hB (by exact hsm1)
        refine ⟨_, rfl, ?_⟩
        refine LW.rd hL rfl (Wants.free rfl) rfl (Rd.bin (v := .bool (!(r11 == 0))) rfl rfl (fun w => by kernel_rfl)) ?_
        refine LW.nil hL rfl ?_
        refine NW.then ?_
        refine CW.cond rfl (fun hb11 => ?_) (fun hb11 => ?_)
        · replace h := h.1 hb11
          refine CW.seq ?_
          refine CW.region fun L hL => ?_
          refine LW.rd hL rfl (Wants.free rfl) rfl (Rd.assign (v := .bool false) rfl) ?_
          refine LW.nil hL rfl ?_
          refine NW.then ?_
          refine CW.ret ?_
          refine RW.then ?_
          refine RW.block ?_
          refine RW.then ?_
          refine RW.then ?_
          refine RW.block ?_
          refine RW.then ?_
          exact res1 rfl rfl ⟨false, rfl, h⟩
        · replace h := h.2 hb11
          refine CW.skip ?_
          refine NW.then ?_
          refine CW.region fun L hL => ?_
          refine LW.rd hL rfl (Wants.free rfl) rfl (Rd.move (v := .slice all1 all1n all1c) rfl) ?_
          refine LW.rd hL rfl (Wants.free rfl) rfl (Rd.ldN (cs := [.int .i64 x4, .int .i64 x5, .slice x6 x6n x6c]) rfl (by kernel_rfl) (by kernel_rfl) (cellsS (box_cells (hB.at (i := 0) rfl) rfl))) ?_
          obtain ⟨b8, hb_b8⟩ : ∃ b8, b8 = World.size w22 := ⟨_, rfl⟩
          obtain ⟨w23, hw_w23⟩ : ∃ w23, w23 = World.alloc w22 (.cells #[.int .i64 x4, .int .i64 x5, .slice x6 x6n x6c] 81) := ⟨_, rfl⟩
          replace h := h b8 hb_b8 w23 hw_w23
          refine LW.val hL rfl (Wants.free rfl) rfl (sliceE (n := 1) hb_b8 hw_w23 (fun w => Vl.buildSlice (vs := [(0, .agg #[.int .i64 x4, .int .i64 x5, .slice x6 x6n x6c])]) rfl (by kernel_rfl))) ?_
          replace hB := hB.grow hw_w23
          obtain ⟨l2, l2n, l2c, w24, ha1, h⟩ := h
          refine LW.val hL rfl (Wants.free rfl) rfl (Vl.builtin (v := .slice l2 l2n l2c) rfl (valB ha1)) ?_
          refine LW.rd hL rfl (Wants.free rfl) rfl (Rd.assign (v := .slice l2 l2n l2c) rfl) ?_
          refine LW.nil hL rfl ?_
          refine NW.block ?_
          refine NW.then ?_
          refine CW.region fun L hL => ?_
          refine LW.rd hL rfl (Wants.free rfl) rfl (Rd.move (v := .int .i64 i2) rfl) ?_
          refine LW.rd hL rfl (Wants.free rfl) rfl (Rd.bin (v := .int .i64 (IntKind.wrap .i64 (i2 + 1))) rfl rfl (fun w => by kernel_rfl)) ?_
          refine LW.rd hL rfl (Wants.free rfl) rfl (Rd.assign (v := .int .i64 (IntKind.wrap .i64 (i2 + 1))) rfl) ?_
          refine LW.nil hL rfl ?_
          exact NW.loop (S := Bool × (Option Addr) × Nat × Nat × Int) (Ek := fun s3 => [(0, .slice l1 l1n l1c), (1, .int .u32 set1), (6, .pointer r3), (12, .pointer r10), (4, .bool s3.1), (13, .slice s3.2.1 s3.2.2.1 s3.2.2.2.1), (14, .int .i64 s3.2.2.2.2)]) (x3, l2, l2n, l2c, IntKind.wrap .i64 (i2 + 1)) (by exact ⟨rfl, rfl, rfl, rfl, rfl, rfl, rfl, trivial⟩) h
      · replace h := h.2 hb10
        refine CW.exit ?_
        refine XW.then ?_
        refine XW.then ?_
        refine XW.hit ?_
        refine NW.then ?_
        refine CW.seq ?_
        refine CW.seq ?_
        refine CW.region fun L hL => ?_
        refine LW.rd hL rfl (Wants.free rfl) rfl (Rd.move (v := .pointer r10) rfl) ?_
        refine LW.rd hL rfl (Wants.free rfl) rfl (Rd.move (v := .slice all1 all1n all1c) rfl) ?_
        refine LW.call hL rfl (Wants.free rfl) rfl (Cl.fn (f := 38) rfl Try.func38 (by kernel_rfl) rfl) h (fun e w25 h_ => ?_)
        clear h
        obtain ⟨r12, rfl, h⟩ := h_
        refine ⟨_, rfl, ?_⟩
        refine LW.rd hL rfl (Wants.free rfl) rfl (Rd.bin (v := .bool (!(r12 == 0))) rfl rfl (fun w => by kernel_rfl)) ?_
        refine LW.nil hL rfl ?_
        refine NW.then ?_
        refine CW.cond rfl (fun hb12 => ?_) (fun hb12 => ?_)
        · replace h := h.1 hb12
          refine CW.seq ?_
          refine CW.region fun L hL => ?_
          refine LW.rd hL rfl (Wants.free rfl) rfl (Rd.assign (v := .bool false) rfl) ?_
          refine LW.nil hL rfl ?_
          refine NW.then ?_
          refine CW.ret ?_
          refine RW.then ?_
          exact res1 rfl rfl ⟨false, rfl, h⟩
        · replace h := h.2 hb12
          refine CW.skip ?_
          refine NW.then ?_
          refine CW.seq ?_
          refine CW.seq ?_
          refine CW.region fun L hL => ?_
          refine LW.rd hL rfl (Wants.free rfl) rfl (Rd.assign (v := .int .i64 0) rfl) ?_
          refine LW.nil hL rfl ?_
          refine NW.then ?_
          refine CW.block ?_
          obtain ⟨I4, m4, hI4, h⟩ := h
          refine CW.loop (S := Bool × Int) (fun s5 => [(0, .slice l1 l1n l1c), (1, .int .u32 set1), (6, .pointer r3), (12, .pointer r10), (4, .bool s5.1), (16, .int .i64 s5.2)]) (fun s5 w26 => I4 s5.1 s5.2 w26) (fun s5 w26 => m4 s5.1 s5.2 w26) (x3, 0) (by exact ⟨rfl, rfl, rfl, rfl, rfl, rfl, trivial⟩) hI4 (fun s5 w26 hI4 => ?_)
          obtain ⟨x7, i3⟩ := s5; replace h := h x7 i3 w26 hI4
          refine CW.seq ?_
          refine CW.seq ?_
          refine CW.region fun L hL => ?_
          refine LW.rd hL rfl (Wants.free rfl) rfl (Rd.move (v := .int .i64 i3) rfl) ?_
          refine LW.rd hL rfl (Wants.free rfl) rfl (Rd.move (v := .slice l1 l1n l1c) rfl) ?_
          refine LW.rd hL rfl (Wants.free rfl) rfl (Rd.builtin (v := .int .i64 (l1n : Int)) rfl (fun _ _ => by kernel_rfl)) ?_
          refine LW.rd hL rfl (Wants.free rfl) rfl (Rd.bin (v := .bool (decide (i3 < (l1n : Int)))) rfl rfl (fun w => by kernel_rfl)) ?_
          refine LW.nil hL rfl ?_
          refine NW.then ?_
          refine CW.cond rfl (fun hb13 => ?_) (fun hb13 => ?_)
          · replace h := h.1 hb13
            refine CW.skip ?_
            refine NW.then ?_
            refine CW.seq ?_
            refine CW.block ?_
            refine CW.seq ?_
            refine CW.region fun L hL => ?_
            refine LW.rd hL rfl (Wants.free rfl) rfl (Rd.move (v := .pointer r3) rfl) ?_
            refine LW.rd hL rfl (Wants.free rfl) rfl (Rd.move (v := .slice l1 l1n l1c) rfl) ?_
            refine LW.rd hL rfl (Wants.free rfl) rfl (Rd.move (v := .int .i64 i3) rfl) ?_
            obtain ⟨a6, he6, hi13, hi14, h⟩ := h
            refine LW.rd hL rfl (Wants.free rfl) rfl (Rd.iaS (q := a6) (sz := 2) (by rw [← he6]; rfl) rfl Try.underlying47 (by kernel_rfl) hi13 hi14) ?_
            obtain ⟨t13, t14, hc7, h⟩ := h
            refine LW.rd hL rfl (Wants.free rfl) rfl (Rd.ldN (cs := [.int .i64 t13, .int .i64 t14]) rfl (by kernel_rfl) (by kernel_rfl) (cellsS hc7)) ?_
            refine LW.call hL rfl (Wants.free rfl) rfl (Cl.fn (f := 28) rfl Try.func28 (by kernel_rfl) rfl) h (fun e w27 h_ => ?_)
            clear h
            obtain ⟨r13, r14, rfl, h⟩ := h_
            refine ⟨_, rfl, ?_⟩
            refine LW.rd hL rfl (Wants.free rfl) rfl (Rd.move (v := .tuple #[.int .u32 r13, .int .i64 r14]) rfl) ?_
            refine LW.rd hL rfl (Wants.free rfl) rfl (Rd.extract (v := .int .u32 r13) rfl rfl) ?_
            refine LW.rd hL rfl (Wants.free rfl) rfl (Rd.extract (v := .int .i64 r14) rfl rfl) ?_
            refine LW.rd hL rfl (Wants.free rfl) rfl (Rd.assign (v := .int .u32 r13) rfl) ?_
            refine LW.rd hL rfl (Wants.free rfl) rfl (Rd.assign (v := .int .i64 r14) rfl) ?_
            refine LW.nil hL rfl ?_
            refine NW.then ?_
            refine CW.seq ?_
            refine CW.region fun L hL => ?_
            refine LW.rd hL rfl (Wants.free rfl) rfl (Rd.move (v := .pointer r10) rfl) ?_
            refine LW.rd hL rfl (Wants.free rfl) rfl (Rd.move (v := .slice l1 l1n l1c) rfl) ?_
            refine LW.rd hL rfl (Wants.free rfl) rfl (Rd.move (v := .int .i64 i3) rfl) ?_
            refine LW.rd hL rfl (Wants.free rfl) rfl (Rd.iaS (q := a6) (sz := 2) (by rw [← he6]; rfl) rfl Try.underlying47 (by kernel_rfl) hi13 hi14) ?_
            obtain ⟨t15, t16, hc8, h⟩ := h
            refine LW.rd hL rfl (Wants.free rfl) rfl (Rd.ldN (cs := [.int .i64 t15, .int .i64 t16]) rfl (by kernel_rfl) (by kernel_rfl) (cellsS hc8)) ?_
            refine LW.call hL rfl (Wants.free rfl) rfl (Cl.fn (f := 28) rfl Try.func28 (by kernel_rfl) rfl) h (fun e w28 h_ => ?_)
            clear h
            obtain ⟨r15, r16, rfl, h⟩ := h_
            refine ⟨_, rfl, ?_⟩
            refine LW.rd hL rfl (Wants.free rfl) rfl (Rd.move (v := .tuple #[.int .u32 r15, .int .i64 r16]) rfl) ?_
            refine LW.rd hL rfl (Wants.free rfl) rfl (Rd.extract (v := .int .u32 r15) rfl rfl) ?_
            refine LW.rd hL rfl (Wants.free rfl) rfl (Rd.extract (v := .int .i64 r16) rfl rfl) ?_
            refine LW.rd hL rfl (Wants.free rfl) rfl (Rd.assign (v := .int .u32 r15) rfl) ?_
            refine LW.rd hL rfl (Wants.free rfl) rfl (Rd.assign (v := .int .i64 r16) rfl) ?_
            refine LW.nil hL rfl ?_
            refine NW.then ?_
            refine CW.seq ?_
            refine CW.region fun L hL => ?_
            refine LW.rd hL rfl (Wants.free rfl) rfl (Rd.move (v := .int .u32 r13) rfl) ?_
            refine LW.rd hL rfl (Wants.free rfl) rfl (Rd.move (v := .int .u32 set1) rfl) ?_
            refine LW.rd hL rfl (Wants.free rfl) rfl (Rd.bin (v := .bool (!(r13 == set1))) rfl rfl (fun w => by kernel_rfl)) ?_
            refine LW.rd hL rfl (Wants.free rfl) rfl (Rd.move (v := .bool (!(r13 == set1))) rfl) ?_
            suffices K4 : L 12 [(0, .slice l1 l1n l1c), (1, .int .u32 set1), (4, .bool x7), (6, .pointer r3), (12, .pointer r10), (16, .int .i64 i3), (19, .int .u32 r15), (146, .bool (!(r13 == set1) || (decide (i3 < 2) && !(r15 == set1))))] w28 by
              rcases Bool.eq_false_or_eq_true (!(r13 == set1)) with hb15 | hb15
              · skip
                refine LW.skip hL rfl (Skips.on rfl rfl rfl rfl rfl hb15) rfl ?_
                refine LW.skip hL rfl (Skips.on rfl rfl rfl rfl rfl hb15) rfl ?_
                refine LW.skip hL rfl (Skips.on rfl rfl rfl rfl rfl hb15) rfl ?_
                refine LW.skip hL rfl (Skips.un rfl rfl rfl rfl rfl) rfl ?_
                refine LW.skip hL rfl (Skips.un rfl rfl rfl rfl rfl) rfl ?_
                refine LW.skip hL rfl (Skips.un rfl rfl rfl rfl rfl) rfl ?_
                refine LW.skip hL rfl (Skips.on rfl rfl rfl rfl rfl hb15) rfl ?_
                refine LW.rd hL rfl (Wants.free rfl) rfl (Rd.pickT rfl hb15 rfl) ?_
                exact LW.sub hL (by exact ⟨rfl, rfl, rfl, rfl, rfl, rfl, rfl, (by rw [hb15]; rfl), trivial⟩) K4
              · skip
                refine LW.rd hL rfl (Wants.on rfl rfl rfl rfl rfl hb15) rfl (Rd.move (v := .int .i64 i3) rfl) ?_
                refine LW.rd hL rfl (Wants.on rfl rfl rfl rfl rfl hb15) rfl (Rd.bin (v := .bool (decide (i3 < 2))) rfl rfl (fun w => by kernel_rfl)) ?_
                refine LW.rd hL rfl (Wants.on rfl rfl rfl rfl rfl hb15) rfl (Rd.move (v := .bool (decide (i3 < 2))) rfl) ?_
                suffices K5 : L 11 [(0, .slice l1 l1n l1c), (1, .int .u32 set1), (4, .bool x7), (6, .pointer r3), (12, .pointer r10), (16, .int .i64 i3), (19, .int .u32 r15), (138, .bool (!(r13 == set1))), (145, .bool (decide (i3 < 2) && !(r15 == set1)))] w28 by
                  rcases Bool.eq_false_or_eq_true (decide (i3 < 2)) with hb17 | hb17
                  · skip
                    refine LW.rd hL rfl (Wants.on rfl rfl rfl rfl rfl hb17) rfl (Rd.move (v := .int .u32 r15) rfl) ?_
                    refine LW.rd hL rfl (Wants.on rfl rfl rfl rfl rfl hb17) rfl (Rd.move (v := .int .u32 set1) rfl) ?_
                    refine LW.rd hL rfl (Wants.on rfl rfl rfl rfl rfl hb17) rfl (Rd.bin (v := .bool (!(r15 == set1))) rfl rfl (fun w => by kernel_rfl)) ?_
                    refine LW.rd hL rfl (Wants.on rfl rfl rfl rfl rfl hb15) rfl (Rd.pickT rfl hb17 rfl) ?_
                    exact LW.sub hL (by exact ⟨rfl, rfl, rfl, rfl, rfl, rfl, rfl, rfl, (by rw [hb17]; rfl), trivial⟩) K5
                  · skip
                    refine LW.skip hL rfl (Skips.on rfl rfl rfl rfl rfl hb17) rfl ?_
                    refine LW.skip hL rfl (Skips.on rfl rfl rfl rfl rfl hb17) rfl ?_
                    refine LW.skip hL rfl (Skips.on rfl rfl rfl rfl rfl hb17) rfl ?_
                    refine LW.rd hL rfl (Wants.on rfl rfl rfl rfl rfl hb15) rfl (Rd.pickF rfl hb17 rfl) ?_
                    exact LW.sub hL (by exact ⟨rfl, rfl, rfl, rfl, rfl, rfl, rfl, rfl, (by rw [hb17]; rfl), trivial⟩) K5
                refine LW.rd hL rfl (Wants.free rfl) rfl (Rd.pickF rfl hb15 rfl) ?_
                exact LW.sub hL (by exact ⟨rfl, rfl, rfl, rfl, rfl, rfl, rfl, (by rw [hb15]; rfl), trivial⟩) K4
            refine LW.rd hL rfl (Wants.free rfl) rfl (Rd.move (v := .bool (!(r13 == set1) || (decide (i3 < 2) && !(r15 == set1)))) rfl) ?_
            suffices K6 : L 20 [(0, .slice l1 l1n l1c), (1, .int .u32 set1), (4, .bool x7), (6, .pointer r3), (12, .pointer r10), (16, .int .i64 i3), (154, .bool ((!(r13 == set1) || (decide (i3 < 2) && !(r15 == set1))) || (decide (i3 ≥ 2) && !(r15 == 0))))] w28 by
              rcases Bool.eq_false_or_eq_true (!(r13 == set1) || (decide (i3 < 2) && !(r15 == set1))) with hb19 | hb19
              · skip
                refine LW.skip hL rfl (Skips.on rfl rfl rfl rfl rfl hb19) rfl ?_
                refine LW.skip hL rfl (Skips.on rfl rfl rfl rfl rfl hb19) rfl ?_
                refine LW.skip hL rfl (Skips.on rfl rfl rfl rfl rfl hb19) rfl ?_
                refine LW.skip hL rfl (Skips.un rfl rfl rfl rfl rfl) rfl ?_
                refine LW.skip hL rfl (Skips.un rfl rfl rfl rfl rfl) rfl ?_
                refine LW.skip hL rfl (Skips.on rfl rfl rfl rfl rfl hb19) rfl ?_
                refine LW.rd hL rfl (Wants.free rfl) rfl (Rd.pickT rfl hb19 rfl) ?_
                exact LW.sub hL (by exact ⟨rfl, rfl, rfl, rfl, rfl, rfl, (by rw [hb19]; rfl), trivial⟩) K6
              · skip
                refine LW.rd hL rfl (Wants.on rfl rfl rfl rfl rfl hb19) rfl (Rd.move (v := .int .i64 i3) rfl) ?_
                refine LW.rd hL rfl (Wants.on rfl rfl rfl rfl rfl hb19) rfl (Rd.bin (v := .bool (decide (i3 ≥ 2))) rfl rfl (fun w => by kernel_rfl)) ?_
                refine LW.rd hL rfl (Wants.on rfl rfl rfl rfl rfl hb19) rfl (Rd.move (v := .bool (decide (i3 ≥ 2))) rfl) ?_
                suffices K7 : L 19 [(0, .slice l1 l1n l1c), (1, .int .u32 set1), (4, .bool x7), (6, .pointer r3), (12, .pointer r10), (16, .int .i64 i3), (147, .bool (!(r13 == set1) || (decide (i3 < 2) && !(r15 == set1)))), (153, .bool (decide (i3 ≥ 2) && !(r15 == 0)))] w28 by
                  rcases Bool.eq_false_or_eq_true (decide (i3 ≥ 2)) with hb21 | hb21
                  · skip
                    refine LW.rd hL rfl (Wants.on rfl rfl rfl rfl rfl hb21) rfl (Rd.move (v := .int .u32 r15) rfl) ?_
                    refine LW.rd hL rfl (Wants.on rfl rfl rfl rfl rfl hb21) rfl (Rd.bin (v := .bool (!(r15 == 0))) rfl rfl (fun w => by kernel_rfl)) ?_
                    refine LW.rd hL rfl (Wants.on rfl rfl rfl rfl rfl hb19) rfl (Rd.pickT rfl hb21 rfl) ?_
                    exact LW.sub hL (by exact ⟨rfl, rfl, rfl, rfl, rfl, rfl, rfl, (by rw [hb21]; rfl), trivial⟩) K7
                  · skip
                    refine LW.skip hL rfl (Skips.on rfl rfl rfl rfl rfl hb21) rfl ?_
                    refine LW.skip hL rfl (Skips.on rfl rfl rfl rfl rfl hb21) rfl ?_
                    refine LW.rd hL rfl (Wants.on rfl rfl rfl rfl rfl hb19) rfl (Rd.pickF rfl hb21 rfl) ?_
                    exact LW.sub hL (by exact ⟨rfl, rfl, rfl, rfl, rfl, rfl, rfl, (by rw [hb21]; rfl), trivial⟩) K7
                refine LW.rd hL rfl (Wants.free rfl) rfl (Rd.pickF rfl hb19 rfl) ?_
                exact LW.sub hL (by exact ⟨rfl, rfl, rfl, rfl, rfl, rfl, (by rw [hb19]; rfl), trivial⟩) K6
            refine LW.nil hL rfl ?_
            refine NW.then ?_
            refine CW.cond rfl (fun hb22 => ?_) (fun hb22 => ?_)
            · replace h := h.1 hb22
              refine CW.seq ?_
              refine CW.region fun L hL => ?_
              refine LW.rd hL rfl (Wants.free rfl) rfl (Rd.assign (v := .bool false) rfl) ?_
              refine LW.nil hL rfl ?_
              refine NW.then ?_
              refine CW.ret ?_
              refine RW.block ?_
              refine RW.then ?_
              refine RW.then ?_
              refine RW.block ?_
              refine RW.then ?_
              exact res1 rfl rfl ⟨false, rfl, h⟩
            · replace h := h.2 hb22
              refine CW.skip ?_
              refine NW.block ?_
              refine NW.then ?_
              refine CW.region fun L hL => ?_
              refine LW.rd hL rfl (Wants.free rfl) rfl (Rd.move (v := .int .i64 i3) rfl) ?_
              refine LW.rd hL rfl (Wants.free rfl) rfl (Rd.bin (v := .int .i64 (IntKind.wrap .i64 (i3 + 1))) rfl rfl (fun w => by kernel_rfl)) ?_
              refine LW.rd hL rfl (Wants.free rfl) rfl (Rd.assign (v := .int .i64 (IntKind.wrap .i64 (i3 + 1))) rfl) ?_
              refine LW.nil hL rfl ?_
              exact NW.loop (S := Bool × Int) (Ek := fun s5 => [(0, .slice l1 l1n l1c), (1, .int .u32 set1), (6, .pointer r3), (12, .pointer r10), (4, .bool s5.1), (16, .int .i64 s5.2)]) (x7, IntKind.wrap .i64 (i3 + 1)) (by exact ⟨rfl, rfl, rfl, rfl, rfl, rfl, trivial⟩) h
          · replace h := h.2 hb13
            refine CW.exit ?_
            refine XW.then ?_
            refine XW.then ?_
            refine XW.hit ?_
            refine NW.then ?_
            refine CW.seq ?_
            refine CW.region fun L hL => ?_
            refine LW.call hL rfl (Wants.free rfl) rfl (Cl.fn (f := 24) rfl Try.func24 (by kernel_rfl) rfl) h (fun e w29 h_ => ?_)
            clear h
            obtain ⟨r17, rfl, h⟩ := h_
            refine ⟨_, rfl, ?_⟩
            refine LW.rd hL rfl (Wants.free rfl) rfl (Rd.assign (v := .bool r17) rfl) ?_
            refine LW.nil hL rfl ?_
            refine NW.then ?_
            refine CW.ret ?_
            exact res1 rfl rfl ⟨r17, rfl, h⟩

end Go.Proofs.Ytkfncibmfcdokaa
