/- Texts of the claim, merged: XQ4 XKnown14 XMade14 XPlain14 XQ3 XRefQ1 XRefQ2 XBytes14 XHroots XRootsW XRef1 XRef2 XRef3 XRef4 XOpen XOpen2 XOpen14 XStep. -/
import Derived.Test.YtfcfkhbkkfpehaaDoorXR2
import Derived.Test.YtfcfkhbkkfpehaaDoorProg
import Derived.WalkKit
import Derived.ProofKit
import Derived.OpenShut
import Derived.ChangeOld
import Derived.Carry
import Derived.Test.YtfcfkhbkkfpehaaDoorRows
set_option linter.unusedSectionVars false
set_option linter.unusedSimpArgs false
set_option linter.unusedVariables false
section
namespace Go.Proofs.YtfcfkhbkkfpehaaDoor
open Go Go.X
def z109_XQ4 : List Value := List.replicate 24 (Value.int .u8 0)
/- pomander/query.Text -/
def W_query_Text (p1 : Int) (p2 : Int) (w : World) (R : ByteArray → World → Prop) : Prop :=
 ∀ (b1 : Nat) (w1 : World), (w.heap.size ≤ b1 ∧ b1 < w1.heap.size) → Chg [] w w1 → (∃ J1 : Bool → World → Prop, (∀ (b2 : Bool) (w2 : World), J1 b2 w2 → (b2 = true → R ⟨#[63]⟩ w2) ∧ (b2 = false → ∃ J2 : Bool → World → Prop, (∀ (b3 : Bool) (w3 : World), J2 b3 w3 → (b3 = true → ∀ (w4 : World), Chg [] w3 w4 → (Calls Tryd.prog 29 #[] w4 fun e w5 => ∃ (r2 : ByteArray) (r3 : ByteArray) (r4 : ByteArray) (r5 : ByteArray) (r6 : ByteArray) (r7 : ByteArray) (r8 : ByteArray) (r9 : ByteArray) (r10 : ByteArray) (r11 : ByteArray) (r12 : ByteArray) (r13 : ByteArray) (r14 : ByteArray) (r15 : ByteArray) (r16 : ByteArray) (r17 : ByteArray) (r18 : ByteArray) (r19 : ByteArray), e = .returned (.agg #[.string r2, .string r3, .string r4, .string r5, .string r6, .string r7, .string r8, .string r9, .string r10, .string r11, .string r12, .string r13, .string r14, .string r15, .string r16, .string r17, .string r18, .string r19]) ∧ (Same w4 w5 [b1] ∧ (∃ (x1 : ByteArray), (∀ w : World, (Instr.index 76 (.agg #[.string r2, .string r3, .string r4, .string r5, .string r6, .string r7, .string r8, .string r9, .string r10, .string r11, .string r12, .string r13, .string r14, .string r15, .string r16, .string r17, .string r18, .string r19]) (.int .i64 p1)).run Tryd.prog w = .ok (.string x1) w) ∧ (∃ (t1 : ByteArray), (∀ w : World, ((do eqGuard .add 9 (.tmp 24) (.const (.string ⟨#[32]⟩)) (.string x1) (.string ⟨#[32]⟩); binOp .add 9 (.string x1) (.string ⟨#[32]⟩) : Sem Value)).run Tryd.prog w = .ok (.string t1) w) ∧ (Calls Tryd.prog 30 #[.int .i64 p2] w5 fun e w6 => ∃ (r20 : ByteArray), e = .returned (.string r20) ∧ (Same w5 w6 [b1] ∧ (∃ (t2 : ByteArray), (∀ w : World, ((do eqGuard .add 9 (.tmp 25) (.tmp 28) (.string t1) (.string r20); binOp .add 9 (.string t1) (.string r20) : Sem Value)).run Tryd.prog w = .ok (.string t2) w) ∧ (R t2 w6))))))))) ∧ (b3 = false → ∀ (w7 : World), Chg [] w3 w7 → (Calls Tryd.prog 29 #[] w7 fun e w8 => ∃ (r21 : ByteArray) (r22 : ByteArray) (r23 : ByteArray) (r24 : ByteArray) (r25 : ByteArray) (r26 : ByteArray) (r27 : ByteArray) (r28 : ByteArray) (r29 : ByteArray) (r30 : ByteArray) (r31 : ByteArray) (r32 : ByteArray) (r33 : ByteArray) (r34 : ByteArray) (r35 : ByteArray) (r36 : ByteArray) (r37 : ByteArray) (r38 : ByteArray), e = .returned (.agg #[.string r21, .string r22, .string r23, .string r24, .string r25, .string r26, .string r27, .string r28, .string r29, .string r30, .string r31, .string r32, .string r33, .string r34, .string r35, .string r36, .string r37, .string r38]) ∧ (Same w7 w8 [b1] ∧ (∃ (x2 : ByteArray), (∀ w : World, (Instr.index 76 (.agg #[.string r21, .string r22, .string r23, .string r24, .string r25, .string r26, .string r27, .string r28, .string r29, .string r30, .string r31, .string r32, .string r33, .string r34, .string r35, .string r36, .string r37, .string r38]) (.int .i64 p1)).run Tryd.prog w = .ok (.string x2) w) ∧ (R x2 w8)))))) ∧ (((p1 == 1) = false → J2 (decide (p1 ≥ 10)) w2) ∧ ((p1 == 1) = true → J2 true w2)))) ∧ (((decide (p1 < 0)) = false → J1 (decide (p1 > 17)) w1) ∧ ((decide (p1 < 0)) = true → J1 true w1)))
set_option maxRecDepth 100000 in
theorem go_query_Text (p1 : Int) (p2 : Int) (w : World) (R : ByteArray → World → Prop) (h : W_query_Text p1 p2 w R) : Calls Tryd.prog 19 #[.agg #[.int .i64 p1, .int .i64 p2]] w (fun e w' => ∃ (r1 : ByteArray), e = .returned (.string r1) ∧ R r1 w') := by
 unfold W_query_Text at h
 refine enter (N := 34) Tryd.func19 rfl rfl ?_
 refine CW.seq ?_
 refine CW.region fun L hL => ?_
 obtain ⟨b1, hb_b1⟩ : ∃ b1, b1 = World.size w := ⟨_, rfl⟩
 obtain ⟨w1, hw_w1⟩ : ∃ w1, w1 = World.alloc w (.cells #[.int .i64 p1, .int .i64 p2] 27) := ⟨_, rfl⟩
 refine LW.val hL rfl (Wants.free rfl) rfl (boxE hb_b1 hw_w1 (Vl.box (v := .agg #[.int .i64 p1, .int .i64 p2]) rfl)) ?_
 have hB := Boxes.alloc (cs := [.int .i64 p1, .int .i64 p2]) (T := 27) (Boxes.nil w) hb_b1 hw_w1
 have hlo_b1 := sil_lo (Chg.refl [] w) hb_b1
 have hc_w1 := sil_alloc (Chg.refl [] w) hw_w1
 refine LW.rd hL rfl (Wants.free rfl) rfl (Rd.assign (v := .string ⟨#[]⟩) rfl) ?_
 refine LW.nil hL rfl ?_
 refine NW.then ?_
 refine CW.seq ?_
 refine CW.block ?_
 refine CW.seq ?_
 refine CW.region fun L hL => ?_
 refine LW.rd hL rfl (Wants.free rfl) rfl (Rd.fa (v := .pointer (some (⟨b1, 0, none⟩ : Addr))) rfl (fun _ => by kernel_rfl)) ?_
 refine LW.rd hL rfl (Wants.free rfl) rfl (Rd.ld (v := .int .i64 p1) rfl (by kernel_rfl) (eqs (box_cell (hB.at (i := 0) rfl) rfl))) ?_
 refine LW.rd hL rfl (Wants.free rfl) rfl (Rd.bin (v := .bool (decide (p1 < 0))) rfl rfl (fun w => by kernel_rfl)) ?_
 refine LW.rd hL rfl (Wants.free rfl) rfl (Rd.move (v := .bool (decide (p1 < 0))) rfl) ?_
 replace h := h b1 w1 ⟨hlo_b1, lt_of_heap (hB.at (i := 0) rfl)⟩ hc_w1
 obtain ⟨J1, hJ1, h1_J1, h0_J1⟩ := h
 suffices K1 : ∀ (b2 : Bool) (w2 : World), Boxes w2 [(b1, [.int .i64 p1, .int .i64 p2], 27)] → J1 b2 w2 → L 8 [(1, .pointer (some (⟨b1, 0, none⟩ : Addr))), (2, .string ⟨#[]⟩), (11, .bool b2)] w2 by
  rcases Bool.eq_false_or_eq_true (decide (p1 < 0)) with hb1 | hb1
  ·have h := h0_J1 hb1
   refine LW.skip hL rfl (Skips.on rfl rfl rfl rfl rfl hb1) rfl ?_
   refine LW.skip hL rfl (Skips.on rfl rfl rfl rfl rfl hb1) rfl ?_
   refine LW.skip hL rfl (Skips.on rfl rfl rfl rfl rfl hb1) rfl ?_
   refine LW.rd hL rfl (Wants.free rfl) rfl (Rd.pickT rfl hb1 rfl) ?_
   exact LW.sub hL (by exact ⟨rfl, rfl, rfl, trivial⟩) (K1 true w1 (by exact hB) h)
  ·have h := h1_J1 hb1
   refine LW.rd hL rfl (Wants.on rfl rfl rfl rfl rfl hb1) rfl (Rd.fa (v := .pointer (some (⟨b1, 0, none⟩ : Addr))) rfl (fun _ => by kernel_rfl)) ?_
   refine LW.rd hL rfl (Wants.on rfl rfl rfl rfl rfl hb1) rfl (Rd.ld (v := .int .i64 p1) rfl (by kernel_rfl) (eqs (box_cell (hB.at (i := 0) rfl) rfl))) ?_
   refine LW.rd hL rfl (Wants.on rfl rfl rfl rfl rfl hb1) rfl (Rd.bin (v := .bool (decide (p1 > 17))) rfl rfl (fun w => by kernel_rfl)) ?_
   refine LW.rd hL rfl (Wants.free rfl) rfl (Rd.pickF rfl hb1 rfl) ?_
   exact LW.sub hL (by exact ⟨rfl, rfl, rfl, trivial⟩) (K1 (decide (p1 > 17)) w1 (by exact hB) h)
 intro b2 w2 hB h_
 have h := hJ1 b2 w2 h_; clear h_
 refine LW.rd hL rfl (Wants.free rfl) rfl (Rd.assign (v := .bool b2) rfl) ?_
 refine LW.nil hL rfl ?_
 refine NW.then ?_
 refine CW.cond rfl (fun hb2 => ?_) (fun hb2 => ?_)
 ·replace h := h.1 hb2
  refine CW.seq ?_
  refine CW.region fun L hL => ?_
  refine LW.rd hL rfl (Wants.free rfl) rfl (Rd.assign (v := .string ⟨#[63]⟩) rfl) ?_
  refine LW.nil hL rfl ?_
  refine NW.then ?_
  refine CW.ret ?_
  refine RW.block ?_
  refine RW.then ?_
  exact res1 rfl rfl ⟨⟨#[63]⟩, rfl, h⟩
 ·replace h := h.2 hb2
  refine CW.seq ?_
  refine CW.region fun L hL => ?_
  refine LW.rd hL rfl (Wants.free rfl) rfl (Rd.fa (v := .pointer (some (⟨b1, 0, none⟩ : Addr))) rfl (fun _ => by kernel_rfl)) ?_
  refine LW.rd hL rfl (Wants.free rfl) rfl (Rd.ld (v := .int .i64 p1) rfl (by kernel_rfl) (eqs (box_cell (hB.at (i := 0) rfl) rfl))) ?_
  refine LW.rd hL rfl (Wants.free rfl) rfl (Rd.bin (v := .bool (p1 == 1)) rfl rfl (fun w => by kernel_rfl)) ?_
  refine LW.rd hL rfl (Wants.free rfl) rfl (Rd.move (v := .bool (p1 == 1)) rfl) ?_
  obtain ⟨J2, hJ2, h1_J2, h0_J2⟩ := h
  suffices K2 : ∀ (b3 : Bool) (w3 : World), Boxes w3 [(b1, [.int .i64 p1, .int .i64 p2], 27)] → J2 b3 w3 → L 8 [(1, .pointer (some (⟨b1, 0, none⟩ : Addr))), (2, .string ⟨#[]⟩), (20, .bool b3)] w3 by
   rcases Bool.eq_false_or_eq_true (p1 == 1) with hb3 | hb3
   ·have h := h0_J2 hb3
    refine LW.skip hL rfl (Skips.on rfl rfl rfl rfl rfl hb3) rfl ?_
    refine LW.skip hL rfl (Skips.on rfl rfl rfl rfl rfl hb3) rfl ?_
    refine LW.skip hL rfl (Skips.on rfl rfl rfl rfl rfl hb3) rfl ?_
    refine LW.rd hL rfl (Wants.free rfl) rfl (Rd.pickT rfl hb3 rfl) ?_
    exact LW.sub hL (by exact ⟨rfl, rfl, rfl, trivial⟩) (K2 true w2 (by exact hB) h)
   ·have h := h1_J2 hb3
    refine LW.rd hL rfl (Wants.on rfl rfl rfl rfl rfl hb3) rfl (Rd.fa (v := .pointer (some (⟨b1, 0, none⟩ : Addr))) rfl (fun _ => by kernel_rfl)) ?_
    refine LW.rd hL rfl (Wants.on rfl rfl rfl rfl rfl hb3) rfl (Rd.ld (v := .int .i64 p1) rfl (by kernel_rfl) (eqs (box_cell (hB.at (i := 0) rfl) rfl))) ?_
    refine LW.rd hL rfl (Wants.on rfl rfl rfl rfl rfl hb3) rfl (Rd.bin (v := .bool (decide (p1 ≥ 10))) rfl rfl (fun w => by kernel_rfl)) ?_
    refine LW.rd hL rfl (Wants.free rfl) rfl (Rd.pickF rfl hb3 rfl) ?_
    exact LW.sub hL (by exact ⟨rfl, rfl, rfl, trivial⟩) (K2 (decide (p1 ≥ 10)) w2 (by exact hB) h)
  intro b3 w3 hB h_
  have h := hJ2 b3 w3 h_; clear h_
  refine LW.rd hL rfl (Wants.free rfl) rfl (Rd.assign (v := .bool b3) rfl) ?_
  refine LW.nil hL rfl ?_
  refine NW.then ?_
  refine CW.cond rfl (fun hb4 => ?_) (fun hb4 => ?_)
  ·replace h := h.1 hb4
   refine CW.seq ?_
   obtain ⟨w4, hw_w4⟩ : ∃ x, x = World.drew w3 := ⟨_, rfl⟩
   have hc_w4 := sil_drew (Chg.refl [] w3) hw_w4
   replace hB := hB.drew hw_w4
   refine CW.drawn (fun w => Boxes w [(b1, [.int .i64 p1, .int .i64 p2], 27)]) 10 (by kernel_rfl) fun H hH => ?_
   rw [← hw_w4]
   have hS1 : Boxes w4 [(b1, [.int .i64 p1, .int .i64 p2], 27)] := hB
   refine HW.pure (i := 1) hH rfl (by kernel_rfl) (Wants.free rfl) rfl (fun _ => hS1) (Rd.fa (v := .pointer (some (⟨b1, 0, none⟩ : Addr))) rfl (fun _ => by kernel_rfl)) ?_
   refine HW.take (i := 2) hH rfl (by kernel_rfl) (by kernel_rfl) (Wants.free rfl) rfl (fun _ => hS1) (Rd.ld (v := .int .i64 p1) rfl (by kernel_rfl) (fun w h => box_cell (Boxes.at (i := 0) h rfl) rfl)) ?_
   refine HW.pure (i := 5) hH rfl (by kernel_rfl) (Wants.free rfl) rfl (fun _ => hS1) (Rd.fa (v := .pointer (some (⟨b1, 1, none⟩ : Addr))) rfl (fun _ => by kernel_rfl)) ?_
   refine HW.take (i := 6) hH rfl (by kernel_rfl) (by kernel_rfl) (Wants.free rfl) rfl (fun _ => hS1) (Rd.ld (v := .int .i64 p2) rfl (by kernel_rfl) (fun w h => box_cell (Boxes.at (i := 0) h rfl) rfl)) ?_
   replace h := h  w4  hc_w4
   refine HW.call (i := 0) hH (by kernel_rfl) rfl (Wants.free rfl) rfl (Cl.fn (f := 29) rfl Tryd.func29 (by kernel_rfl) rfl) h (fun e w5 h_ => ?_)
   clear h
   obtain ⟨r2, r3, r4, r5, r6, r7, r8, r9, r10, r11, r12, r13, r14, r15, r16, r17, r18, r19, rfl, h⟩ := h_
   obtain ⟨hsm1, h⟩ := h
   replace hB := Boxes.sameS hB hsm1 (by simp)
   have hS2 : Boxes w5 [(b1, [.int .i64 p1, .int .i64 p2], 27)] := hB
   refine ⟨_, rfl, (fun _ => hS2), ?_⟩
   obtain ⟨x1, hx1, h⟩ := h
   refine HW.pure (i := 3) hH rfl (by kernel_rfl) (Wants.free rfl) rfl (fun _ => hS2) (Rd.index (v := .string x1) rfl rfl hx1) ?_
   obtain ⟨t1, hx2, h⟩ := h
   refine HW.pure (i := 4) hH rfl (by kernel_rfl) (Wants.free rfl) rfl (fun _ => hS2) (Rd.bin (v := .string t1) rfl rfl hx2) ?_
   refine HW.call (i := 7) hH (by kernel_rfl) rfl (Wants.free rfl) rfl (Cl.fn (f := 30) rfl Tryd.func30 (by kernel_rfl) rfl) h (fun e w6 h_ => ?_)
   clear h
   obtain ⟨r20, rfl, h⟩ := h_
   obtain ⟨hsm2, h⟩ := h
   replace hB := Boxes.sameS hB hsm2 (by simp)
   have hS3 : Boxes w6 [(b1, [.int .i64 p1, .int .i64 p2], 27)] := hB
   refine ⟨_, rfl, (fun _ => hS3), ?_⟩
   obtain ⟨t2, hx3, h⟩ := h
   refine HW.pure (i := 8) hH rfl (by kernel_rfl) (Wants.free rfl) rfl (fun _ => hS3) (Rd.bin (v := .string t2) rfl rfl hx3) ?_
   refine HW.pure (i := 9) hH rfl (by kernel_rfl) (Wants.free rfl) rfl (fun _ => hS3) (Rd.assign (v := .string t2) rfl) ?_
   refine HW.done hH (by kernel_rfl) ?_
   refine NW.then ?_
   refine CW.ret ?_
   refine RW.block ?_
   refine RW.then ?_
   exact res1 rfl rfl ⟨t2, rfl, h⟩
  ·replace h := h.2 hb4
   refine CW.skip ?_
   refine NW.block ?_
   refine NW.then ?_
   refine CW.seq ?_
   obtain ⟨w7, hw_w7⟩ : ∃ x, x = World.drew w3 := ⟨_, rfl⟩
   have hc_w7 := sil_drew (Chg.refl [] w3) hw_w7
   replace hB := hB.drew hw_w7
   refine CW.drawn (fun w => Boxes w [(b1, [.int .i64 p1, .int .i64 p2], 27)]) 5 (by kernel_rfl) fun H hH => ?_
   rw [← hw_w7]
   have hS4 : Boxes w7 [(b1, [.int .i64 p1, .int .i64 p2], 27)] := hB
   refine HW.pure (i := 1) hH rfl (by kernel_rfl) (Wants.free rfl) rfl (fun _ => hS4) (Rd.fa (v := .pointer (some (⟨b1, 0, none⟩ : Addr))) rfl (fun _ => by kernel_rfl)) ?_
   refine HW.take (i := 2) hH rfl (by kernel_rfl) (by kernel_rfl) (Wants.free rfl) rfl (fun _ => hS4) (Rd.ld (v := .int .i64 p1) rfl (by kernel_rfl) (fun w h => box_cell (Boxes.at (i := 0) h rfl) rfl)) ?_
   replace h := h  w7  hc_w7
   refine HW.call (i := 0) hH (by kernel_rfl) rfl (Wants.free rfl) rfl (Cl.fn (f := 29) rfl Tryd.func29 (by kernel_rfl) rfl) h (fun e w8 h_ => ?_)
   clear h
   obtain ⟨r21, r22, r23, r24, r25, r26, r27, r28, r29, r30, r31, r32, r33, r34, r35, r36, r37, r38, rfl, h⟩ := h_
   obtain ⟨hsm3, h⟩ := h
   replace hB := Boxes.sameS hB hsm3 (by simp)
   have hS5 : Boxes w8 [(b1, [.int .i64 p1, .int .i64 p2], 27)] := hB
   refine ⟨_, rfl, (fun _ => hS5), ?_⟩
   obtain ⟨x2, hx4, h⟩ := h
   refine HW.pure (i := 3) hH rfl (by kernel_rfl) (Wants.free rfl) rfl (fun _ => hS5) (Rd.index (v := .string x2) rfl rfl hx4) ?_
   refine HW.pure (i := 4) hH rfl (by kernel_rfl) (Wants.free rfl) rfl (fun _ => hS5) (Rd.assign (v := .string x2) rfl) ?_
   refine HW.done hH (by kernel_rfl) ?_
   refine NW.then ?_
   refine CW.ret ?_
   exact res1 rfl rfl ⟨x2, rfl, h⟩
/- pomander/query.names -/
def W_query_names  (w : World) (R : ByteArray → ByteArray → ByteArray → ByteArray → ByteArray → ByteArray → ByteArray → ByteArray → ByteArray → ByteArray → ByteArray → ByteArray → ByteArray → ByteArray → ByteArray → ByteArray → ByteArray → ByteArray → World → Prop) : Prop :=
 ∀ (b1 : Nat) (w2 : World), (w.heap.size ≤ b1 ∧ b1 < w2.heap.size) → Chg [] w w2 → (R ⟨#[110, 111, 110, 101]⟩ ⟨#[114, 101, 103]⟩ ⟨#[112, 99]⟩ ⟨#[101, 112, 99]⟩ ⟨#[99, 97, 117, 115, 101]⟩ ⟨#[118, 101, 99]⟩ ⟨#[116, 97, 98, 108, 101]⟩ ⟨#[109, 111, 100, 101]⟩ ⟨#[109, 97, 115, 107]⟩ ⟨#[97, 108, 97, 114, 109]⟩ ⟨#[109, 101, 109]⟩ ⟨#[116, 108, 98]⟩ ⟨#[115, 101, 99, 116, 111, 114]⟩ ⟨#[105, 110]⟩ ⟨#[111, 117, 116]⟩ ⟨#[112, 97, 99, 107, 101, 116]⟩ ⟨#[115, 101, 110, 116]⟩ ⟨#[97, 115, 107]⟩ w2)
set_option maxRecDepth 100000 in
theorem go_query_names  (w : World) (R : ByteArray → ByteArray → ByteArray → ByteArray → ByteArray → ByteArray → ByteArray → ByteArray → ByteArray → ByteArray → ByteArray → ByteArray → ByteArray → ByteArray → ByteArray → ByteArray → ByteArray → ByteArray → World → Prop) (h : W_query_names  w R) : Calls Tryd.prog 29 #[] w (fun e w' => ∃ (r1 : ByteArray) (r2 : ByteArray) (r3 : ByteArray) (r4 : ByteArray) (r5 : ByteArray) (r6 : ByteArray) (r7 : ByteArray) (r8 : ByteArray) (r9 : ByteArray) (r10 : ByteArray) (r11 : ByteArray) (r12 : ByteArray) (r13 : ByteArray) (r14 : ByteArray) (r15 : ByteArray) (r16 : ByteArray) (r17 : ByteArray) (r18 : ByteArray), e = .returned (.agg #[.string r1, .string r2, .string r3, .string r4, .string r5, .string r6, .string r7, .string r8, .string r9, .string r10, .string r11, .string r12, .string r13, .string r14, .string r15, .string r16, .string r17, .string r18]) ∧ R r1 r2 r3 r4 r5 r6 r7 r8 r9 r10 r11 r12 r13 r14 r15 r16 r17 r18 w') := by
 unfold W_query_names at h
 refine enter (N := 2) Tryd.func29 rfl rfl ?_
 refine CW.seq ?_
 refine CW.region fun L hL => ?_
 obtain ⟨b1, hb_b1⟩ : ∃ b1, b1 = World.size w := ⟨_, rfl⟩
 obtain ⟨w1, hw_w1⟩ : ∃ w1, w1 = World.alloc w (.cells #[.string ByteArray.empty, .string ByteArray.empty, .string ByteArray.empty, .string ByteArray.empty, .string ByteArray.empty, .string ByteArray.empty, .string ByteArray.empty, .string ByteArray.empty, .string ByteArray.empty, .string ByteArray.empty, .string ByteArray.empty, .string ByteArray.empty, .string ByteArray.empty, .string ByteArray.empty, .string ByteArray.empty, .string ByteArray.empty, .string ByteArray.empty, .string ByteArray.empty] 76) := ⟨_, rfl⟩
 refine LW.val hL rfl (Wants.free rfl) rfl (boxE hb_b1 hw_w1 (Vl.alloc (z := .agg #[.string ByteArray.empty, .string ByteArray.empty, .string ByteArray.empty, .string ByteArray.empty, .string ByteArray.empty, .string ByteArray.empty, .string ByteArray.empty, .string ByteArray.empty, .string ByteArray.empty, .string ByteArray.empty, .string ByteArray.empty, .string ByteArray.empty, .string ByteArray.empty, .string ByteArray.empty, .string ByteArray.empty, .string ByteArray.empty, .string ByteArray.empty, .string ByteArray.empty]) (by kernel_rfl))) ?_
 have hB := Boxes.alloc (cs := [.string ByteArray.empty, .string ByteArray.empty, .string ByteArray.empty, .string ByteArray.empty, .string ByteArray.empty, .string ByteArray.empty, .string ByteArray.empty, .string ByteArray.empty, .string ByteArray.empty, .string ByteArray.empty, .string ByteArray.empty, .string ByteArray.empty, .string ByteArray.empty, .string ByteArray.empty, .string ByteArray.empty, .string ByteArray.empty, .string ByteArray.empty, .string ByteArray.empty]) (T := 76) (Boxes.nil w) hb_b1 hw_w1
 have hlo_b1 := sil_lo (Chg.refl [] w) hb_b1
 have hc_w1 := sil_alloc (Chg.refl [] w) hw_w1
 refine LW.nil hL rfl ?_
 refine NW.then ?_
 refine CW.seq ?_
 refine CW.region fun L hL => ?_
 refine LW.rd hL rfl (Wants.free rfl) rfl (Rd.build (v := .agg #[.string ⟨#[110, 111, 110, 101]⟩, .string ⟨#[114, 101, 103]⟩, .string ⟨#[112, 99]⟩, .string ⟨#[101, 112, 99]⟩, .string ⟨#[99, 97, 117, 115, 101]⟩, .string ⟨#[118, 101, 99]⟩, .string ⟨#[116, 97, 98, 108, 101]⟩, .string ⟨#[109, 111, 100, 101]⟩, .string ⟨#[109, 97, 115, 107]⟩, .string ⟨#[97, 108, 97, 114, 109]⟩, .string ⟨#[109, 101, 109]⟩, .string ⟨#[116, 108, 98]⟩, .string ⟨#[115, 101, 99, 116, 111, 114]⟩, .string ⟨#[105, 110]⟩, .string ⟨#[111, 117, 116]⟩, .string ⟨#[112, 97, 99, 107, 101, 116]⟩, .string ⟨#[115, 101, 110, 116]⟩, .string ⟨#[97, 115, 107]⟩]) rfl (fun _ => by kernel_rfl)) ?_
 obtain ⟨w2, hw_w2⟩ : ∃ x, x = setCells w1 (⟨b1, 0, none⟩ : Addr) 0 [.string ⟨#[110, 111, 110, 101]⟩, .string ⟨#[114, 101, 103]⟩, .string ⟨#[112, 99]⟩, .string ⟨#[101, 112, 99]⟩, .string ⟨#[99, 97, 117, 115, 101]⟩, .string ⟨#[118, 101, 99]⟩, .string ⟨#[116, 97, 98, 108, 101]⟩, .string ⟨#[109, 111, 100, 101]⟩, .string ⟨#[109, 97, 115, 107]⟩, .string ⟨#[97, 108, 97, 114, 109]⟩, .string ⟨#[109, 101, 109]⟩, .string ⟨#[116, 108, 98]⟩, .string ⟨#[115, 101, 99, 116, 111, 114]⟩, .string ⟨#[105, 110]⟩, .string ⟨#[111, 117, 116]⟩, .string ⟨#[112, 97, 99, 107, 101, 116]⟩, .string ⟨#[115, 101, 110, 116]⟩, .string ⟨#[97, 115, 107]⟩] := ⟨_, rfl⟩
 refine LW.eff hL rfl (Wants.free rfl) rfl (stNE hw_w2 (Ef.stN (cs := [.string ⟨#[110, 111, 110, 101]⟩, .string ⟨#[114, 101, 103]⟩, .string ⟨#[112, 99]⟩, .string ⟨#[101, 112, 99]⟩, .string ⟨#[99, 97, 117, 115, 101]⟩, .string ⟨#[118, 101, 99]⟩, .string ⟨#[116, 97, 98, 108, 101]⟩, .string ⟨#[109, 111, 100, 101]⟩, .string ⟨#[109, 97, 115, 107]⟩, .string ⟨#[97, 108, 97, 114, 109]⟩, .string ⟨#[109, 101, 109]⟩, .string ⟨#[116, 108, 98]⟩, .string ⟨#[115, 101, 99, 116, 111, 114]⟩, .string ⟨#[105, 110]⟩, .string ⟨#[111, 117, 116]⟩, .string ⟨#[112, 97, 99, 107, 101, 116]⟩, .string ⟨#[115, 101, 110, 116]⟩, .string ⟨#[97, 115, 107]⟩]) rfl rfl (by kernel_rfl) (List.forall_mem_cons.2 ⟨rfl, (List.forall_mem_cons.2 ⟨rfl, (List.forall_mem_cons.2 ⟨rfl, (List.forall_mem_cons.2 ⟨rfl, (List.forall_mem_cons.2 ⟨rfl, (List.forall_mem_cons.2 ⟨rfl, (List.forall_mem_cons.2 ⟨rfl, (List.forall_mem_cons.2 ⟨rfl, (List.forall_mem_cons.2 ⟨rfl, (List.forall_mem_cons.2 ⟨rfl, (List.forall_mem_cons.2 ⟨rfl, (List.forall_mem_cons.2 ⟨rfl, (List.forall_mem_cons.2 ⟨rfl, (List.forall_mem_cons.2 ⟨rfl, (List.forall_mem_cons.2 ⟨rfl, (List.forall_mem_cons.2 ⟨rfl, (List.forall_mem_cons.2 ⟨rfl, (List.forall_mem_cons.2 ⟨rfl, (List.forall_mem_nil _)⟩)⟩)⟩)⟩)⟩)⟩)⟩)⟩)⟩)⟩)⟩)⟩)⟩)⟩)⟩)⟩)⟩)⟩) (has_of (hB.at (i := 0) rfl) (by simp)) (free_of' (hB.at (i := 0) rfl)))) ?_
 replace hB : Boxes w2 [(b1, [.string ⟨#[110, 111, 110, 101]⟩, .string ⟨#[114, 101, 103]⟩, .string ⟨#[112, 99]⟩, .string ⟨#[101, 112, 99]⟩, .string ⟨#[99, 97, 117, 115, 101]⟩, .string ⟨#[118, 101, 99]⟩, .string ⟨#[116, 97, 98, 108, 101]⟩, .string ⟨#[109, 111, 100, 101]⟩, .string ⟨#[109, 97, 115, 107]⟩, .string ⟨#[97, 108, 97, 114, 109]⟩, .string ⟨#[109, 101, 109]⟩, .string ⟨#[116, 108, 98]⟩, .string ⟨#[115, 101, 99, 116, 111, 114]⟩, .string ⟨#[105, 110]⟩, .string ⟨#[111, 117, 116]⟩, .string ⟨#[112, 97, 99, 107, 101, 116]⟩, .string ⟨#[115, 101, 110, 116]⟩, .string ⟨#[97, 115, 107]⟩], 76)] := Boxes.store (vs := [.string ⟨#[110, 111, 110, 101]⟩, .string ⟨#[114, 101, 103]⟩, .string ⟨#[112, 99]⟩, .string ⟨#[101, 112, 99]⟩, .string ⟨#[99, 97, 117, 115, 101]⟩, .string ⟨#[118, 101, 99]⟩, .string ⟨#[116, 97, 98, 108, 101]⟩, .string ⟨#[109, 111, 100, 101]⟩, .string ⟨#[109, 97, 115, 107]⟩, .string ⟨#[97, 108, 97, 114, 109]⟩, .string ⟨#[109, 101, 109]⟩, .string ⟨#[116, 108, 98]⟩, .string ⟨#[115, 101, 99, 116, 111, 114]⟩, .string ⟨#[105, 110]⟩, .string ⟨#[111, 117, 116]⟩, .string ⟨#[112, 97, 99, 107, 101, 116]⟩, .string ⟨#[115, 101, 110, 116]⟩, .string ⟨#[97, 115, 107]⟩]) (i := 0) (o := 0) hB rfl rfl rfl rfl hw_w2
 have hc_w2 := sil_new hc_w1 (sil_cN hw_w2) hlo_b1
 refine LW.nil hL rfl ?_
 refine NW.then ?_
 replace h := h b1 w2 ⟨hlo_b1, lt_of_heap (hB.at (i := 0) rfl)⟩ hc_w2
 refine CW.ret ?_
 exact resN (vs := [.agg #[.string ⟨#[110, 111, 110, 101]⟩, .string ⟨#[114, 101, 103]⟩, .string ⟨#[112, 99]⟩, .string ⟨#[101, 112, 99]⟩, .string ⟨#[99, 97, 117, 115, 101]⟩, .string ⟨#[118, 101, 99]⟩, .string ⟨#[116, 97, 98, 108, 101]⟩, .string ⟨#[109, 111, 100, 101]⟩, .string ⟨#[109, 97, 115, 107]⟩, .string ⟨#[97, 108, 97, 114, 109]⟩, .string ⟨#[109, 101, 109]⟩, .string ⟨#[116, 108, 98]⟩, .string ⟨#[115, 101, 99, 116, 111, 114]⟩, .string ⟨#[105, 110]⟩, .string ⟨#[111, 117, 116]⟩, .string ⟨#[112, 97, 99, 107, 101, 116]⟩, .string ⟨#[115, 101, 110, 116]⟩, .string ⟨#[97, 115, 107]⟩]]) (ResOK.c rfl (lvN (cs := [.string ⟨#[110, 111, 110, 101]⟩, .string ⟨#[114, 101, 103]⟩, .string ⟨#[112, 99]⟩, .string ⟨#[101, 112, 99]⟩, .string ⟨#[99, 97, 117, 115, 101]⟩, .string ⟨#[118, 101, 99]⟩, .string ⟨#[116, 97, 98, 108, 101]⟩, .string ⟨#[109, 111, 100, 101]⟩, .string ⟨#[109, 97, 115, 107]⟩, .string ⟨#[97, 108, 97, 114, 109]⟩, .string ⟨#[109, 101, 109]⟩, .string ⟨#[116, 108, 98]⟩, .string ⟨#[115, 101, 99, 116, 111, 114]⟩, .string ⟨#[105, 110]⟩, .string ⟨#[111, 117, 116]⟩, .string ⟨#[112, 97, 99, 107, 101, 116]⟩, .string ⟨#[115, 101, 110, 116]⟩, .string ⟨#[97, 115, 107]⟩]) (by kernel_rfl) (by kernel_rfl) (cellsAt_get (box_cells (hB.at (i := 0) rfl) rfl))) ResOK.nil) rfl ⟨⟨#[110, 111, 110, 101]⟩, ⟨#[114, 101, 103]⟩, ⟨#[112, 99]⟩, ⟨#[101, 112, 99]⟩, ⟨#[99, 97, 117, 115, 101]⟩, ⟨#[118, 101, 99]⟩, ⟨#[116, 97, 98, 108, 101]⟩, ⟨#[109, 111, 100, 101]⟩, ⟨#[109, 97, 115, 107]⟩, ⟨#[97, 108, 97, 114, 109]⟩, ⟨#[109, 101, 109]⟩, ⟨#[116, 108, 98]⟩, ⟨#[115, 101, 99, 116, 111, 114]⟩, ⟨#[105, 110]⟩, ⟨#[111, 117, 116]⟩, ⟨#[112, 97, 99, 107, 101, 116]⟩, ⟨#[115, 101, 110, 116]⟩, ⟨#[97, 115, 107]⟩, rfl, h⟩
/- strconv.Itoa -/
def W_strconv_Itoa (i1 : Int) (w : World) (R : ByteArray → World → Prop) : Prop :=
 Calls Tryd.prog 39 #[.int .i64 i1] w fun e w1 => ∃ (r2 : ByteArray), e = .returned (.string r2) ∧ (R r2 w1)
set_option maxRecDepth 100000 in
theorem go_strconv_Itoa (i1 : Int) (w : World) (R : ByteArray → World → Prop) (h : W_strconv_Itoa i1 w R) : Calls Tryd.prog 30 #[.int .i64 i1] w (fun e w' => ∃ (r1 : ByteArray), e = .returned (.string r1) ∧ R r1 w') := by
 unfold W_strconv_Itoa at h
 refine enter (N := 5) Tryd.func30 rfl rfl ?_
 refine CW.seq ?_
 refine CW.region fun L hL => ?_
 refine LW.rd hL rfl (Wants.free rfl) rfl (Rd.assign (v := .string ⟨#[]⟩) rfl) ?_
 refine LW.nil hL rfl ?_
 refine NW.then ?_
 refine CW.seq ?_
 refine CW.region fun L hL => ?_
 refine LW.rd hL rfl (Wants.free rfl) rfl (Rd.move (v := .int .i64 i1) rfl) ?_
 refine LW.call hL rfl (Wants.free rfl) rfl (Cl.fn (f := 39) rfl Tryd.func39 (by kernel_rfl) rfl) h (fun e w1 h_ => ?_)
 clear h
 obtain ⟨r2, rfl, h⟩ := h_
 refine ⟨_, rfl, ?_⟩
 refine LW.rd hL rfl (Wants.free rfl) rfl (Rd.assign (v := .string r2) rfl) ?_
 refine LW.nil hL rfl ?_
 refine NW.then ?_
 refine CW.ret ?_
 exact res1 rfl rfl ⟨r2, rfl, h⟩
/- internal/strconv.Itoa -/
def W_internal_strconv_Itoa (i1 : Int) (w : World) (R : ByteArray → World → Prop) : Prop :=
 Calls Tryd.prog 46 #[.int .i64 i1, .int .i64 10] w fun e w1 => ∃ (r2 : ByteArray), e = .returned (.string r2) ∧ (R r2 w1)
set_option maxRecDepth 100000 in
theorem go_internal_strconv_Itoa (i1 : Int) (w : World) (R : ByteArray → World → Prop) (h : W_internal_strconv_Itoa i1 w R) : Calls Tryd.prog 39 #[.int .i64 i1] w (fun e w' => ∃ (r1 : ByteArray), e = .returned (.string r1) ∧ R r1 w') := by
 unfold W_internal_strconv_Itoa at h
 refine enter (N := 5) Tryd.func39 rfl rfl ?_
 refine CW.seq ?_
 refine CW.region fun L hL => ?_
 refine LW.rd hL rfl (Wants.free rfl) rfl (Rd.assign (v := .string ⟨#[]⟩) rfl) ?_
 refine LW.nil hL rfl ?_
 refine NW.then ?_
 refine CW.seq ?_
 refine CW.region fun L hL => ?_
 refine LW.rd hL rfl (Wants.free rfl) rfl (Rd.move (v := .int .i64 i1) rfl) ?_
 refine LW.call hL rfl (Wants.free rfl) rfl (Cl.fn (f := 46) rfl Tryd.func46 (by kernel_rfl) rfl) h (fun e w1 h_ => ?_)
 clear h
 obtain ⟨r2, rfl, h⟩ := h_
 refine ⟨_, rfl, ?_⟩
 refine LW.rd hL rfl (Wants.free rfl) rfl (Rd.assign (v := .string r2) rfl) ?_
 refine LW.nil hL rfl ?_
 refine NW.then ?_
 refine CW.ret ?_
 exact res1 rfl rfl ⟨r2, rfl, h⟩
/- internal/strconv.FormatInt -/
def W_internal_strconv_FormatInt (i1 : Int) (base1 : Int) (w : World) (R : ByteArray → World → Prop) : Prop :=
 ((base1 == 10) = true → ((decide (0 ≤ i1) && decide (i1 < 100)) = true → Calls Tryd.prog 57 #[.int .i64 i1] w fun e w1 => ∃ (r2 : ByteArray), e = .returned (.string r2) ∧ (R r2 w1)) ∧ ((decide (0 ≤ i1) && decide (i1 < 100)) = false → ∀ b1 : Nat, b1 = World.size w → ∀ w2 : World, w2 = World.alloc w (.cells (z109_XQ4).toArray 109) → (∃ J1 : Int → World → Prop, (∀ (u1 : Int) (w3 : World), J1 u1 w3 → Calls Tryd.prog 58 #[.int .u64 u1] w3 fun e w4 => ∃ (r3 : Int), e = .returned (.int .i64 r3) ∧ (∃ (l1 : Option Addr) (l1n : Nat) (l1c : Nat), (∀ w : World, (Instr.sliceAt 109 (.pointer (some (⟨b1, 0, none⟩ : Addr))) (some (.int .i64 1)) (some (.int .i64 (IntKind.wrap .i64 (1 + r3)))) (none)).run Tryd.prog w = .ok (.slice l1 l1n l1c) w) ∧ (Calls Tryd.prog 59 #[.slice l1 l1n l1c, .int .u64 u1] w4 fun e w5 => e = .returned (.tuple #[]) ∧ (((decide (i1 < 0)) = true → (0 : Int) ≤ 0 ∧ (0 : Int) < 24 ∧ ((∃ o : Value, w5.cell? ((⟨b1, 0, none⟩ : Addr).add (Int.toNat 0 * 1)) = some o) ∧ w5.frozen? ((⟨b1, 0, none⟩ : Addr).add (Int.toNat 0 * 1)) = false ∧ ∀ w6 : World, w6 = World.setCell w5 ((⟨b1, 0, none⟩ : Addr).add (Int.toNat 0 * 1)) (.int .u8 45) → (∃ (l2 : Option Addr) (l2n : Nat) (l2c : Nat), (∀ w : World, (Instr.sliceAt 109 (.pointer (some (⟨b1, 0, none⟩ : Addr))) (none) (some (.int .i64 (IntKind.wrap .i64 (1 + r3)))) (none)).run Tryd.prog w = .ok (.slice l2 l2n l2c) w) ∧ (∃ (s1 : ByteArray), (∀ w : World, (convert 23 9 (.slice l2 l2n l2c)).run Tryd.prog w = .ok (.string s1) w) ∧ (R s1 w6))))) ∧ ((decide (i1 < 0)) = false → ∃ (l3 : Option Addr) (l3n : Nat) (l3c : Nat), (∀ w : World, (Instr.sliceAt 109 (.pointer (some (⟨b1, 0, none⟩ : Addr))) (some (.int .i64 1)) (some (.int .i64 (IntKind.wrap .i64 (1 + r3)))) (none)).run Tryd.prog w = .ok (.slice l3 l3n l3c) w) ∧ (∃ (s2 : ByteArray), (∀ w : World, (convert 23 9 (.slice l3 l3n l3c)).run Tryd.prog w = .ok (.string s2) w) ∧ (R s2 w5))))))) ∧ (((decide (i1 < 0)) = true → J1 (IntKind.wrap .u64 (0 - (IntKind.wrap .u64 i1))) w2) ∧ ((decide (i1 < 0)) = false → J1 (IntKind.wrap .u64 i1) w2))))) ∧ ((base1 == 10) = false → Calls Tryd.prog 60 #[.slice none 0 0, .int .u64 (IntKind.wrap .u64 i1), .int .i64 base1, .bool (decide (i1 < 0)), .bool false] w fun e w7 => ∃ (r4 : Option Addr) (r4n : Nat) (r4c : Nat) (r5 : ByteArray), e = .returned (.tuple #[.slice r4 r4n r4c, .string r5]) ∧ (R r5 w7))
set_option maxRecDepth 100000 in
theorem go_internal_strconv_FormatInt (i1 : Int) (base1 : Int) (w : World) (R : ByteArray → World → Prop) (h : W_internal_strconv_FormatInt i1 base1 w R) : Calls Tryd.prog 46 #[.int .i64 i1, .int .i64 base1] w (fun e w' => ∃ (r1 : ByteArray), e = .returned (.string r1) ∧ R r1 w') := by
 unfold W_internal_strconv_FormatInt at h
 refine enter (N := 54) Tryd.func46 rfl rfl ?_
 refine CW.seq ?_
 refine CW.region fun L hL => ?_
 refine LW.rd hL rfl (Wants.free rfl) rfl (Rd.assign (v := .string ⟨#[]⟩) rfl) ?_
 refine LW.nil hL rfl ?_
 refine NW.then ?_
 refine CW.seq ?_
 refine CW.seq ?_
 refine CW.region fun L hL => ?_
 refine LW.rd hL rfl (Wants.free rfl) rfl (Rd.move (v := .int .i64 base1) rfl) ?_
 refine LW.rd hL rfl (Wants.free rfl) rfl (Rd.bin (v := .bool (base1 == 10)) rfl rfl (fun w => by kernel_rfl)) ?_
 refine LW.nil hL rfl ?_
 refine NW.then ?_
 refine CW.cond rfl (fun hb1 => ?_) (fun hb1 => ?_)
 ·replace h := h.1 hb1
  refine CW.seq ?_
  refine CW.seq ?_
  refine CW.region fun L hL => ?_
  refine LW.rd hL rfl (Wants.free rfl) rfl (Rd.move (v := .int .i64 i1) rfl) ?_
  refine LW.rd hL rfl (Wants.free rfl) rfl (Rd.bin (v := .bool (decide (0 ≤ i1))) rfl rfl (fun w => by kernel_rfl)) ?_
  refine LW.rd hL rfl (Wants.free rfl) rfl (Rd.move (v := .bool (decide (0 ≤ i1))) rfl) ?_
  suffices K1 : L 6 [(0, .int .i64 i1), (1, .int .i64 base1), (4, .string ⟨#[]⟩), (17, .bool (decide (0 ≤ i1) && decide (i1 < 100)))] w by
   rcases Bool.eq_false_or_eq_true (decide (0 ≤ i1)) with hb3 | hb3
   ·skip
    refine LW.rd hL rfl (Wants.on rfl rfl rfl rfl rfl hb3) rfl (Rd.move (v := .int .i64 i1) rfl) ?_
    refine LW.rd hL rfl (Wants.on rfl rfl rfl rfl rfl hb3) rfl (Rd.bin (v := .bool (decide (i1 < 100))) rfl rfl (fun w => by kernel_rfl)) ?_
    refine LW.rd hL rfl (Wants.free rfl) rfl (Rd.pickT rfl hb3 rfl) ?_
    exact LW.sub hL (by exact ⟨rfl, rfl, rfl, (by rw [hb3]; rfl), trivial⟩) K1
   ·skip
    refine LW.skip hL rfl (Skips.on rfl rfl rfl rfl rfl hb3) rfl ?_
    refine LW.skip hL rfl (Skips.on rfl rfl rfl rfl rfl hb3) rfl ?_
    refine LW.rd hL rfl (Wants.free rfl) rfl (Rd.pickF rfl hb3 rfl) ?_
    exact LW.sub hL (by exact ⟨rfl, rfl, rfl, (by rw [hb3]; rfl), trivial⟩) K1
  refine LW.nil hL rfl ?_
  refine NW.then ?_
  refine CW.cond rfl (fun hb4 => ?_) (fun hb4 => ?_)
  ·replace h := h.1 hb4
   refine CW.seq ?_
   refine CW.region fun L hL => ?_
   refine LW.rd hL rfl (Wants.free rfl) rfl (Rd.move (v := .int .i64 i1) rfl) ?_
   refine LW.call hL rfl (Wants.free rfl) rfl (Cl.fn (f := 57) rfl Tryd.func57 (by kernel_rfl) rfl) h (fun e w1 h_ => ?_)
   clear h
   obtain ⟨r2, rfl, h⟩ := h_
   refine ⟨_, rfl, ?_⟩
   refine LW.rd hL rfl (Wants.free rfl) rfl (Rd.assign (v := .string r2) rfl) ?_
   refine LW.nil hL rfl ?_
   refine NW.then ?_
   refine CW.ret ?_
   refine RW.then ?_
   refine RW.then ?_
   exact res1 rfl rfl ⟨r2, rfl, h⟩
  ·replace h := h.2 hb4
   refine CW.skip ?_
   refine NW.then ?_
   refine CW.seq ?_
   refine CW.region fun L hL => ?_
   obtain ⟨b1, hb_b1⟩ : ∃ b1, b1 = World.size w := ⟨_, rfl⟩
   obtain ⟨w2, hw_w2⟩ : ∃ w2, w2 = World.alloc w (.cells (z109_XQ4).toArray 109) := ⟨_, rfl⟩
   replace h := h b1 hb_b1 w2 hw_w2
   refine LW.val hL rfl (Wants.free rfl) rfl (boxE hb_b1 hw_w2 (Vl.alloc (z := .agg ((z109_XQ4)).toArray) (by kernel_rfl))) ?_
   refine LW.nil hL rfl ?_
   refine NW.then ?_
   refine CW.seq ?_
   refine CW.region fun L hL => ?_
   refine LW.rd hL rfl (Wants.free rfl) rfl (Rd.move (v := .int .i64 i1) rfl) ?_
   refine LW.rd hL rfl (Wants.free rfl) rfl (Rd.conv (v := .int .u64 (IntKind.wrap .u64 i1)) rfl (fun _ => by kernel_rfl)) ?_
   refine LW.rd hL rfl (Wants.free rfl) rfl (Rd.assign (v := .int .u64 (IntKind.wrap .u64 i1)) rfl) ?_
   refine LW.nil hL rfl ?_
   refine NW.then ?_
   obtain ⟨J1, hJ1, h⟩ := h
   refine CW.cut (S := Int) (fun u1 => [(0, .int .i64 i1), (1, .int .i64 base1), (4, .string ⟨#[]⟩), (5, .pointer (some (⟨b1, 0, none⟩ : Addr))), (6, .int .u64 u1)]) (fun u1 w3 => J1 u1 w3) (fun u1 w3 h_ => ?_) ?_
   ·replace h := hJ1 u1 w3 h_; clear h_
    refine CW.seq ?_
    refine CW.region fun L hL => ?_
    refine LW.rd hL rfl (Wants.free rfl) rfl (Rd.move (v := .int .u64 u1) rfl) ?_
    refine LW.call hL rfl (Wants.free rfl) rfl (Cl.fn (f := 58) rfl Tryd.func58 (by kernel_rfl) rfl) h (fun e w4 h_ => ?_)
    clear h
    obtain ⟨r3, rfl, h⟩ := h_
    refine ⟨_, rfl, ?_⟩
    refine LW.rd hL rfl (Wants.free rfl) rfl (Rd.assign (v := .int .i64 r3) rfl) ?_
    refine LW.nil hL rfl ?_
    refine NW.then ?_
    refine CW.seq ?_
    refine CW.region fun L hL => ?_
    refine LW.rd hL rfl (Wants.free rfl) rfl (Rd.move (v := .int .i64 r3) rfl) ?_
    refine LW.rd hL rfl (Wants.free rfl) rfl (Rd.bin (v := .int .i64 (IntKind.wrap .i64 (1 + r3))) rfl rfl (fun w => by kernel_rfl)) ?_
    obtain ⟨l1, l1n, l1c, hx1, h⟩ := h
    refine LW.rd hL rfl (Wants.free rfl) rfl (Rd.slice (v := .slice l1 l1n l1c) rfl rfl rfl rfl hx1) ?_
    refine LW.rd hL rfl (Wants.free rfl) rfl (Rd.move (v := .int .u64 u1) rfl) ?_
    refine LW.call hL rfl (Wants.free rfl) rfl (Cl.fn (f := 59) rfl Tryd.func59 (by kernel_rfl) rfl) h (fun e w5 h_ => ?_)
    clear h
    obtain ⟨rfl, h⟩ := h_
    refine ⟨_, rfl, ?_⟩
    refine LW.nil hL rfl ?_
    refine NW.then ?_
    refine CW.seq ?_
    refine CW.seq ?_
    refine CW.region fun L hL => ?_
    refine LW.rd hL rfl (Wants.free rfl) rfl (Rd.move (v := .int .i64 i1) rfl) ?_
    refine LW.rd hL rfl (Wants.free rfl) rfl (Rd.bin (v := .bool (decide (i1 < 0))) rfl rfl (fun w => by kernel_rfl)) ?_
    refine LW.nil hL rfl ?_
    refine NW.then ?_
    refine CW.cond rfl (fun hb5 => ?_) (fun hb5 => ?_)
    ·replace h := h.1 hb5
     refine CW.seq ?_
     refine CW.region fun L hL => ?_
     obtain ⟨hi1, hi2, h⟩ := h
     refine LW.rd hL rfl (Wants.free rfl) rfl (Rd.iaA (sz := 1) rfl rfl Tryd.underlying109 (by kernel_rfl) hi1 hi2) ?_
     obtain ⟨⟨o_w6, ho1⟩, hf1, h⟩ := h
     obtain ⟨w6, hw_w6⟩ : ∃ w6, w6 = World.setCell w5 ((⟨b1, 0, none⟩ : Addr).add (Int.toNat 0 * 1)) (.int .u8 45) := ⟨_, rfl⟩
     replace h := h w6 hw_w6
     refine LW.eff hL rfl (Wants.free rfl) rfl (stE hw_w6 (Ef.st rfl rfl rfl (by kernel_rfl) ho1 hf1)) ?_
     refine LW.nil hL rfl ?_
     refine NW.then ?_
     refine CW.seq ?_
     refine CW.region fun L hL => ?_
     refine LW.rd hL rfl (Wants.free rfl) rfl (Rd.move (v := .int .i64 r3) rfl) ?_
     refine LW.rd hL rfl (Wants.free rfl) rfl (Rd.bin (v := .int .i64 (IntKind.wrap .i64 (1 + r3))) rfl rfl (fun w => by kernel_rfl)) ?_
     obtain ⟨l2, l2n, l2c, hx2, h⟩ := h
     refine LW.rd hL rfl (Wants.free rfl) rfl (Rd.slice (v := .slice l2 l2n l2c) rfl rfl rfl rfl hx2) ?_
     obtain ⟨s1, hx3, h⟩ := h
     refine LW.rd hL rfl (Wants.free rfl) rfl (Rd.conv (v := .string s1) rfl hx3) ?_
     refine LW.rd hL rfl (Wants.free rfl) rfl (Rd.assign (v := .string s1) rfl) ?_
     refine LW.nil hL rfl ?_
     refine NW.then ?_
     refine CW.ret ?_
     refine RW.then ?_
     refine RW.then ?_
     exact res1 rfl rfl ⟨s1, rfl, h⟩
    ·replace h := h.2 hb5
     refine CW.skip ?_
     refine NW.then ?_
     refine CW.seq ?_
     refine CW.region fun L hL => ?_
     refine LW.rd hL rfl (Wants.free rfl) rfl (Rd.move (v := .int .i64 r3) rfl) ?_
     refine LW.rd hL rfl (Wants.free rfl) rfl (Rd.bin (v := .int .i64 (IntKind.wrap .i64 (1 + r3))) rfl rfl (fun w => by kernel_rfl)) ?_
     obtain ⟨l3, l3n, l3c, hx4, h⟩ := h
     refine LW.rd hL rfl (Wants.free rfl) rfl (Rd.slice (v := .slice l3 l3n l3c) rfl rfl rfl rfl hx4) ?_
     obtain ⟨s2, hx5, h⟩ := h
     refine LW.rd hL rfl (Wants.free rfl) rfl (Rd.conv (v := .string s2) rfl hx5) ?_
     refine LW.rd hL rfl (Wants.free rfl) rfl (Rd.assign (v := .string s2) rfl) ?_
     refine LW.nil hL rfl ?_
     refine NW.then ?_
     refine CW.ret ?_
     refine RW.then ?_
     exact res1 rfl rfl ⟨s2, rfl, h⟩
   ·skip
    refine CW.seq ?_
    refine CW.region fun L hL => ?_
    refine LW.rd hL rfl (Wants.free rfl) rfl (Rd.move (v := .int .i64 i1) rfl) ?_
    refine LW.rd hL rfl (Wants.free rfl) rfl (Rd.bin (v := .bool (decide (i1 < 0))) rfl rfl (fun w => by kernel_rfl)) ?_
    refine LW.nil hL rfl ?_
    refine NW.then ?_
    refine CW.cond rfl (fun hb6 => ?_) (fun hb6 => ?_)
    ·replace h := h.1 hb6
     refine CW.region fun L hL => ?_
     refine LW.rd hL rfl (Wants.free rfl) rfl (Rd.move (v := .int .u64 (IntKind.wrap .u64 i1)) rfl) ?_
     refine LW.rd hL rfl (Wants.free rfl) rfl (Rd.un (v := .int .u64 (IntKind.wrap .u64 (0 - (IntKind.wrap .u64 i1)))) rfl (fun _ => by kernel_rfl)) ?_
     refine LW.rd hL rfl (Wants.free rfl) rfl (Rd.assign (v := .int .u64 (IntKind.wrap .u64 (0 - (IntKind.wrap .u64 i1)))) rfl) ?_
     refine LW.nil hL rfl ?_
     exact NW.cut (S := Int) (Ek := fun u1 => [(0, .int .i64 i1), (1, .int .i64 base1), (4, .string ⟨#[]⟩), (5, .pointer (some (⟨b1, 0, none⟩ : Addr))), (6, .int .u64 u1)]) (IntKind.wrap .u64 (0 - (IntKind.wrap .u64 i1))) (by exact ⟨rfl, rfl, rfl, rfl, rfl, trivial⟩) h
    ·replace h := h.2 hb6
     refine CW.skip ?_
     exact NW.cut (S := Int) (Ek := fun u1 => [(0, .int .i64 i1), (1, .int .i64 base1), (4, .string ⟨#[]⟩), (5, .pointer (some (⟨b1, 0, none⟩ : Addr))), (6, .int .u64 u1)]) (IntKind.wrap .u64 i1) (by exact ⟨rfl, rfl, rfl, rfl, rfl, trivial⟩) h
 ·replace h := h.2 hb1
  refine CW.skip ?_
  refine NW.then ?_
  refine CW.seq ?_
  refine CW.region fun L hL => ?_
  refine LW.rd hL rfl (Wants.free rfl) rfl (Rd.move (v := .int .i64 i1) rfl) ?_
  refine LW.rd hL rfl (Wants.free rfl) rfl (Rd.conv (v := .int .u64 (IntKind.wrap .u64 i1)) rfl (fun _ => by kernel_rfl)) ?_
  refine LW.rd hL rfl (Wants.free rfl) rfl (Rd.move (v := .int .i64 base1) rfl) ?_
  refine LW.rd hL rfl (Wants.free rfl) rfl (Rd.move (v := .int .i64 i1) rfl) ?_
  refine LW.rd hL rfl (Wants.free rfl) rfl (Rd.bin (v := .bool (decide (i1 < 0))) rfl rfl (fun w => by kernel_rfl)) ?_
  refine LW.call hL rfl (Wants.free rfl) rfl (Cl.fn (f := 60) rfl Tryd.func60 (by kernel_rfl) rfl) h (fun e w7 h_ => ?_)
  clear h
  obtain ⟨r4, r4n, r4c, r5, rfl, h⟩ := h_
  refine ⟨_, rfl, ?_⟩
  refine LW.rd hL rfl (Wants.free rfl) rfl (Rd.move (v := .tuple #[.slice r4 r4n r4c, .string r5]) rfl) ?_
  refine LW.rd hL rfl (Wants.free rfl) rfl (Rd.extract (v := .slice r4 r4n r4c) rfl rfl) ?_
  refine LW.rd hL rfl (Wants.free rfl) rfl (Rd.extract (v := .string r5) rfl rfl) ?_
  refine LW.rd hL rfl (Wants.free rfl) rfl (Rd.assign (v := .slice r4 r4n r4c) rfl) ?_
  refine LW.rd hL rfl (Wants.free rfl) rfl (Rd.assign (v := .string r5) rfl) ?_
  refine LW.nil hL rfl ?_
  refine NW.then ?_
  refine CW.seq ?_
  refine CW.region fun L hL => ?_
  refine LW.rd hL rfl (Wants.free rfl) rfl (Rd.move (v := .string r5) rfl) ?_
  refine LW.rd hL rfl (Wants.free rfl) rfl (Rd.assign (v := .string r5) rfl) ?_
  refine LW.nil hL rfl ?_
  refine NW.then ?_
  refine CW.ret ?_
  exact res1 rfl rfl ⟨r5, rfl, h⟩
/- internal/strconv.small -/
def W_internal_strconv_small (i1 : Int) (w : World) (R : ByteArray → World → Prop) : Prop :=
 ((decide (i1 < 10)) = true → ∃ (l1 : ByteArray), (∀ w : World, (Instr.sliceAt 9 (.string ⟨#[48, 49, 50, 51, 52, 53, 54, 55, 56, 57, 97, 98, 99, 100, 101, 102, 103, 104, 105, 106, 107, 108, 109, 110, 111, 112, 113, 114, 115, 116, 117, 118, 119, 120, 121, 122]⟩) (some (.int .i64 i1)) (some (.int .i64 (IntKind.wrap .i64 (i1 + 1)))) (none)).run Tryd.prog w = .ok (.string l1) w) ∧ (R l1 w)) ∧ ((decide (i1 < 10)) = false → ∃ (l2 : ByteArray), (∀ w : World, (Instr.sliceAt 9 (.string ⟨#[48, 48, 48, 49, 48, 50, 48, 51, 48, 52, 48, 53, 48, 54, 48, 55, 48, 56, 48, 57, 49, 48, 49, 49, 49, 50, 49, 51, 49, 52, 49, 53, 49, 54, 49, 55, 49, 56, 49, 57, 50, 48, 50, 49, 50, 50, 50, 51, 50, 52, 50, 53, 50, 54, 50, 55, 50, 56, 50, 57, 51, 48, 51, 49, 51, 50, 51, 51, 51, 52, 51, 53, 51, 54, 51, 55, 51, 56, 51, 57, 52, 48, 52, 49, 52, 50, 52, 51, 52, 52, 52, 53, 52, 54, 52, 55, 52, 56, 52, 57, 53, 48, 53, 49, 53, 50, 53, 51, 53, 52, 53, 53, 53, 54, 53, 55, 53, 56, 53, 57, 54, 48, 54, 49, 54, 50, 54, 51, 54, 52, 54, 53, 54, 54, 54, 55, 54, 56, 54, 57, 55, 48, 55, 49, 55, 50, 55, 51, 55, 52, 55, 53, 55, 54, 55, 55, 55, 56, 55, 57, 56, 48, 56, 49, 56, 50, 56, 51, 56, 52, 56, 53, 56, 54, 56, 55, 56, 56, 56, 57, 57, 48, 57, 49, 57, 50, 57, 51, 57, 52, 57, 53, 57, 54, 57, 55, 57, 56, 57, 57]⟩) (some (.int .i64 (IntKind.wrap .i64 (i1 * 2)))) (some (.int .i64 (IntKind.wrap .i64 ((IntKind.wrap .i64 (i1 * 2)) + 2)))) (none)).run Tryd.prog w = .ok (.string l2) w) ∧ (R l2 w))
set_option maxRecDepth 100000 in
theorem go_internal_strconv_small (i1 : Int) (w : World) (R : ByteArray → World → Prop) (h : W_internal_strconv_small i1 w R) : Calls Tryd.prog 57 #[.int .i64 i1] w (fun e w' => ∃ (r1 : ByteArray), e = .returned (.string r1) ∧ R r1 w') := by
 unfold W_internal_strconv_small at h
 refine enter (N := 15) Tryd.func57 rfl rfl ?_
 refine CW.seq ?_
 refine CW.region fun L hL => ?_
 refine LW.rd hL rfl (Wants.free rfl) rfl (Rd.assign (v := .string ⟨#[]⟩) rfl) ?_
 refine LW.nil hL rfl ?_
 refine NW.then ?_
 refine CW.seq ?_
 refine CW.seq ?_
 refine CW.region fun L hL => ?_
 refine LW.rd hL rfl (Wants.free rfl) rfl (Rd.move (v := .int .i64 i1) rfl) ?_
 refine LW.rd hL rfl (Wants.free rfl) rfl (Rd.bin (v := .bool (decide (i1 < 10))) rfl rfl (fun w => by kernel_rfl)) ?_
 refine LW.nil hL rfl ?_
 refine NW.then ?_
 refine CW.cond rfl (fun hb1 => ?_) (fun hb1 => ?_)
 ·replace h := h.1 hb1
  refine CW.seq ?_
  refine CW.region fun L hL => ?_
  refine LW.rd hL rfl (Wants.free rfl) rfl (Rd.move (v := .int .i64 i1) rfl) ?_
  refine LW.rd hL rfl (Wants.free rfl) rfl (Rd.move (v := .int .i64 i1) rfl) ?_
  refine LW.rd hL rfl (Wants.free rfl) rfl (Rd.bin (v := .int .i64 (IntKind.wrap .i64 (i1 + 1))) rfl rfl (fun w => by kernel_rfl)) ?_
  obtain ⟨l1, hx1, h⟩ := h
  refine LW.rd hL rfl (Wants.free rfl) rfl (Rd.slice (v := .string l1) rfl rfl rfl rfl hx1) ?_
  refine LW.rd hL rfl (Wants.free rfl) rfl (Rd.assign (v := .string l1) rfl) ?_
  refine LW.nil hL rfl ?_
  refine NW.then ?_
  refine CW.ret ?_
  refine RW.then ?_
  exact res1 rfl rfl ⟨l1, rfl, h⟩
 ·replace h := h.2 hb1
  refine CW.skip ?_
  refine NW.then ?_
  refine CW.seq ?_
  refine CW.region fun L hL => ?_
  refine LW.rd hL rfl (Wants.free rfl) rfl (Rd.move (v := .int .i64 i1) rfl) ?_
  refine LW.rd hL rfl (Wants.free rfl) rfl (Rd.bin (v := .int .i64 (IntKind.wrap .i64 (i1 * 2))) rfl rfl (fun w => by kernel_rfl)) ?_
  refine LW.rd hL rfl (Wants.free rfl) rfl (Rd.move (v := .int .i64 i1) rfl) ?_
  refine LW.rd hL rfl (Wants.free rfl) rfl (Rd.bin (v := .int .i64 (IntKind.wrap .i64 (i1 * 2))) rfl rfl (fun w => by kernel_rfl)) ?_
  refine LW.rd hL rfl (Wants.free rfl) rfl (Rd.bin (v := .int .i64 (IntKind.wrap .i64 ((IntKind.wrap .i64 (i1 * 2)) + 2))) rfl rfl (fun w => by kernel_rfl)) ?_
  obtain ⟨l2, hx2, h⟩ := h
  refine LW.rd hL rfl (Wants.free rfl) rfl (Rd.slice (v := .string l2) rfl rfl rfl rfl hx2) ?_
  refine LW.rd hL rfl (Wants.free rfl) rfl (Rd.assign (v := .string l2) rfl) ?_
  refine LW.nil hL rfl ?_
  refine NW.then ?_
  refine CW.ret ?_
  exact res1 rfl rfl ⟨l2, rfl, h⟩
end Go.Proofs.YtfcfkhbkkfpehaaDoor
end
section
/- Law 14: known holds; lists of places compared; the text of a place. -/
namespace Go.Proofs.YtfcfkhbkkfpehaaDoor
open Go Go.RowKit Go.X Go.XR
def CellsP (w : World) (q : Sl) (ps : List Pl) : Prop := q.2.1 = ps.length ∧ ∀ j x, ps[j]? = some x → ∃ a, q.1 = some a ∧ CellsAt w (a.add (j * 2)) 0 [.int .i64 x.1, .int .i64 x.2]
theorem CellsP.chg {w w' : World} {q : Sl} {ps : List Pl} {f : List Nat} (h : CellsP w q ps) (hc : Chg f w w') (hf : ∀ i ∈ rowB q.1, i ∉ f) : CellsP w' q ps :=
 ⟨h.1, fun j x hx => let ⟨a, ha, hcs⟩ := h.2 j x hx; ⟨a, ha, hc.cells (by rw [add_block]; exact hf _ (mem_rowB.2 ⟨a, ha, rfl⟩)) hcs⟩⟩
theorem ReadsP.cells {w : World} {q : Sl} {ps : List Pl} (h : ReadsP w q ps) : CellsP w q ps := ⟨h.1, h.2.2⟩
theorem row_cells {w : World} {p : Option Addr} {n c : Nat} {ps : List Pl} (h : RowAt w 27 2 p n c (ps.flatMap encPl)) (hn : n = ps.length) : CellsP w (p, n, c) ps := by
 refine ⟨hn, fun j x hj => ?_⟩
 obtain ⟨g0, g1⟩ := flat_get2 ps j x hj
 obtain ⟨a, ha, c0⟩ := h.at g0
 obtain ⟨a', ha', c1⟩ := h.at g1
 rw [ha] at ha'
 cases ha'
 exact ⟨a, ha, by rw [add_add]; exact c0, by rw [add_add]; exact c1, trivial⟩
theorem same_places {w : World} {p q : Option Addr} {pn pc qn qc : Nat} {xs ys : List Pl} (h1 : CellsP w (p, pn, pc) xs) (h2 : CellsP w (q, qn, qc) ys) (hl : xs.length ≤ 1000000000000) :
  Calls Tryd.prog 13 #[.slice p pn pc, .slice q qn qc] w fun e w' => ∃ r : Bool, e = .returned (.bool r) ∧ (r = decide (xs = ys) ∧ Chg [] w w') := by
 have n1 : pn = xs.length := h1.1
 have n2 : qn = ys.length := h2.1
 refine go_pomanderref10_SamePlaces _ _ _ _ _ _ _ _ ?_
 unfold W_pomanderref10_SamePlaces
 refine ⟨fun h => ⟨?_, Chg.refl _ _⟩, fun h => ?_⟩
 ·have hne : xs.length ≠ ys.length := by intro e; simp [n1, n2, e] at h
  symm; exact decide_eq_false (fun e => hne (by rw [e]))
 have hlen : xs.length = ys.length := by
  have : (pn : Int) = qn := by simpa using h
  omega
 refine ⟨fun x i w1 => ∃ j : Nat, i = (j : Int) ∧ j ≤ xs.length ∧ xs.take j = ys.take j ∧ Chg [] w w1, fun _ i _ => (xs.length - i).toNat, ⟨0, rfl, Nat.zero_le _, rfl, Chg.refl _ _⟩, ?_⟩
 rintro x1 _ w1 ⟨j, rfl, hj, ht, c1⟩
 refine ⟨fun hlt => ?_, fun hge => ?_⟩
 ·have hjn : j < xs.length := by have := of_decide_eq_true hlt; omega
  obtain ⟨x, hx⟩ := get_of hjn
  obtain ⟨y, hy⟩ := get_of (l := ys) (j := j) (by omega)
  obtain ⟨a, ha, ca⟩ := h1.2 j x hx
  obtain ⟨a', ha', ca'⟩ := h2.2 j y hy
  refine ⟨a, ha, by omega, by omega, fun w2 c2 => ?_⟩
  have c02 := c1.trans0 c2
  refine ⟨x.1, x.2, by simpa using c02.cells (by simp) ca, a', ha', by omega, by omega, y.1, y.2, by simpa using c02.cells (by simp) ca', fun hne => ⟨?_, c02⟩, fun heq => ?_⟩
  ·symm
   refine decide_eq_false (fun e => ?_)
   subst e
   rw [hx] at hy
   cases hy
   simp at hne
  ·have hxy : x = y := by
    simp at heq
    exact Prod.ext heq.1 heq.2
   subst hxy
   rw [wr (by omega) (by omega)]
   exact ⟨⟨j + 1, by omega, by omega, by rw [take_snoc hx, take_snoc hy, ht], c02⟩, by simp only []; omega⟩
 ·have hjn : j = xs.length := by have := of_decide_eq_false hge; omega
  refine ⟨?_, c1⟩
  symm
  refine decide_eq_true ?_
  rw [hjn, List.take_length] at ht
  rw [ht, hlen, List.take_length]
/-! ### The text of mem 5 -/
def sMem : ByteArray := ⟨#[109, 101, 109]⟩
theorem small5 (w : World) : Calls Tryd.prog 57 #[.int .i64 5] w fun e w' => ∃ r : ByteArray, e = .returned (.string r) ∧ (r = ⟨#[53]⟩ ∧ w' = w) := by
 refine go_internal_strconv_small _ _ _ ?_
 unfold W_internal_strconv_small
 exact ⟨fun _ => ⟨⟨#[53]⟩, fun w => by kernel_rfl, rfl, rfl⟩, fun h => by simp at h⟩
theorem formatInt5 (w : World) : Calls Tryd.prog 46 #[.int .i64 5, .int .i64 10] w fun e w' => ∃ r : ByteArray, e = .returned (.string r) ∧ (r = ⟨#[53]⟩ ∧ w' = w) := by
 refine go_internal_strconv_FormatInt _ _ _ _ ?_
 unfold W_internal_strconv_FormatInt
 refine ⟨fun _ => ⟨fun _ => ?_, fun h => by simp at h⟩, fun h => by simp at h⟩
 refine (small5 w).mono ?_
 rintro _ w1 ⟨_, rfl, rfl, hw⟩
 exact ⟨_, rfl, rfl, hw⟩
theorem itoa5 (w : World) : Calls Tryd.prog 30 #[.int .i64 5] w fun e w' => ∃ r : ByteArray, e = .returned (.string r) ∧ (r = ⟨#[53]⟩ ∧ w' = w) := by
 refine go_strconv_Itoa _ _ _ ?_
 unfold W_strconv_Itoa
 refine (go_internal_strconv_Itoa _ _ (fun r w' => r = ⟨#[53]⟩ ∧ w' = w) ?_).mono ?_
 ·unfold W_internal_strconv_Itoa
  exact formatInt5 w
 ·rintro _ w1 ⟨_, rfl, rfl, hw⟩
  exact ⟨_, rfl, rfl, hw⟩
theorem query_names (w : World) : Calls Tryd.prog 29 #[] w fun e w' => e = .returned (.agg #[.string ⟨#[110, 111, 110, 101]⟩, .string ⟨#[114, 101, 103]⟩, .string ⟨#[112, 99]⟩, .string ⟨#[101, 112, 99]⟩, .string ⟨#[99, 97, 117, 115, 101]⟩, .string ⟨#[118, 101, 99]⟩, .string ⟨#[116, 97, 98, 108, 101]⟩, .string ⟨#[109, 111, 100, 101]⟩, .string ⟨#[109, 97, 115, 107]⟩, .string ⟨#[97, 108, 97, 114, 109]⟩, .string ⟨#[109, 101, 109]⟩, .string ⟨#[116, 108, 98]⟩, .string ⟨#[115, 101, 99, 116, 111, 114]⟩, .string ⟨#[105, 110]⟩, .string ⟨#[111, 117, 116]⟩, .string ⟨#[112, 97, 99, 107, 101, 116]⟩, .string ⟨#[115, 101, 110, 116]⟩, .string ⟨#[97, 115, 107]⟩]) ∧ Chg [] w w' := by
 refine (go_query_names w (fun r2 r3 r4 r5 r6 r7 r8 r9 r10 r11 r12 r13 r14 r15 r16 r17 r18 r19 w' => (r2 = ⟨#[110, 111, 110, 101]⟩ ∧ r3 = ⟨#[114, 101, 103]⟩ ∧ r4 = ⟨#[112, 99]⟩ ∧ r5 = ⟨#[101, 112, 99]⟩ ∧ r6 = ⟨#[99, 97, 117, 115, 101]⟩ ∧ r7 = ⟨#[118, 101, 99]⟩ ∧ r8 = ⟨#[116, 97, 98, 108, 101]⟩ ∧ r9 = ⟨#[109, 111, 100, 101]⟩ ∧ r10 = ⟨#[109, 97, 115, 107]⟩ ∧ r11 = ⟨#[97, 108, 97, 114, 109]⟩ ∧ r12 = ⟨#[109, 101, 109]⟩ ∧ r13 = ⟨#[116, 108, 98]⟩ ∧ r14 = ⟨#[115, 101, 99, 116, 111, 114]⟩ ∧ r15 = ⟨#[105, 110]⟩ ∧ r16 = ⟨#[111, 117, 116]⟩ ∧ r17 = ⟨#[112, 97, 99, 107, 101, 116]⟩ ∧ r18 = ⟨#[115, 101, 110, 116]⟩ ∧ r19 = ⟨#[97, 115, 107]⟩) ∧ Chg [] w w') ?_).mono ?_
 ·unfold W_query_names
  rintro b1 w2 ⟨_, _⟩ c
  exact ⟨⟨rfl, rfl, rfl, rfl, rfl, rfl, rfl, rfl, rfl, rfl, rfl, rfl, rfl, rfl, rfl, rfl, rfl, rfl⟩, c⟩
 ·rintro e w1 ⟨r2, r3, r4, r5, r6, r7, r8, r9, r10, r11, r12, r13, r14, r15, r16, r17, r18, r19, rfl, ⟨rfl, rfl, rfl, rfl, rfl, rfl, rfl, rfl, rfl, rfl, rfl, rfl, rfl, rfl, rfl, rfl, rfl, rfl⟩, c⟩
  exact ⟨rfl, c⟩
theorem text_mem5 (w : World) : Calls Tryd.prog 19 #[.agg #[.int .i64 10, .int .i64 5]] w fun e w' => ∃ r : ByteArray, e = .returned (.string r) ∧ (r = ⟨#[109, 101, 109, 32, 53]⟩ ∧ Chg [] w w') := by
 refine go_query_Text _ _ _ _ ?_
 unfold W_query_Text
 rintro b1 w1 ⟨l1, u1⟩ c1
 refine ⟨fun b w' => b = false ∧ Chg [] w w' ∧ b1 < w'.heap.size, ?_, fun _ => ⟨rfl, c1, u1⟩, fun h => by simp at h⟩
 rintro _ w2 ⟨rfl, c2, u2⟩
 refine ⟨fun h => by simp at h, fun _ => ⟨fun b w' => b = true ∧ Chg [] w w' ∧ b1 < w'.heap.size, ?_, fun _ => ⟨rfl, c2, u2⟩, fun h => by simp at h⟩⟩
 rintro _ w3 ⟨rfl, c3, u3⟩
 refine ⟨fun _ w4 c4 => ?_, fun h => by simp at h⟩
 refine (query_names w4).mono ?_
 rintro _ w5 ⟨rfl, c5⟩
 have s4 := c4.size
 refine ⟨_, _, _, _, _, _, _, _, _, _, _, _, _, _, _, _, _, _, rfl, Same.chg c5 (by simp; omega), sMem, fun w => by kernel_rfl, ⟨#[109, 101, 109, 32]⟩, fun w => by kernel_rfl, ?_⟩
 refine (itoa5 w5).mono ?_
 rintro _ w6 ⟨_, rfl, rfl, hw⟩
 subst w6
 exact ⟨_, rfl, Same.refl _ _, ⟨#[109, 101, 109, 32, 53]⟩, fun w => by kernel_rfl, rfl, (c3.trans0 c4).trans0 c5⟩
theorem single_of {l : List Pl} {a : Pl} (hn : l.Nodup) (h : ∀ q, q ∈ l ↔ q = a) : l = [a] := by
 cases l with
 | nil => exact absurd ((h a).2 rfl) (by simp)
 | cons x l =>
  have hx := (h x).1 (.head _)
  subst hx
  cases l with
  | nil => rfl
  | cons y l =>
   have hy := (h y).1 (.tail _ (.head _))
   subst hy
   simp at hn
theorem touch_one {w : World} {b4 b5 : Nat} {x y : Pl} (h4 : w.heap[b4]? = some (.cells #[.int .i64 x.1, .int .i64 x.2] 27 (0, 0))) (h5 : w.heap[b5]? = some (.cells #[.int .i64 y.1, .int .i64 y.2, .slice (some (⟨b4, 0, none⟩ : Addr)) 1 1] 33 (0, 0)))
  (hx : i64s x.1 ∧ i64s x.2) (hy : i64s y.1 ∧ i64s y.2) : TouchesAt w (fun i => i = b4 ∨ i = b5) (some ⟨b5, 0, none⟩) 1 [(y, [x])] := by
 refine ⟨rfl, fun j t ht => ?_⟩
 match j, ht with
 | 0, ht =>
  simp at ht; subst ht
  refine ⟨hy.1, hy.2, ⟨b5, 0, none⟩, _, _, _, rfl, .inr rfl, by simpa [add_at] using cellsAt_of h5, rfl, fun j z hz => ?_⟩
  match j, hz with
  | 0, hz =>
   simp at hz; subst hz
   exact ⟨hx.1, hx.2, ⟨b4, 0, none⟩, rfl, .inl rfl, by simpa [add_at] using cellsAt_of h4⟩
  | j + 1, hz => simp at hz
 | j + 1, ht => simp at ht
def nsK : List Nt := [(1, (1, 1), [(13, 0)]), (2, (10, 5), [(1, 1)])]
theorem root_known (q : Pl) : isRoot nsK ((10, 5), 9) q ↔ q = (13, 0) := by
 have k1 : kids nsK ((10, 5), 9) = [((1, 1), 2)] := by decide
 have k2 : kids nsK ((1, 1), 2) = [((13, 0), 1)] := by decide
 have k3 : kids nsK ((13, 0), 1) = [] := by decide
 have hr : ∀ u, Reach nsK ((10, 5), 9) u → u = ((10, 5), 9) ∨ u = ((1, 1), 2) ∨ u = ((13, 0), 1) := by
  intro u hu
  induction hu with
  | refl => exact .inl rfl
  | step _ hc ih =>
   rcases ih with rfl | rfl | rfl
   ·rw [k1] at hc; simp at hc; exact .inr (.inl hc)
   ·rw [k2] at hc; simp at hc; exact .inr (.inr hc)
   ·rw [k3] at hc; simp at hc
 constructor
 ·rintro ⟨u, hu, rfl, hb⟩
  rcases hr u hu with rfl | rfl | rfl
  ·exact absurd hb (by decide)
  ·exact absurd hb (by decide)
  ·rfl
 ·rintro rfl
  exact ⟨((13, 0), 1), .step (b := ((1, 1), 2)) (.step (b := ((10, 5), 9)) .refl (by rw [k1]; simp)) (by rw [k2]; simp), rfl, by decide⟩
theorem known_ok (w : World) : Calls Tryd.prog 7 #[] w fun e w' => ∃ r : Bool, e = .returned (.bool r) ∧ (r = true ∧ Chg [] w w') := by
 refine go_pomanderlaw14_known _ _ ?_
 unfold W_pomanderlaw14_known
 refine (query_new w).mono ?_
 rintro _ w1 ⟨_, rfl, b, fp, rfl, hH, c1, hf⟩
 refine ⟨_, rfl, ?_⟩
 rintro b3 b2 b1 w7 ⟨l3, u3⟩ ⟨l2, u2⟩ ⟨l1, u1⟩ c7
 have hlt := hH.lt
 have s1 := c1.size
 have s7 := c7.size
 refine v_alloc fun b4 w8 e4 hb4 c8 => ?_
 refine v_alloc fun b5 w9 e5 hb5 c9 => ?_
 have s8 := c8.size
 have s9 := c9.size
 have c19 := (c7.trans0 c8).trans0 c9
 have k4 := lt_of_heap hb4
 have k5 := lt_of_heap hb5
 refine (hist_add (ns := []) (last := 0) (hH.chg c19 (by simp)) (touch_one (x := (13, 0)) (y := (1, 1)) (c9.obj (by simp) hb4) hb5 (by simp [i64s]) (by simp [i64s])) (fun i hi hS => by have := hlt i hi; rcases hS with h | h <;> omega) (by simp) (by simp) (by simp [i64s])).mono ?_
 rintro _ w10 ⟨r3, rfl, fp2, c10, hf2, hr⟩
 rw [if_neg (by simp)] at hr
 obtain ⟨rfl, hH2⟩ := hr
 have s10 := c10.size
 refine ⟨0, rfl, Same.of c10 (fun i hi => by
  simp at hi
  exact ⟨by omega, fun hm => by have := hlt i hm; omega⟩), ?_⟩
 refine v_alloc fun b6 w11 e6 hb6 c11 => ?_
 refine v_alloc fun b7 w12 e7 hb7 c12 => ?_
 have s11 := c11.size
 have s12 := c12.size
 have hlt2 := hH2.lt
 have k6 := lt_of_heap hb6
 have k7 := lt_of_heap hb7
 refine (hist_add (hH2.chg (c11.trans0 c12) (by simp)) (touch_one (x := (1, 1)) (y := (10, 5)) (c12.obj (by simp) hb6) hb7 (by simp [i64s]) (by simp [i64s])) (fun i hi hS => by have := hlt2 i hi; rcases hS with h | h <;> omega) (by simp) (by decide) (by simp [i64s])).mono ?_
 rintro _ w13 ⟨r4, rfl, fp3, c13, hf3, hr⟩
 rw [if_neg (by decide)] at hr
 obtain ⟨rfl, hH3⟩ := hr
 have hb31 : ∀ i, (i = b3 ∨ i = b1) → i ∉ fp2 := fun i hi hm => by
  rcases hf2 i hm with h | h
  ·have := hlt i h; omega
  ·omega
 refine ⟨0, rfl, Same.of c13 (fun i hi => by
  simp at hi
  exact ⟨by omega, hb31 i hi⟩), ?_⟩
 have s13 := c13.size
 refine (hist_roots hH3 (by decide) (by decide) 10 5 9).mono ?_
 rintro _ w14 ⟨r5, r5n, r5c, rfl, c14, ys, hrow, hlen, hfr, hnd, _, hmem, _⟩
 have hys : ys = [(13, 0)] := single_of hnd (fun q => (hmem q).trans (root_known q))
 subst hys
 have hcs := row_cells hrow hlen
 obtain rfl : 1 = r5n := hlen.symm
 refine ⟨_, _, _, rfl, Same.chg c14 (by simp; omega), fun w15 c15 => ?_⟩
 obtain ⟨a, ha, hca⟩ := (hcs.chg c15 (by simp)).2 0 _ rfl
 have call : Chg [] w w15 := by
  have d1 : Chg [] w w10 := (c1.trans0 c19).trans c10 (fun i hi hlt' => by have := hf i hi; omega)
  have d2 : Chg [] w w13 := ((d1.trans0 c11).trans0 c12).trans c13 (fun i hi hlt' => by
   rcases hf2 i hi with h | h
   ·have := hf i h; omega
   ·omega)
  exact (d2.trans0 c14).trans0 c15
 refine ⟨fun b w' => b = true ∧ Chg [] w w', ?_, fun _ => ⟨a, ha, by omega, by decide, 13, 0, by simpa using hca, rfl, call⟩, fun h => by simp at h⟩
 rintro _ w16 ⟨rfl, c16⟩
 refine ⟨fun b w' => b = true ∧ Chg [] w w', fun b w' h => h, fun _ => ?_, fun h => by simp at h⟩
 refine (text_mem5 w16).mono ?_
 rintro _ w18 ⟨_, rfl, rfl, c18⟩
 exact ⟨_, rfl, true, fun w => by kernel_rfl, rfl, c16.trans0 c18⟩
end Go.Proofs.YtfcfkhbkkfpehaaDoor
end
section
/- Law 14: adds that came in; vast, made. -/
namespace Go.Proofs.YtfcfkhbkkfpehaaDoor
open Go Go.RowKit Go.X Go.XR
abbrev AddV := Int × List Tch
structure AddsAt (w : World) (S : Nat → Prop) (p : Option Addr) (n : Nat) (l : List AddV) : Prop where
 length : l.length = n
 each : ∀ j x, l[j]? = some x → i64s x.1 ∧ ∃ a q qn qc, p = some a ∧ S a.block ∧ CellsAt w (a.add (j * 2)) 0 [.int .i64 x.1, .slice q qn qc] ∧ TouchesAt w S q qn x.2 ∧ qn ≤ maxLen ∧ ∀ t ∈ x.2, t.2.length ≤ maxLen
theorem AddsAt.chg {w w' : World} {S : Nat → Prop} {p : Option Addr} {n : Nat} {l : List AddV} {f : List Nat} (h : AddsAt w S p n l) (hc : Chg f w w') (hf : ∀ i ∈ f, ¬ S i) : AddsAt w' S p n l :=
 ⟨h.length, fun j x hx => let ⟨h1, a, q, qn, qc, h3, h4, h5, h6, h7⟩ := h.each j x hx; ⟨h1, a, q, qn, qc, h3, h4, hc.cells (by rw [add_block]; exact fun hm => hf _ hm h4) h5, h6.chg hc hf, h7⟩⟩
def smallA (l : List AddV) : Prop := l.length ≤ 30 ∧ ∀ x ∈ l, x.2.length ≤ 10 ∧ ∀ t ∈ x.2, t.2.length ≤ 6
theorem vast14 {w : World} {S : Nat → Prop} {p : Option Addr} {n c : Nat} {l : List AddV} (h : AddsAt w S p n l) (hn : n ≤ maxLen) :
  Calls Tryd.prog 11 #[.slice p n c] w fun e w' => ∃ r : Bool, e = .returned (.bool r) ∧ ((r = false → smallA l) ∧ Chg [] w w') := by
 have hl := h.length
 refine go_pomanderlaw14_vast _ _ _ _ _ ?_
 unfold W_pomanderlaw14_vast
 refine ⟨fun _ => ⟨fun h => by simp at h, Chg.refl _ _⟩, fun h30 => ?_⟩
 have h30' := of_decide_eq_false h30
 refine ⟨fun _ i w1 => ∃ j : Nat, i = (j : Int) ∧ j ≤ l.length ∧ (∀ k x, k < j → l[k]? = some x → x.2.length ≤ 10 ∧ ∀ t ∈ x.2, t.2.length ≤ 6) ∧ Chg [] w w1, fun _ i _ => (l.length - i).toNat, ⟨0, rfl, Nat.zero_le _, fun k x hk => absurd hk (Nat.not_lt_zero _), Chg.refl _ _⟩, ?_⟩
 rintro x1 _ w1 ⟨j, rfl, hj, hsm, c1⟩
 refine ⟨fun hlt => ?_, fun hge => ?_⟩
 ·have hjn : j < l.length := by have := of_decide_eq_true hlt; omega
  obtain ⟨x, hx⟩ := get_of hjn
  obtain ⟨i1, a, q, qn, qc, ha, hSa, hcs, hts, hqn, hin⟩ := (h.chg (f := []) c1 (by simp)).each j x hx
  have hql := hts.length
  have hcell : w1.cell? ((a.add (Int.toNat (j : Int) * 2)).add 1) = some (.slice q qn qc) := by simpa using hcs.2.1
  refine ⟨a, ha, by omega, by omega, q, qn, qc, hcell, fun _ => ⟨fun h => by simp at h, c1⟩, fun h10 => ?_⟩
  have h10' := of_decide_eq_false h10
  refine ⟨fun _ k w2 => ∃ i : Nat, k = (i : Int) ∧ i ≤ x.2.length ∧ (∀ m t, m < i → x.2[m]? = some t → t.2.length ≤ 6) ∧ Chg [] w w2 ∧ Chg [] w1 w2, fun _ k _ => (x.2.length - k).toNat, ⟨0, rfl, Nat.zero_le _, fun k x hk => absurd hk (Nat.not_lt_zero _), c1, Chg.refl _ _⟩, ?_⟩
  rintro x2 _ w2 ⟨i, rfl, hi, hst, c2, c12⟩
  refine ⟨q, qn, qc, c12.cell (by simp) hcell, fun hlt2 => ?_, fun hge2 => ?_⟩
  ·have hin' : i < x.2.length := by have := of_decide_eq_true hlt2; omega
   obtain ⟨t, ht⟩ := get_of hin'
   obtain ⟨_, _, a2, q2, q2n, q2c, ha2, _, hcs2, hpl⟩ := (hts.chg (f := []) c12 (by simp)).each i t ht
   have hq2 := hpl.length
   refine ⟨a2, ha2, by omega, by omega, q2, q2n, q2c, by simpa using hcs2.2.2.1, fun _ => ⟨fun h => by simp at h, c2⟩, fun h6 => ?_⟩
   have h6' := of_decide_eq_false h6
   unfold maxLen at hqn
   rw [wr (by omega) (by omega)]
   refine ⟨⟨i + 1, by omega, by omega, fun m t' hm ht' => ?_, c2, c12⟩, by simp only []; omega⟩
   by_cases hmi : m < i
   ·exact hst m t' hmi ht'
   ·have : m = i := by omega
    subst this
    rw [ht] at ht'; cases ht'; omega
  ·have hin' : i = x.2.length := by have := of_decide_eq_false hge2; omega
   rw [wr (by omega) (by omega)]
   refine ⟨⟨j + 1, by omega, by omega, fun k y hk hy => ?_, c2⟩, by simp only []; omega⟩
   by_cases hkj : k < j
   ·exact hsm k y hkj hy
   ·have : k = j := by omega
    subst this
    rw [hx] at hy; cases hy
    refine ⟨by omega, fun t ht => ?_⟩
    obtain ⟨m, hm⟩ := List.getElem?_of_mem ht
    exact hst m t (by have := (List.getElem?_eq_some_iff.1 hm).1; omega) hm
 ·have hjn : j = l.length := by have := of_decide_eq_false hge; omega
  refine ⟨fun _ => ⟨by omega, fun x hx => ?_⟩, c1⟩
  obtain ⟨k, hk⟩ := List.getElem?_of_mem hx
  exact hsm k x (by have := (List.getElem?_eq_some_iff.1 hk).1; omega) hk
structure NotesAt (w : World) (S : Nat → Prop) (p : Option Addr) (n c : Nat) (ns : List Nt) : Prop where
 there : ∃ g : List (Nt × Sl), g.map Prod.fst = ns ∧ RowAt w 50 4 p n c (g.flatMap noteC) ∧ ∀ x ∈ g, PlacesAt w S x.2.1 x.2.2.1 x.1.2.2
 len : n = ns.length
 apart : ∀ i ∈ rowB p, ¬ S i
theorem NotesAt.chg {w w' : World} {S : Nat → Prop} {p : Option Addr} {n c : Nat} {ns : List Nt} {f : List Nat} (h : NotesAt w S p n c ns) (hc : Chg f w w') (h1 : ∀ i ∈ rowB p, i ∉ f) (h2 : ∀ i ∈ f, ¬ S i) : NotesAt w' S p n c ns := by
 obtain ⟨g, k1, k2, k3⟩ := h.there
 exact ⟨⟨g, k1, k2.chg hc h1, fun x hx => (k3 x hx).chg hc h2⟩, h.len, h.apart⟩
theorem NotesAt.lt {w : World} {S : Nat → Prop} {p : Option Addr} {n c : Nat} {ns : List Nt} (h : NotesAt w S p n c ns) : ∀ i ∈ rowB p, i < w.heap.size := by
 obtain ⟨g, k1, k2, k3⟩ := h.there
 exact k2.lt
theorem NotesAt.nil (w : World) (S : Nat → Prop) : NotesAt w S none 0 0 [] := ⟨⟨[], rfl, RowAt.nil, by simp⟩, rfl, by simp [rowB]⟩
theorem NotesAt.push {w : World} {S : Nat → Prop} {p : Option Addr} {n c : Nat} {ns : List Nt} (h : NotesAt w S p n c ns) (hS : ∀ i, S i → i < w.heap.size) (hfew : ns.length ≤ 1000000) {nt : Nt} {q : Sl} (hq : PlacesAt w S q.1 q.2.1 nt.2.2)
  {b2 : Nat} (hb2 : w.heap[b2]? = some (.cells #[.int .i64 nt.1, .int .i64 nt.2.1.1, .int .i64 nt.2.1.2, .slice q.1 q.2.1 q.2.2] 50 (0, 0))) (hb2n : b2 ∉ rowB p) :
  ∃ (l2 : Option Addr) (l2n l2c : Nat) (w13 : World), (Builtin.append_ #[39, 39] 39 #[.slice p n c, .slice (some (⟨b2, 0, none⟩ : Addr)) 1 1]).run Tryd.prog w = .ok (.slice l2 l2n l2c) w13 ∧ NotesAt w13 S l2 l2n l2c (ns ++ [nt]) ∧ Chg (rowB p) w w13 ∧ ∀ i ∈ rowB l2, i ∈ rowB p ∨ w.heap.size ≤ i := by
 obtain ⟨g, k1, k2, k3⟩ := h.there
 have hl := h.len
 obtain ⟨p', c', w', happ, hrow, hc, hnew⟩ := k2.append (P := Tryd.prog) (t := 39) (ty := 39) (i := Tryd.t50) (z := .agg #[.int .i64 0, .int .i64 0, .int .i64 0, .slice none 0 0]) (bytes := 48) (by kernel_rfl) (by kernel_rfl) (by kernel_rfl) (by kernel_rfl) (by kernel_rfl) rfl (by omega)
  (a := ⟨b2, 0, none⟩) (m := 1) (mc := 1) (news := noteC (nt, q)) (by simp [noteC]) (fun j u hj => by
   match j, hj with
   | 0, hj => simp [noteC] at hj; subst hj; rw [add_at, cell_of hb2]; rfl
   | 1, hj => simp [noteC] at hj; subst hj; rw [add_at, cell_of hb2]; rfl
   | 2, hj => simp [noteC] at hj; subst hj; rw [add_at, cell_of hb2]; rfl
   | 3, hj => simp [noteC] at hj; subst hj; rw [add_at, cell_of hb2]; rfl
   | j + 4, hj => simp [noteC] at hj) (fun u hu => by simp [noteC] at hu; rcases hu with rfl | rfl | rfl | rfl <;> rfl) (by unfold maxLen; omega) (by omega)
 have hSp : ∀ i ∈ rowB p, ¬ S i := h.apart
 refine ⟨p', n + 1, c', w', happ, ⟨⟨g ++ [(nt, q)], by rw [List.map_append, k1]; rfl, by rw [List.flatMap_append]; simpa using hrow, fun x hx => ?_⟩, by simp [hl], fun i hi hSi => ?_⟩, hc, hnew⟩
 ·rcases List.mem_append.1 hx with hx | hx
  ·exact (k3 x hx).chg hc hSp
  ·simp at hx; subst hx; exact hq.chg hc hSp
 ·rcases hnew i hi with h' | h'
  ·exact hSp i h' hSi
  ·have := hS i hSi; omega
def stepA (st : List Nt × Int) (x : AddV) : List Nt × Int := if x.1 < 0 ∨ x.1 < st.2 then st else (st.1 ++ newN x.1 x.2, lastN x.1 st.2 x.2)
def madeA (l : List AddV) : List Nt × Int := l.foldl stepA ([], 0)
theorem madeA_snoc (l : List AddV) (x : AddV) : madeA (l ++ [x]) = stepA (madeA l) x := by simp [madeA]
theorem madeA_few (l : List AddV) (h : smallA l) : ∀ j, (madeA (l.take j)).1.length ≤ 10 * j := by
 intro j
 induction j with
 | zero => simp [madeA]
 | succ j ih =>
  by_cases hj : j < l.length
  ·obtain ⟨x, hx⟩ := get_of hj
   rw [take_snoc hx, madeA_snoc]
   unfold stepA
   have := (h.2 x (List.mem_of_getElem? hx)).1
   have hn := newN_len x.1 x.2
   split
   ·omega
   ·simp only [List.length_append]; omega
  ·rw [List.take_of_length_le (by omega)]
   rw [List.take_of_length_le (by omega)] at ih
   omega
theorem newN_small {step : Int} {ts : List Tch} {M : Nat} (h : ∀ t ∈ ts, t.2.length ≤ M) : ∀ n ∈ newN step ts, n.2.2.length ≤ M := by
 intro n hn
 unfold newN at hn
 obtain ⟨t, ht, rfl⟩ := List.mem_map.1 hn
 exact h t (List.mem_filter.1 ht).1
theorem madeA_small (l : List AddV) (h : ∀ x ∈ l, ∀ t ∈ x.2, t.2.length ≤ 6) : ∀ n ∈ (madeA l).1, n.2.2.length ≤ 6 := by
 have : ∀ (l : List AddV) (st : List Nt × Int), (∀ x ∈ l, ∀ t ∈ x.2, t.2.length ≤ 6) → (∀ n ∈ st.1, n.2.2.length ≤ 6) → ∀ n ∈ (l.foldl stepA st).1, n.2.2.length ≤ 6 := by
  intro l
  induction l with
  | nil => intro st _ h; exact h
  | cons x l ih =>
   intro st hl hst
   refine ih _ (fun y hy => hl y (.tail _ hy)) ?_
   unfold stepA
   split
   ·exact hst
   ·intro n hn
    rcases List.mem_append.1 hn with hn | hn
    ·exact hst n hn
    ·exact newN_small (hl x (.head _)) n hn
 exact this l ([], 0) h (by simp)
theorem made14 {w : World} {S : Nat → Prop} {p : Option Addr} {n c : Nat} {l : List AddV} (h : AddsAt w S p n l) (hS : ∀ i, S i → i < w.heap.size) (hsm : smallA l) :
  Calls Tryd.prog 12 #[.slice p n c] w fun e w' => ∃ (r1 r2 : Option Addr) (r2n r2c : Nat) (r3 : Bool), e = .returned (.tuple #[.pointer r1, .slice r2 r2n r2c, .bool r3]) ∧
   (r3 = true ∧ Chg [] w w' ∧ ∃ b fp, r1 = some ⟨b, 0, none⟩ ∧ HistAt w' b (madeA l).1 (madeA l).1.length (madeA l).2 fp ∧ (∀ i ∈ fp, w.heap.size ≤ i) ∧ NotesAt w' S r2 r2n r2c (madeA l).1 ∧ (∀ i ∈ rowB r2, w.heap.size ≤ i ∧ i ∉ fp)) := by
 have hl := h.length
 have hl30 := hsm.1
 refine go_pomanderlaw14_made _ _ _ _ _ ?_
 unfold W_pomanderlaw14_made
 refine (query_new w).mono ?_
 rintro _ w1 ⟨_, rfl, b, fp1, rfl, hH1, c1, hf1⟩
 refine ⟨_, rfl, ?_⟩
 refine ⟨fun x1 x2 x2n x2c x3 notes notesn notesc last i w2 => ∃ j : Nat, i = (j : Int) ∧ j ≤ l.length ∧ last = (madeA (l.take j)).2 ∧ ∃ fp, HistAt w2 b (madeA (l.take j)).1 (madeA (l.take j)).1.length (madeA (l.take j)).2 fp ∧ (∀ i ∈ fp, w.heap.size ≤ i) ∧ NotesAt w2 S notes notesn notesc (madeA (l.take j)).1 ∧ (∀ i ∈ rowB notes, w.heap.size ≤ i ∧ i ∉ fp) ∧ Chg [] w w2,
  fun _ _ _ _ _ _ _ _ _ i _ => (l.length - i).toNat, ⟨0, rfl, Nat.zero_le _, rfl, fp1, hH1, hf1, NotesAt.nil w1 S, by simp [rowB], c1⟩, ?_⟩
 rintro x1 x2 x2n x2c x3 notes notesn notesc _ _ w2 ⟨j, rfl, hj, rfl, fp, hH, hfp, hN, hNf, c2⟩
 refine ⟨fun hlt => ?_, fun hge => ?_⟩
 ·have hjn : j < l.length := by have := of_decide_eq_true hlt; omega
  obtain ⟨x, hx⟩ := get_of hjn
  have hxm := List.mem_of_getElem? hx
  have hx10 := (hsm.2 x hxm).1
  have hx6 := (hsm.2 x hxm).2
  obtain ⟨i1, a, q, qn, qc, ha, hSa, hcs, hts, hqn, hin⟩ := (h.chg (f := []) c2 (by simp)).each j x hx
  have hql := hts.length
  have hfew := madeA_few l hsm j
  have hstep : madeA (l.take (j + 1)) = stepA (madeA (l.take j)) x := by rw [take_snoc hx, madeA_snoc]
  obtain ⟨want, hwant⟩ : ∃ want : Int, want = if x.1 < 0 ∨ x.1 < (madeA (l.take j)).2 then 2 else 0 := ⟨_, rfl⟩
  refine ⟨fun x4 x5 x5n x5c x6 notes2 notes2n notes2c last2 w3 => last2 = (madeA (l.take (j + 1))).2 ∧ ∃ fp, HistAt w3 b (madeA (l.take (j + 1))).1 (madeA (l.take (j + 1))).1.length (madeA (l.take (j + 1))).2 fp ∧ (∀ i ∈ fp, w.heap.size ≤ i) ∧ NotesAt w3 S notes2 notes2n notes2c (madeA (l.take (j + 1))).1 ∧ (∀ i ∈ rowB notes2, w.heap.size ≤ i ∧ i ∉ fp) ∧ Chg [] w w3, ?_, ?_⟩
  ·rintro x4 x5 x5n x5c x6 notes2 notes2n notes2c _ w3 ⟨rfl, k3⟩
   rw [wr (by omega) (by omega)]
   exact ⟨⟨j + 1, by omega, by omega, rfl, k3⟩, by simp only []; omega⟩
  refine ⟨fun wt w4 => want = wt ∧ w2 = w4, ?_, a, ha, by omega, by omega, x.1, hcs.1, fun bb w14 => decide (x.1 < 0 ∨ x.1 < (madeA (l.take j)).2) = bb ∧ w2 = w14, ?_, fun hneg => ⟨?_, rfl⟩, fun hneg => ⟨?_, rfl⟩⟩
  rotate_left
  ·rintro _ _ ⟨rfl, rfl⟩
   refine ⟨fun hb => ⟨?_, rfl⟩, fun hb => ⟨?_, rfl⟩⟩
   ·rw [hwant, if_pos (of_decide_eq_true hb)]
   ·rw [hwant, if_neg (of_decide_eq_false hb)]
  ·have := of_decide_eq_false hneg
   exact decide_eq_decide.2 ⟨fun h => h.resolve_left this, .inr⟩
  ·have := of_decide_eq_true hneg
   exact decide_eq_true (.inl this)
  rintro _ _ ⟨rfl, rfl⟩
  refine ⟨a, ha, by omega, by omega, fun w5 c5 => ?_⟩
  have hcs5 := c5.cells (by simp) hcs
  refine ⟨x.1, hcs5.1, q, qn, qc, by simpa using hcs5.2.1, ?_⟩
  have c05 := c2.trans0 c5
  have hH5 := hH.chg c5 (by simp)
  have hdis : ∀ i ∈ fp, ¬ S i := fun i hi hSi => by have := hfp i hi; have := hS i hSi; omega
  refine (hist_add hH5 (hts.chg (f := []) c5 (by simp)) hdis (fun t ht => by have := hx6 t ht; omega) (by omega) i1).mono ?_
  rintro _ w6 ⟨r5, rfl, fp6, c6, hf6, hres⟩
  have s6 := c6.size
  have s5 := c5.size
  have s2 := c2.size
  have hlt5 := hH5.lt
  have hr5 : r5 = want := by
   rw [hwant]
   split at hres
   ·rename_i hb; rw [if_pos hb]; exact hres.1
   ·rename_i hb; rw [if_neg hb]; exact hres.1
  have c06 : Chg [] w w6 := c05.trans c6 (fun i hi hlt' => by have := hfp i hi; omega)
  have hfp6 : ∀ i ∈ fp6, w.heap.size ≤ i := fun i hi => by
   rcases hf6 i hi with h | h
   ·exact hfp i h
   ·omega
  have hN5 : NotesAt w5 S notes notesn notesc (madeA (l.take j)).1 := hN.chg c5 (by simp) (by simp)
  have hN6 : NotesAt w6 S notes notesn notesc (madeA (l.take j)).1 := hN5.chg c6 (fun i hi => (hNf i hi).2) hdis
  have hNf6 : ∀ i ∈ rowB notes, w.heap.size ≤ i ∧ i ∉ fp6 := fun i hi => ⟨(hNf i hi).1, fun hm => by
   rcases hf6 i hm with h | h
   ·exact (hNf i hi).2 h
   ·have := hN5.lt i hi; omega⟩
  refine ⟨r5, rfl, fun hne => by rw [hr5] at hne; simp at hne, fun _ => ⟨fun hw => ?_, fun hw => ?_⟩⟩
  ·have hbad : x.1 < 0 ∨ x.1 < (madeA (l.take j)).2 := Classical.byContradiction fun hb => by rw [hwant, if_neg hb] at hw; simp at hw
   have hst : stepA (madeA (l.take j)) x = madeA (l.take j) := by unfold stepA; rw [if_pos hbad]
   rw [if_pos hbad] at hres
   rw [hstep, hst]
   exact ⟨rfl, fp6, hres.2, hfp6, hN6, hNf6, c06⟩
  ·have hok : ¬ (x.1 < 0 ∨ x.1 < (madeA (l.take j)).2) := fun hb => by rw [hwant, if_pos hb] at hw; simp at hw
   have hst : stepA (madeA (l.take j)) x = ((madeA (l.take j)).1 ++ newN x.1 x.2, lastN x.1 (madeA (l.take j)).2 x.2) := by unfold stepA; rw [if_neg hok]
   rw [if_neg hok] at hres
   have hH6 := hres.2
   have hlt6 := hH6.lt
   have hts6 : TouchesAt w6 S q qn x.2 := (hts.chg (f := []) c5 (by simp)).chg c6 hdis
   have hcs6 := c6.cells (by rw [add_block]; exact fun hm => hdis _ hm hSa) hcs5
   refine ⟨fun notes3 notes3n notes3c last3 k w7 => ∃ i : Nat, k = (i : Int) ∧ i ≤ x.2.length ∧ last3 = lastN x.1 (madeA (l.take j)).2 (x.2.take i) ∧ NotesAt w7 S notes3 notes3n notes3c ((madeA (l.take j)).1 ++ newN x.1 (x.2.take i)) ∧ (∀ i ∈ rowB notes3, w.heap.size ≤ i ∧ i ∉ fp6) ∧ ∃ f7 : List Nat, Chg f7 w6 w7 ∧ ∀ i ∈ f7, w.heap.size ≤ i ∧ i ∉ fp6,
    fun _ _ _ _ k _ => (x.2.length - k).toNat, ⟨0, rfl, Nat.zero_le _, by simp [lastN, newN], by simpa [newN] using hN6, hNf6, [], Chg.refl _ _, by simp⟩, ?_⟩
   rintro notes3 notes3n notes3c _ _ w7 ⟨i, rfl, hi, rfl, hN7, hNf7, f7, c7, hf7⟩
   have hf7S : ∀ i ∈ f7, ¬ S i := fun i hi hSi => by have := (hf7 i hi).1; have := hS i hSi; omega
   have s7 := c7.size
   have hcs7 := c7.cells (by rw [add_block]; exact fun hm => hf7S _ hm hSa) hcs6
   refine ⟨q, qn, qc, by simpa using hcs7.2.1, fun hlt2 => ?_, fun hge2 => ?_⟩
   ·have hin' : i < x.2.length := by have := of_decide_eq_true hlt2; omega
    obtain ⟨t, ht⟩ := get_of hin'
    have hts7 : TouchesAt w7 S q qn x.2 := hts6.chg c7 hf7S
    obtain ⟨t1, t2, a2, q2, q2n, q2c, ha2, hSa2, hcs2, hpl⟩ := hts7.each i t ht
    refine ⟨fun notes4 notes4n notes4c last4 w8 => last4 = lastN x.1 (madeA (l.take j)).2 (x.2.take (i + 1)) ∧ NotesAt w8 S notes4 notes4n notes4c ((madeA (l.take j)).1 ++ newN x.1 (x.2.take (i + 1))) ∧ (∀ i ∈ rowB notes4, w.heap.size ≤ i ∧ i ∉ fp6) ∧ ∃ f8 : List Nat, Chg f8 w6 w8 ∧ ∀ i ∈ f8, w.heap.size ≤ i ∧ i ∉ fp6, ?_, a2, ha2, by omega, by omega, t.1.1, t.1.2, q2, q2n, q2c, by simpa using hcs2, ?_⟩
    ·rintro notes4 notes4n notes4c _ w8 ⟨rfl, k8⟩
     rw [wr (by omega) (by omega)]
     exact ⟨⟨i + 1, by omega, by omega, rfl, k8⟩, by simp only []; omega⟩
    rintro b1 w10 ⟨l1, u1⟩ c10
    rw [take_snoc ht, lastN_snoc, newN_snoc]
    refine ⟨fun hz => ?_, fun hz => ?_⟩
    ·rw [to_zero] at hz
     have hz' : t.1 ≠ (0, 0) := of_decide_eq_true hz
     rw [if_pos hz', if_pos hz']
     intro w11 c11
     have c711 := c10.trans0 c11
     have hcs11 := c711.cells (by simp) hcs7
     refine ⟨x.1, hcs11.1, ?_⟩
     refine v_alloc fun b2 w12 e2 hb2 c12 => ?_
     have s11 := c711.size
     have s12 := c12.size
     have c712 := c711.trans0 c12
     have hN12 : NotesAt w12 S notes3 notes3n notes3c ((madeA (l.take j)).1 ++ newN x.1 (x.2.take i)) := hN7.chg c712 (by simp) (by simp)
     have hnl := newN_len x.1 (x.2.take i)
     rw [List.length_take] at hnl
     obtain ⟨l2, l2n, l2c, w13, happ, hN13, c13, hnew⟩ := hN12.push (nt := (x.1, t.1, t.2)) (q := (q2, q2n, q2c)) (fun i hi => by have := hS i hi; omega) (by rw [List.length_append]; omega) (hpl.chg (f := []) c712 (by simp)) hb2 (fun hm => by have := hN7.lt _ hm; omega)
     have hS3 : ∀ i ∈ rowB notes3, ¬ S i := hN7.apart
     have hcs13 := c13.cells (by rw [add_block]; exact fun hm => hS3 _ hm hSa) (c12.cells (by simp) hcs11)
     refine ⟨l2, l2n, l2c, w13, happ, x.1, hcs13.1, rfl, by rw [← List.append_assoc]; exact hN13, fun i hi => ?_, f7 ++ rowB notes3, ((c7.mono (g := f7 ++ rowB notes3) (fun i hi _ => by simp [hi])).trans c712.nil (fun i hi _ => hi)).trans (c13.mono (g := f7 ++ rowB notes3) (fun i hi _ => by simp [hi])) (fun i hi _ => hi), fun i hi => ?_⟩
     ·rcases hnew i hi with h' | h'
      ·exact hNf7 i h'
      ·exact ⟨by omega, fun hm => by have := hlt6 i hm; omega⟩
     ·rcases List.mem_append.1 hi with h' | h'
      ·exact hf7 i h'
      ·exact hNf7 i h'
    ·rw [to_zero] at hz
     have hz' : t.1 = (0, 0) := Decidable.of_not_not (of_decide_eq_false hz)
     rw [if_neg (by simp [hz']), if_neg (by simp [hz']), List.append_nil]
     exact ⟨rfl, hN7.chg c10 (by simp) (by simp), hNf7, f7, c7.trans c10 (by simp), hf7⟩
   ·have hin' : i = x.2.length := by have := of_decide_eq_false hge2; omega
    subst hin'
    rw [List.take_length] at hN7 ⊢
    rw [hstep, hst]
    exact ⟨rfl, fp6, hH6.chg c7 (fun i hi hm => (hf7 i hm).2 hi), hfp6, hN7, hNf7, c06.trans c7 (fun i hi hlt' => by have := (hf7 i hi).1; omega)⟩
 ·have hjn : j = l.length := by have := of_decide_eq_false hge; omega
  subst hjn
  rw [List.take_length] at hH hN
  refine (hist_len hH).mono ?_
  rintro _ w15 ⟨_, rfl, rfl, hw⟩
  subst w15
  have hNl := hN.len
  exact ⟨_, rfl, by simp [hNl], c2, b, fp, rfl, hH, hfp, hN, hNf⟩
end Go.Proofs.YtfcfkhbkkfpehaaDoor
end
section
/- Law 14, in plain Lean: lists of places that rise; what is noted behind a step. -/
namespace Go.Proofs.YtfcfkhbkkfpehaaDoor
open Go Go.RowKit Go.X Go.XR
theorem lt_trans {a b c : Pl} (h : ltPl a b) (k : ltPl b c) : ltPl a c := by unfold ltPl at *; omega
theorem lt_irrefl (a : Pl) : ¬ ltPl a a := by unfold ltPl; omega
theorem lt_tri {a b : Pl} (h : ¬ ltPl b a) (hne : a ≠ b) : ltPl a b := by
 unfold ltPl at *
 by_cases e : a.1 = b.1
 ·by_cases e2 : a.2 = b.2
  ·exact absurd (Prod.ext e e2) hne
  ·omega
 ·omega
theorem rise_of {l : List Pl} (hn : l.Nodup) (hs : l.Pairwise (fun a b => ¬ ltPl b a)) : l.Pairwise ltPl := by
 induction l with
 | nil => exact .nil
 | cons a l ih =>
  rw [List.pairwise_cons] at hs ⊢
  rw [List.nodup_cons] at hn
  exact ⟨fun b hb => lt_tri (hs.1 b hb) (fun e => hn.1 (e ▸ hb)), ih hn.2 hs.2⟩
theorem eq_of_rise : ∀ {l m : List Pl}, l.Pairwise ltPl → m.Pairwise ltPl → (∀ p, p ∈ l ↔ p ∈ m) → l = m
 | [], [], _, _, _ => rfl
 | [], b :: m, _, _, h => by have := (h b).2 (by simp); simp at this
 | a :: l, [], _, _, h => by have := (h a).1 (by simp); simp at this
 | a :: l, b :: m, hl, hm, h => by
  rw [List.pairwise_cons] at hl hm
  have hab : a = b := by
   by_cases e : a = b
   ·exact e
   ·exfalso
    have h1 : a ∈ m := by have := (h a).1 (by simp); simp [e] at this; exact this
    have h2 : b ∈ l := by have := (h b).2 (by simp); simp [Ne.symm e] at this; exact this
    exact lt_irrefl _ (lt_trans (hl.1 b h2) (hm.1 a h1))
  subst hab
  rw [eq_of_rise hl.2 hm.2 fun p => ?_]
  constructor
  ·intro hp
   have := (h p).1 (.tail _ hp)
   rcases List.mem_cons.1 this with rfl | h'
   ·exact absurd (hl.1 p hp) (lt_irrefl _)
   ·exact h'
  ·intro hp
   have := (h p).2 (.tail _ hp)
   rcases List.mem_cons.1 this with rfl | h'
   ·exact absurd (hm.1 p hp) (lt_irrefl _)
   ·exact h'
theorem AddsAt.take {w : World} {S : Nat → Prop} {p : Option Addr} {n : Nat} {l : List AddV} (h : AddsAt w S p n l) {c : Nat} (hc : c ≤ n) : AddsAt w S p c (l.take c) :=
 ⟨by rw [List.length_take, h.length]; omega, fun j x hx => by
  rw [List.getElem?_take] at hx
  split at hx
  ·exact h.each j x hx
  ·cases hx⟩
end Go.Proofs.YtfcfkhbkkfpehaaDoor
end
section
namespace Go.Proofs.YtfcfkhbkkfpehaaDoor
open Go Go.X
/- pomander/pomanderref12.Roots -/
def W_pomanderref12_Roots (l1 : Option Addr) (l1n : Nat) (l1c : Nat) (p1 : Int) (p2 : Int) (step1 : Int) (w : World) (R : (Option Addr) → Nat → Nat → World → Prop) : Prop :=
 ∀ (b1 : Nat) (w1 : World), (w.heap.size ≤ b1 ∧ b1 < w1.heap.size) → Chg [] w w1 → (∀ b2 : Nat, b2 = World.size w1 → ∀ w2 : World, w2 = World.alloc w1 (.cells #[.int .i64 p1, .int .i64 p2, .int .i64 step1] 73) → (∃ (I1 : (Option Addr) → Nat → Nat → (Option Addr) → Nat → Nat → Int → World → Prop) (m1 : (Option Addr) → Nat → Nat → (Option Addr) → Nat → Nat → Int → World → Nat), I1 (some (⟨b2, 0, none⟩ : Addr)) 1 1 none 0 0 0 w2 ∧ ∀ (all1 : Option Addr) (all1n : Nat) (all1c : Nat) (out1 : Option Addr) (out1n : Nat) (out1c : Nat) (n1 : Int) (w3 : World), I1 all1 all1n all1c out1 out1n out1c n1 w3 → ((decide (n1 < (all1n : Int))) = true → ∃ J1 : (Option Addr) → Nat → Nat → (Option Addr) → Nat → Nat → World → Prop, (∀ (all2 : Option Addr) (all2n : Nat) (all2c : Nat) (out2 : Option Addr) (out2n : Nat) (out2c : Nat) (w4 : World), J1 all2 all2n all2c out2 out2n out2c w4 → (I1 all2 all2n all2c out2 out2n out2c (IntKind.wrap .i64 (n1 + 1)) w4 ∧ m1 all2 all2n all2c out2 out2n out2c (IntKind.wrap .i64 (n1 + 1)) w4 < m1 all1 all1n all1c out1 out1n out1c n1 w3)) ∧ (∃ a1 : Addr, all1 = some a1 ∧ (0 : Int) ≤ n1 ∧ n1 < (all1n : Int) ∧ (∀ (w5 : World), Chg [] w3 w5 → (∃ (t1 : Int) (t2 : Int), CellsAt w5 (a1.add (Int.toNat n1 * 3)) 0 [.int .i64 t1, .int .i64 t2] ∧ (∃ (t3 : Int), w5.cell? ((a1.add (Int.toNat n1 * 3)).add 2) = some (.int .i64 t3) ∧ (Calls Tryd.prog 18 #[.slice l1 l1n l1c, .agg #[.int .i64 t1, .int .i64 t2], .int .i64 t3] w5 fun e w6 => ∃ (r2 : Int), e = .returned (.int .i64 r2) ∧ (((decide (r2 < 0)) = true → ∃ (t4 : Int) (t5 : Int), CellsAt w6 (a1.add (Int.toNat n1 * 3)) 0 [.int .i64 t4, .int .i64 t5] ∧ (Calls Tryd.prog 28 #[.slice out1 out1n out1c, .agg #[.int .i64 t4, .int .i64 t5]] w6 fun e w7 => ∃ (r3 : Option Addr) (r3n : Nat) (r3c : Nat), e = .returned (.slice r3 r3n r3c) ∧ (J1 all1 all1n all1c r3 r3n r3c w7))) ∧ ((decide (r2 < 0)) = false → ∃ (I2 : (Option Addr) → Nat → Nat → Int → World → Prop) (m2 : (Option Addr) → Nat → Nat → Int → World → Nat), I2 all1 all1n all1c 0 w6 ∧ ∀ (all3 : Option Addr) (all3n : Nat) (all3c : Nat) (k1 : Int) (w8 : World), I2 all3 all3n all3c k1 w8 → ∃ a2 : Addr, l1 = some a2 ∧ (0 : Int) ≤ r2 ∧ r2 < (l1n : Int) ∧ (∃ (t6 : Option Addr) (t6n : Nat) (t6c : Nat), w8.cell? ((a2.add (Int.toNat r2 * 4)).add 3) = some (.slice t6 t6n t6c) ∧ (((decide (k1 < (t6n : Int))) = true → ∃ J2 : (Option Addr) → Nat → Nat → World → Prop, (∀ (all4 : Option Addr) (all4n : Nat) (all4c : Nat) (w9 : World), J2 all4 all4n all4c w9 → (I2 all4 all4n all4c (IntKind.wrap .i64 (k1 + 1)) w9 ∧ m2 all4 all4n all4c (IntKind.wrap .i64 (k1 + 1)) w9 < m2 all3 all3n all3c k1 w8)) ∧ (∀ (w10 : World), Chg [] w8 w10 → (∃ (t7 : Option Addr) (t7n : Nat) (t7c : Nat), w10.cell? ((a2.add (Int.toNat r2 * 4)).add 3) = some (.slice t7 t7n t7c) ∧ (∃ a3 : Addr, t7 = some a3 ∧ (0 : Int) ≤ k1 ∧ k1 < (t7n : Int) ∧ (∃ (t8 : Int) (t9 : Int), CellsAt w10 (a3.add (Int.toNat k1 * 2)) 0 [.int .i64 t8, .int .i64 t9] ∧ (∃ (t10 : Int), w10.cell? (a2.add (Int.toNat r2 * 4)) = some (.int .i64 t10) ∧ (∀ (b3 : Nat) (w12 : World), (w10.heap.size ≤ b3 ∧ b3 < w12.heap.size) → Chg [] w10 w12 → (∃ (I3 : Bool → Int → World → Prop) (m3 : Bool → Int → World → Nat), I3 false 0 w12 ∧ ∀ (there1 : Bool) (mv1 : Int) (w13 : World), I3 there1 mv1 w13 → ((decide (mv1 < (all3n : Int))) = true → ∀ (w14 : World), Chg [] w13 w14 → (∃ J3 : Bool → World → Prop, (∀ (b4 : Bool) (w15 : World), J3 b4 w15 → (I3 b4 (IntKind.wrap .i64 (mv1 + 1)) w15 ∧ m3 b4 (IntKind.wrap .i64 (mv1 + 1)) w15 < m3 there1 mv1 w13)) ∧ ((there1 = false → ∃ a4 : Addr, all3 = some a4 ∧ (0 : Int) ≤ mv1 ∧ mv1 < (all3n : Int) ∧ (∃ (t11 : Int) (t12 : Int) (t13 : Int), CellsAt w14 (a4.add (Int.toNat mv1 * 3)) 0 [.int .i64 t11, .int .i64 t12, .int .i64 t13] ∧ (J3 ((t11 == t8) && (t12 == t9) && (t13 == t10)) w14))) ∧ (there1 = true → J3 true w14)))) ∧ ((decide (mv1 < (all3n : Int))) = false → ((!there1) = true → ∀ b5 : Nat, b5 = World.size w13 → ∀ w16 : World, w16 = World.alloc w13 (.cells #[.int .i64 t8, .int .i64 t9, .int .i64 t10] 73) → (∃ (l2 : Option Addr) (l2n : Nat) (l2c : Nat) (w17 : World), (Builtin.append_ #[74, 74] 74 #[.slice all3 all3n all3c, .slice (some (⟨b5, 0, none⟩ : Addr)) 1 1]).run Tryd.prog w16 = .ok (.slice l2 l2n l2c) w17 ∧ (J2 l2 l2n l2c w17))) ∧ ((!there1) = false → J2 all3 all3n all3c w13)))))))))) ∧ ((decide (k1 < (t6n : Int))) = false → J1 all3 all3n all3c out1 out1n out1c w8))))))))))) ∧ ((decide (n1 < (all1n : Int))) = false → R out1 out1n out1c w3)))
set_option maxRecDepth 100000 in
theorem go_pomanderref12_Roots (l1 : Option Addr) (l1n : Nat) (l1c : Nat) (p1 : Int) (p2 : Int) (step1 : Int) (w : World) (R : (Option Addr) → Nat → Nat → World → Prop) (h : W_pomanderref12_Roots l1 l1n l1c p1 p2 step1 w R) : Calls Tryd.prog 14 #[.slice l1 l1n l1c, .agg #[.int .i64 p1, .int .i64 p2], .int .i64 step1] w (fun e w' => ∃ (r1 : Option Addr) (r1n : Nat) (r1c : Nat), e = .returned (.slice r1 r1n r1c) ∧ R r1 r1n r1c w') := by
 unfold W_pomanderref12_Roots at h
 refine enter (N := 92) Tryd.func14 rfl rfl ?_
 refine CW.seq ?_
 refine CW.region fun L hL => ?_
 obtain ⟨b1, hb_b1⟩ : ∃ b1, b1 = World.size w := ⟨_, rfl⟩
 obtain ⟨w1, hw_w1⟩ : ∃ w1, w1 = World.alloc w (.cells #[.int .i64 p1, .int .i64 p2] 27) := ⟨_, rfl⟩
 refine LW.val hL rfl (Wants.free rfl) rfl (boxE hb_b1 hw_w1 (Vl.box (v := .agg #[.int .i64 p1, .int .i64 p2]) rfl)) ?_
 have hB := Boxes.alloc (cs := [.int .i64 p1, .int .i64 p2]) (T := 27) (Boxes.nil w) hb_b1 hw_w1
 have hlo_b1 := sil_lo (Chg.refl [] w) hb_b1
 have hc_w1 := sil_alloc (Chg.refl [] w) hw_w1
 refine LW.rd hL rfl (Wants.free rfl) rfl (Rd.assign (v := .slice none 0 0) rfl) ?_
 refine LW.nil hL rfl ?_
 refine NW.then ?_
 refine CW.seq ?_
 refine CW.region fun L hL => ?_
 refine LW.rd hL rfl (Wants.free rfl) rfl (Rd.ldN (cs := [.int .i64 p1, .int .i64 p2]) rfl (by kernel_rfl) (by kernel_rfl) (cellsS (box_cells (hB.at (i := 0) rfl) rfl))) ?_
 refine LW.rd hL rfl (Wants.free rfl) rfl (Rd.move (v := .int .i64 step1) rfl) ?_
 refine LW.rd hL rfl (Wants.free rfl) rfl (Rd.build (v := .agg #[.int .i64 p1, .int .i64 p2, .int .i64 step1]) rfl (fun _ => by kernel_rfl)) ?_
 replace h := h b1 w1 ⟨hlo_b1, lt_of_heap (hB.at (i := 0) rfl)⟩ hc_w1
 obtain ⟨b2, hb_b2⟩ : ∃ b2, b2 = World.size w1 := ⟨_, rfl⟩
 obtain ⟨w2, hw_w2⟩ : ∃ w2, w2 = World.alloc w1 (.cells #[.int .i64 p1, .int .i64 p2, .int .i64 step1] 73) := ⟨_, rfl⟩
 replace h := h b2 hb_b2 w2 hw_w2
 refine LW.val hL rfl (Wants.free rfl) rfl (sliceE (n := 1) hb_b2 hw_w2 (fun w => Vl.buildSlice (vs := [(0, .agg #[.int .i64 p1, .int .i64 p2, .int .i64 step1])]) rfl (by kernel_rfl))) ?_
 replace hB := hB.grow hw_w2
 refine LW.rd hL rfl (Wants.free rfl) rfl (Rd.assign (v := .slice (some (⟨b2, 0, none⟩ : Addr)) 1 1) rfl) ?_
 refine LW.nil hL rfl ?_
 refine NW.then ?_
 refine CW.seq ?_
 refine CW.region fun L hL => ?_
 refine LW.rd hL rfl (Wants.free rfl) rfl (Rd.assign (v := .slice none 0 0) rfl) ?_
 refine LW.nil hL rfl ?_
 refine NW.then ?_
 refine CW.seq ?_
 refine CW.seq ?_
 refine CW.region fun L hL => ?_
 refine LW.rd hL rfl (Wants.free rfl) rfl (Rd.assign (v := .int .i64 0) rfl) ?_
 refine LW.nil hL rfl ?_
 refine NW.then ?_
 refine CW.block ?_
 obtain ⟨I1, m1, hI1, h⟩ := h
 refine CW.loop (S := (Option Addr) × Nat × Nat × (Option Addr) × Nat × Nat × Int) (fun s1 => [(0, .slice l1 l1n l1c), (6, .slice none 0 0), (7, .slice s1.1 s1.2.1 s1.2.2.1), (8, .slice s1.2.2.2.1 s1.2.2.2.2.1 s1.2.2.2.2.2.1), (9, .int .i64 s1.2.2.2.2.2.2)]) (fun s1 w3 => I1 s1.1 s1.2.1 s1.2.2.1 s1.2.2.2.1 s1.2.2.2.2.1 s1.2.2.2.2.2.1 s1.2.2.2.2.2.2 w3) (fun s1 w3 => m1 s1.1 s1.2.1 s1.2.2.1 s1.2.2.2.1 s1.2.2.2.2.1 s1.2.2.2.2.2.1 s1.2.2.2.2.2.2 w3) (some (⟨b2, 0, none⟩ : Addr), 1, 1, none, 0, 0, 0) (by exact ⟨rfl, rfl, rfl, rfl, rfl, trivial⟩) hI1 (fun s1 w3 hI1 => ?_)
 obtain ⟨all1, all1n, all1c, out1, out1n, out1c, n1⟩ := s1; replace h := h all1 all1n all1c out1 out1n out1c n1 w3 hI1
 refine CW.seq ?_
 refine CW.seq ?_
 refine CW.region fun L hL => ?_
 refine LW.rd hL rfl (Wants.free rfl) rfl (Rd.move (v := .int .i64 n1) rfl) ?_
 refine LW.rd hL rfl (Wants.free rfl) rfl (Rd.move (v := .slice all1 all1n all1c) rfl) ?_
 refine LW.rd hL rfl (Wants.free rfl) rfl (Rd.builtin (v := .int .i64 (all1n : Int)) rfl (fun _ _ => by kernel_rfl)) ?_
 refine LW.rd hL rfl (Wants.free rfl) rfl (Rd.bin (v := .bool (decide (n1 < (all1n : Int)))) rfl rfl (fun w => by kernel_rfl)) ?_
 refine LW.nil hL rfl ?_
 refine NW.then ?_
 refine CW.cond rfl (fun hb1 => ?_) (fun hb1 => ?_)
 ·replace h := h.1 hb1
  refine CW.skip ?_
  refine NW.then ?_
  obtain ⟨J1, hJ1, h⟩ := h
  refine CW.cut (S := (Option Addr) × Nat × Nat × (Option Addr) × Nat × Nat) (fun s2 => [(0, .slice l1 l1n l1c), (6, .slice none 0 0), (9, .int .i64 n1), (7, .slice s2.1 s2.2.1 s2.2.2.1), (8, .slice s2.2.2.2.1 s2.2.2.2.2.1 s2.2.2.2.2.2)]) (fun s2 w4 => J1 s2.1 s2.2.1 s2.2.2.1 s2.2.2.2.1 s2.2.2.2.2.1 s2.2.2.2.2.2 w4) (fun s2 w4 h_ => ?_) ?_
  ·obtain ⟨all2, all2n, all2c, out2, out2n, out2c⟩ := s2; replace h := hJ1 all2 all2n all2c out2 out2n out2c w4 h_; clear h_
   refine CW.region fun L hL => ?_
   refine LW.rd hL rfl (Wants.free rfl) rfl (Rd.move (v := .int .i64 n1) rfl) ?_
   refine LW.rd hL rfl (Wants.free rfl) rfl (Rd.bin (v := .int .i64 (IntKind.wrap .i64 (n1 + 1))) rfl rfl (fun w => by kernel_rfl)) ?_
   refine LW.rd hL rfl (Wants.free rfl) rfl (Rd.assign (v := .int .i64 (IntKind.wrap .i64 (n1 + 1))) rfl) ?_
   refine LW.nil hL rfl ?_
   exact NW.loop (S := (Option Addr) × Nat × Nat × (Option Addr) × Nat × Nat × Int) (Ek := fun s1 => [(0, .slice l1 l1n l1c), (6, .slice none 0 0), (7, .slice s1.1 s1.2.1 s1.2.2.1), (8, .slice s1.2.2.2.1 s1.2.2.2.2.1 s1.2.2.2.2.2.1), (9, .int .i64 s1.2.2.2.2.2.2)]) (all2, all2n, all2c, out2, out2n, out2c, IntKind.wrap .i64 (n1 + 1)) (by exact ⟨rfl, rfl, rfl, rfl, rfl, trivial⟩) h
  ·skip
   refine CW.block ?_
   refine CW.seq ?_
   obtain ⟨w5, hw_w5⟩ : ∃ x, x = World.drew w3 := ⟨_, rfl⟩
   have hc_w5 := sil_drew (Chg.refl [] w3) hw_w5
   refine CW.drawn (fun w => w = w5) 11 (by kernel_rfl) fun H hH => ?_
   rw [← hw_w5]
   refine HW.pure (i := 0) hH rfl (by kernel_rfl) (Wants.free rfl) rfl (fun _ => rfl) (Rd.move (v := .slice l1 l1n l1c) rfl) ?_
   refine HW.pure (i := 1) hH rfl (by kernel_rfl) (Wants.free rfl) rfl (fun _ => rfl) (Rd.move (v := .slice all1 all1n all1c) rfl) ?_
   refine HW.pure (i := 2) hH rfl (by kernel_rfl) (Wants.free rfl) rfl (fun _ => rfl) (Rd.move (v := .int .i64 n1) rfl) ?_
   obtain ⟨a1, he1, hi1, hi2, h⟩ := h
   refine HW.pure (i := 3) hH rfl (by kernel_rfl) (Wants.free rfl) rfl (fun _ => rfl) (Rd.iaS (q := a1) (sz := 3) (by rw [← he1]; rfl) rfl Tryd.underlying74 (by kernel_rfl) hi1 hi2) ?_
   refine HW.pure (i := 4) hH rfl (by kernel_rfl) (Wants.free rfl) rfl (fun _ => rfl) (Rd.fa (v := .pointer (some (a1.add (Int.toNat n1 * 3)))) rfl (fun _ => by kernel_rfl)) ?_
   replace h := h  w5  hc_w5
   obtain ⟨t1, t2, hc1, h⟩ := h
   refine HW.take (i := 5) hH rfl (by kernel_rfl) (by kernel_rfl) (Wants.free rfl) rfl (fun _ => rfl) (Rd.ldN (cs := [.int .i64 t1, .int .i64 t2]) rfl (by kernel_rfl) (by kernel_rfl) (cellsS hc1)) ?_
   refine HW.pure (i := 6) hH rfl (by kernel_rfl) (Wants.free rfl) rfl (fun _ => rfl) (Rd.move (v := .slice all1 all1n all1c) rfl) ?_
   refine HW.pure (i := 7) hH rfl (by kernel_rfl) (Wants.free rfl) rfl (fun _ => rfl) (Rd.move (v := .int .i64 n1) rfl) ?_
   refine HW.pure (i := 8) hH rfl (by kernel_rfl) (Wants.free rfl) rfl (fun _ => rfl) (Rd.iaS (q := a1) (sz := 3) (by rw [← he1]; rfl) rfl Tryd.underlying74 (by kernel_rfl) hi1 hi2) ?_
   refine HW.pure (i := 9) hH rfl (by kernel_rfl) (Wants.free rfl) rfl (fun _ => rfl) (Rd.fa (v := .pointer (some ((a1.add (Int.toNat n1 * 3)).add 2))) rfl (fun _ => by kernel_rfl)) ?_
   obtain ⟨t3, hc2, h⟩ := h
   refine HW.take (i := 10) hH rfl (by kernel_rfl) (by kernel_rfl) (Wants.free rfl) rfl (fun _ => rfl) (Rd.ld (v := .int .i64 t3) rfl (by kernel_rfl) (eqs hc2)) ?_
   refine HW.call (i := 11) hH (by kernel_rfl) rfl (Wants.free rfl) rfl (Cl.fn (f := 18) rfl Tryd.func18 (by kernel_rfl) rfl) h (fun e w6 h_ => ?_)
   clear h
   obtain ⟨r2, rfl, h⟩ := h_
   refine ⟨_, rfl, (fun hc => by cases hc), ?_⟩
   refine HW.pure (i := 12) hH rfl (by kernel_rfl) (Wants.free rfl) rfl (fun hc => by cases hc) (Rd.assign (v := .int .i64 r2) rfl) ?_
   refine HW.done hH (by kernel_rfl) ?_
   refine NW.then ?_
   refine CW.seq ?_
   refine CW.seq ?_
   refine CW.region fun L hL => ?_
   refine LW.rd hL rfl (Wants.free rfl) rfl (Rd.move (v := .int .i64 r2) rfl) ?_
   refine LW.rd hL rfl (Wants.free rfl) rfl (Rd.bin (v := .bool (decide (r2 < 0))) rfl rfl (fun w => by kernel_rfl)) ?_
   refine LW.nil hL rfl ?_
   refine NW.then ?_
   refine CW.cond rfl (fun hb2 => ?_) (fun hb2 => ?_)
   ·replace h := h.1 hb2
    refine CW.seq ?_
    refine CW.region fun L hL => ?_
    refine LW.rd hL rfl (Wants.free rfl) rfl (Rd.move (v := .slice out1 out1n out1c) rfl) ?_
    refine LW.rd hL rfl (Wants.free rfl) rfl (Rd.move (v := .slice all1 all1n all1c) rfl) ?_
    refine LW.rd hL rfl (Wants.free rfl) rfl (Rd.move (v := .int .i64 n1) rfl) ?_
    refine LW.rd hL rfl (Wants.free rfl) rfl (Rd.iaS (q := a1) (sz := 3) (by rw [← he1]; rfl) rfl Tryd.underlying74 (by kernel_rfl) hi1 hi2) ?_
    refine LW.rd hL rfl (Wants.free rfl) rfl (Rd.fa (v := .pointer (some (a1.add (Int.toNat n1 * 3)))) rfl (fun _ => by kernel_rfl)) ?_
    obtain ⟨t4, t5, hc3, h⟩ := h
    refine LW.rd hL rfl (Wants.free rfl) rfl (Rd.ldN (cs := [.int .i64 t4, .int .i64 t5]) rfl (by kernel_rfl) (by kernel_rfl) (cellsS hc3)) ?_
    refine LW.call hL rfl (Wants.free rfl) rfl (Cl.fn (f := 28) rfl Tryd.func28 (by kernel_rfl) rfl) h (fun e w7 h_ => ?_)
    clear h
    obtain ⟨r3, r3n, r3c, rfl, h⟩ := h_
    refine ⟨_, rfl, ?_⟩
    refine LW.rd hL rfl (Wants.free rfl) rfl (Rd.assign (v := .slice r3 r3n r3c) rfl) ?_
    refine LW.nil hL rfl ?_
    refine NW.then ?_
    refine CW.exit ?_
    refine XW.then ?_
    refine XW.hit ?_
    exact NW.cut (S := (Option Addr) × Nat × Nat × (Option Addr) × Nat × Nat) (Ek := fun s2 => [(0, .slice l1 l1n l1c), (6, .slice none 0 0), (9, .int .i64 n1), (7, .slice s2.1 s2.2.1 s2.2.2.1), (8, .slice s2.2.2.2.1 s2.2.2.2.2.1 s2.2.2.2.2.2)]) (all1, all1n, all1c, r3, r3n, r3c) (by exact ⟨rfl, rfl, rfl, rfl, rfl, trivial⟩) h
   ·replace h := h.2 hb2
    refine CW.skip ?_
    refine NW.then ?_
    refine CW.seq ?_
    refine CW.region fun L hL => ?_
    refine LW.rd hL rfl (Wants.free rfl) rfl (Rd.assign (v := .int .i64 0) rfl) ?_
    refine LW.nil hL rfl ?_
    refine NW.then ?_
    refine CW.block ?_
    obtain ⟨I2, m2, hI2, h⟩ := h
    refine CW.loop (S := (Option Addr) × Nat × Nat × Int) (fun s3 => [(0, .slice l1 l1n l1c), (6, .slice none 0 0), (8, .slice out1 out1n out1c), (9, .int .i64 n1), (10, .int .i64 r2), (7, .slice s3.1 s3.2.1 s3.2.2.1), (11, .int .i64 s3.2.2.2)]) (fun s3 w8 => I2 s3.1 s3.2.1 s3.2.2.1 s3.2.2.2 w8) (fun s3 w8 => m2 s3.1 s3.2.1 s3.2.2.1 s3.2.2.2 w8) (all1, all1n, all1c, 0) (by exact ⟨rfl, rfl, rfl, rfl, rfl, rfl, rfl, trivial⟩) hI2 (fun s3 w8 hI2 => ?_)
    obtain ⟨all3, all3n, all3c, k1⟩ := s3; replace h := h all3 all3n all3c k1 w8 hI2
    refine CW.seq ?_
    refine CW.seq ?_
    refine CW.region fun L hL => ?_
    refine LW.rd hL rfl (Wants.free rfl) rfl (Rd.move (v := .int .i64 k1) rfl) ?_
    refine LW.rd hL rfl (Wants.free rfl) rfl (Rd.move (v := .slice l1 l1n l1c) rfl) ?_
    refine LW.rd hL rfl (Wants.free rfl) rfl (Rd.move (v := .int .i64 r2) rfl) ?_
    obtain ⟨a2, he2, hi7, hi8, h⟩ := h
    refine LW.rd hL rfl (Wants.free rfl) rfl (Rd.iaS (q := a2) (sz := 4) (by rw [← he2]; rfl) rfl Tryd.underlying39 (by kernel_rfl) hi7 hi8) ?_
    refine LW.rd hL rfl (Wants.free rfl) rfl (Rd.fa (v := .pointer (some ((a2.add (Int.toNat r2 * 4)).add 3))) rfl (fun _ => by kernel_rfl)) ?_
    obtain ⟨t6, t6n, t6c, hc4, h⟩ := h
    refine LW.rd hL rfl (Wants.free rfl) rfl (Rd.ld (v := .slice t6 t6n t6c) rfl (by kernel_rfl) (eqs hc4)) ?_
    refine LW.rd hL rfl (Wants.free rfl) rfl (Rd.builtin (v := .int .i64 (t6n : Int)) rfl (fun _ _ => by kernel_rfl)) ?_
    refine LW.rd hL rfl (Wants.free rfl) rfl (Rd.bin (v := .bool (decide (k1 < (t6n : Int)))) rfl rfl (fun w => by kernel_rfl)) ?_
    refine LW.nil hL rfl ?_
    refine NW.then ?_
    refine CW.cond rfl (fun hb3 => ?_) (fun hb3 => ?_)
    ·replace h := h.1 hb3
     refine CW.skip ?_
     refine NW.then ?_
     obtain ⟨J2, hJ2, h⟩ := h
     refine CW.cut (S := (Option Addr) × Nat × Nat) (fun s4 => [(0, .slice l1 l1n l1c), (6, .slice none 0 0), (8, .slice out1 out1n out1c), (9, .int .i64 n1), (10, .int .i64 r2), (11, .int .i64 k1), (7, .slice s4.1 s4.2.1 s4.2.2)]) (fun s4 w9 => J2 s4.1 s4.2.1 s4.2.2 w9) (fun s4 w9 h_ => ?_) ?_
     ·obtain ⟨all4, all4n, all4c⟩ := s4; replace h := hJ2 all4 all4n all4c w9 h_; clear h_
      refine CW.region fun L hL => ?_
      refine LW.rd hL rfl (Wants.free rfl) rfl (Rd.move (v := .int .i64 k1) rfl) ?_
      refine LW.rd hL rfl (Wants.free rfl) rfl (Rd.bin (v := .int .i64 (IntKind.wrap .i64 (k1 + 1))) rfl rfl (fun w => by kernel_rfl)) ?_
      refine LW.rd hL rfl (Wants.free rfl) rfl (Rd.assign (v := .int .i64 (IntKind.wrap .i64 (k1 + 1))) rfl) ?_
      refine LW.nil hL rfl ?_
      exact NW.loop (S := (Option Addr) × Nat × Nat × Int) (Ek := fun s3 => [(0, .slice l1 l1n l1c), (6, .slice none 0 0), (8, .slice out1 out1n out1c), (9, .int .i64 n1), (10, .int .i64 r2), (7, .slice s3.1 s3.2.1 s3.2.2.1), (11, .int .i64 s3.2.2.2)]) (all4, all4n, all4c, IntKind.wrap .i64 (k1 + 1)) (by exact ⟨rfl, rfl, rfl, rfl, rfl, rfl, rfl, trivial⟩) h
     ·skip
      refine CW.block ?_
      refine CW.seq ?_
      obtain ⟨w10, hw_w10⟩ : ∃ x, x = World.drew w8 := ⟨_, rfl⟩
      have hc_w10 := sil_drew (Chg.refl [] w8) hw_w10
      replace h := h  w10  hc_w10
      obtain ⟨t7, t7n, t7c, hc5, h⟩ := h
      obtain ⟨a3, he3, hi11, hi12, h⟩ := h
      obtain ⟨t8, t9, hc6, h⟩ := h
      obtain ⟨t10, hc7, h⟩ := h
      refine CW.drawn (fun w => w.cell? ((a2.add (Int.toNat r2 * 4)).add 3) = some (.slice t7 t7n t7c) ∧ CellsAt w (a3.add (Int.toNat k1 * 2)) 0 [.int .i64 t8, .int .i64 t9] ∧ w.cell? (a2.add (Int.toNat r2 * 4)) = some (.int .i64 t10) ∧ True) 15 (by kernel_rfl) fun H hH => ?_
      rw [← hw_w10]
      have hS1 : w10.cell? ((a2.add (Int.toNat r2 * 4)).add 3) = some (.slice t7 t7n t7c) ∧ CellsAt w10 (a3.add (Int.toNat k1 * 2)) 0 [.int .i64 t8, .int .i64 t9] ∧ w10.cell? (a2.add (Int.toNat r2 * 4)) = some (.int .i64 t10) ∧ True := ⟨hc5, hc6, hc7, trivial⟩
      refine HW.pure (i := 0) hH rfl (by kernel_rfl) (Wants.free rfl) rfl (fun _ => hS1) (Rd.move (v := .slice l1 l1n l1c) rfl) ?_
      refine HW.pure (i := 1) hH rfl (by kernel_rfl) (Wants.free rfl) rfl (fun _ => hS1) (Rd.move (v := .int .i64 r2) rfl) ?_
      refine HW.pure (i := 2) hH rfl (by kernel_rfl) (Wants.free rfl) rfl (fun _ => hS1) (Rd.iaS (q := a2) (sz := 4) (by rw [← he2]; rfl) rfl Tryd.underlying39 (by kernel_rfl) hi7 hi8) ?_
      refine HW.pure (i := 3) hH rfl (by kernel_rfl) (Wants.free rfl) rfl (fun _ => hS1) (Rd.fa (v := .pointer (some ((a2.add (Int.toNat r2 * 4)).add 3))) rfl (fun _ => by kernel_rfl)) ?_
      refine HW.take (i := 4) hH rfl (by kernel_rfl) (by kernel_rfl) (Wants.free rfl) rfl (fun _ => hS1) (Rd.ld (v := .slice t7 t7n t7c) rfl (by kernel_rfl) (fun w h => h.1)) ?_
      refine HW.pure (i := 5) hH rfl (by kernel_rfl) (Wants.free rfl) rfl (fun _ => hS1) (Rd.move (v := .int .i64 k1) rfl) ?_
      refine HW.pure (i := 6) hH rfl (by kernel_rfl) (Wants.free rfl) rfl (fun _ => hS1) (Rd.iaS (q := a3) (sz := 2) (by rw [← he3]; rfl) rfl Tryd.underlying22 (by kernel_rfl) hi11 hi12) ?_
      refine HW.take (i := 7) hH rfl (by kernel_rfl) (by kernel_rfl) (Wants.free rfl) rfl (fun _ => hS1) (Rd.ldN (cs := [.int .i64 t8, .int .i64 t9]) rfl (by kernel_rfl) (by kernel_rfl) (fun w h => cellsAt_get h.2.1)) ?_
      refine HW.pure (i := 8) hH rfl (by kernel_rfl) (Wants.free rfl) rfl (fun _ => hS1) (Rd.move (v := .slice l1 l1n l1c) rfl) ?_
      refine HW.pure (i := 9) hH rfl (by kernel_rfl) (Wants.free rfl) rfl (fun _ => hS1) (Rd.move (v := .int .i64 r2) rfl) ?_
      refine HW.pure (i := 10) hH rfl (by kernel_rfl) (Wants.free rfl) rfl (fun _ => hS1) (Rd.iaS (q := a2) (sz := 4) (by rw [← he2]; rfl) rfl Tryd.underlying39 (by kernel_rfl) hi7 hi8) ?_
      refine HW.pure (i := 11) hH rfl (by kernel_rfl) (Wants.free rfl) rfl (fun _ => hS1) (Rd.fa (v := .pointer (some (a2.add (Int.toNat r2 * 4)))) rfl (fun _ => by kernel_rfl)) ?_
      refine HW.take (i := 12) hH rfl (by kernel_rfl) (by kernel_rfl) (Wants.free rfl) rfl (fun _ => hS1) (Rd.ld (v := .int .i64 t10) rfl (by kernel_rfl) (fun w h => h.2.2.1)) ?_
      refine HW.pure (i := 13) hH rfl (by kernel_rfl) (Wants.free rfl) rfl (fun _ => hS1) (Rd.build (v := .agg #[.int .i64 t8, .int .i64 t9, .int .i64 t10]) rfl (fun _ => by kernel_rfl)) ?_
      obtain ⟨b3, hb_b3⟩ : ∃ b3, b3 = World.size w10 := ⟨_, rfl⟩
      obtain ⟨w11, hw_w11⟩ : ∃ w11, w11 = World.alloc w10 (.cells #[.int .i64 0, .int .i64 0, .int .i64 0] 73) := ⟨_, rfl⟩
      have hS2 := (⟨cellAlloc hw_w11 hS1.1, cellsAlloc hw_w11 hS1.2.1, cellAlloc hw_w11 hS1.2.2.1, trivial⟩ : w11.cell? ((a2.add (Int.toNat r2 * 4)).add 3) = some (.slice t7 t7n t7c) ∧ CellsAt w11 (a3.add (Int.toNat k1 * 2)) 0 [.int .i64 t8, .int .i64 t9] ∧ w11.cell? (a2.add (Int.toNat r2 * 4)) = some (.int .i64 t10) ∧ True)
      refine HW.val (i := 14) hH (by kernel_rfl) rfl (Wants.free rfl) rfl (boxE hb_b3 hw_w11 (Vl.alloc (z := .agg #[.int .i64 0, .int .i64 0, .int .i64 0]) (by kernel_rfl))) (fun _ => hS2) ?_
      have hB := Boxes.alloc (cs := [.int .i64 0, .int .i64 0, .int .i64 0]) (T := 73) (Boxes.nil w10) hb_b3 hw_w11
      have hlo_b3 := sil_lo (Chg.refl [] w10) hb_b3
      have hc_w11 := sil_alloc (Chg.refl [] w10) hw_w11
      obtain ⟨w12, hw_w12⟩ : ∃ x, x = setCells w11 (⟨b3, 0, none⟩ : Addr) 0 [.int .i64 t8, .int .i64 t9, .int .i64 t10] := ⟨_, rfl⟩
      refine HW.eff (i := 15) hH (by kernel_rfl) rfl (Wants.free rfl) rfl (stNE hw_w12 (Ef.stN (cs := [.int .i64 t8, .int .i64 t9, .int .i64 t10]) rfl rfl (by kernel_rfl) (List.forall_mem_cons.2 ⟨rfl, (List.forall_mem_cons.2 ⟨rfl, (List.forall_mem_cons.2 ⟨rfl, (List.forall_mem_nil _)⟩)⟩)⟩) (has_of (hB.at (i := 0) rfl) (by simp)) (free_of' (hB.at (i := 0) rfl)))) (fun hc => by cases hc) ?_
      replace hB : Boxes w12 [(b3, [.int .i64 t8, .int .i64 t9, .int .i64 t10], 73)] := Boxes.store (vs := [.int .i64 t8, .int .i64 t9, .int .i64 t10]) (i := 0) (o := 0) hB rfl rfl rfl rfl hw_w12
      have hc_w12 := sil_new hc_w11 (sil_cN hw_w12) hlo_b3
      refine HW.done hH (by kernel_rfl) ?_
      refine NW.then ?_
      refine CW.seq ?_
      refine CW.region fun L hL => ?_
      refine LW.rd hL rfl (Wants.free rfl) rfl (Rd.assign (v := .bool false) rfl) ?_
      refine LW.nil hL rfl ?_
      refine NW.then ?_
      refine CW.seq ?_
      refine CW.seq ?_
      refine CW.region fun L hL => ?_
      refine LW.rd hL rfl (Wants.free rfl) rfl (Rd.assign (v := .int .i64 0) rfl) ?_
      refine LW.nil hL rfl ?_
      refine NW.then ?_
      refine CW.block ?_
      replace h := h b3 w12 ⟨hlo_b3, lt_of_heap (hB.at (i := 0) rfl)⟩ hc_w12
      obtain ⟨I3, m3, hI3, h⟩ := h
      refine CW.loop (S := Bool × Int) (fun s5 => [(0, .slice l1 l1n l1c), (6, .slice none 0 0), (7, .slice all3 all3n all3c), (8, .slice out1 out1n out1c), (9, .int .i64 n1), (10, .int .i64 r2), (11, .int .i64 k1), (12, .pointer (some (⟨b3, 0, none⟩ : Addr))), (13, .bool s5.1), (14, .int .i64 s5.2)]) (fun s5 w13 => I3 s5.1 s5.2 w13 ∧ Boxes w13 [(b3, [.int .i64 t8, .int .i64 t9, .int .i64 t10], 73)]) (fun s5 w13 => m3 s5.1 s5.2 w13) (false, 0) (by exact ⟨rfl, rfl, rfl, rfl, rfl, rfl, rfl, rfl, rfl, rfl, trivial⟩) ⟨hI3, hB⟩ (fun s5 w13 hI3 => ?_)
      obtain ⟨hI3, hB⟩ := hI3
      obtain ⟨there1, mv1⟩ := s5; replace h := h there1 mv1 w13 hI3
      refine CW.seq ?_
      refine CW.seq ?_
      refine CW.region fun L hL => ?_
      refine LW.rd hL rfl (Wants.free rfl) rfl (Rd.move (v := .int .i64 mv1) rfl) ?_
      refine LW.rd hL rfl (Wants.free rfl) rfl (Rd.move (v := .slice all3 all3n all3c) rfl) ?_
      refine LW.rd hL rfl (Wants.free rfl) rfl (Rd.builtin (v := .int .i64 (all3n : Int)) rfl (fun _ _ => by kernel_rfl)) ?_
      refine LW.rd hL rfl (Wants.free rfl) rfl (Rd.bin (v := .bool (decide (mv1 < (all3n : Int)))) rfl rfl (fun w => by kernel_rfl)) ?_
      refine LW.nil hL rfl ?_
      refine NW.then ?_
      refine CW.cond rfl (fun hb4 => ?_) (fun hb4 => ?_)
      ·replace h := h.1 hb4
       refine CW.skip ?_
       refine NW.then ?_
       refine CW.seq ?_
       refine CW.block ?_
       obtain ⟨w14, hw_w14⟩ : ∃ x, x = World.drew w13 := ⟨_, rfl⟩
       have hc_w14 := sil_drew (Chg.refl [] w13) hw_w14
       replace hB := hB.drew hw_w14
       refine CW.drawn (fun w => w = w14) 10 (by kernel_rfl) fun H hH => ?_
       rw [← hw_w14]
       refine HW.pure (i := 0) hH rfl (by kernel_rfl) (Wants.free rfl) rfl (fun _ => rfl) (Rd.move (v := .bool there1) rfl) ?_
       refine HW.pure (i := 1) hH rfl (by kernel_rfl) (Wants.free rfl) rfl (fun _ => rfl) (Rd.move (v := .bool there1) rfl) ?_
       replace h := h  w14  hc_w14
       obtain ⟨J3, hJ3, h1_J3, h0_J3⟩ := h
       suffices K1 : ∀ (b4 : Bool) (w15 : World), (w15 = w14) → Boxes w15 [(b3, [.int .i64 t8, .int .i64 t9, .int .i64 t10], 73)] → J3 b4 w15 → H 1 #[true, true, true, true, true, true, true, true, true, false] [(0, .slice l1 l1n l1c), (6, .slice none 0 0), (7, .slice all3 all3n all3c), (8, .slice out1 out1n out1c), (9, .int .i64 n1), (10, .int .i64 r2), (11, .int .i64 k1), (12, .pointer (some (⟨b3, 0, none⟩ : Addr))), (13, .bool there1), (14, .int .i64 mv1), (84, .bool b4)] w15 by
        rcases Bool.eq_false_or_eq_true there1 with hb5 | hb5
        ·have h := h0_J3 hb5
         refine HW.skip (i := 2) hH rfl (by kernel_rfl) (Skips.on rfl rfl rfl rfl rfl hb5) rfl (fun _ => rfl) ?_
         refine HW.skip (i := 3) hH rfl (by kernel_rfl) (Skips.on rfl rfl rfl rfl rfl hb5) rfl (fun _ => rfl) ?_
         refine HW.skip (i := 4) hH rfl (by kernel_rfl) (Skips.on rfl rfl rfl rfl rfl hb5) rfl (fun _ => rfl) ?_
         refine HW.skip (i := 5) hH rfl (by kernel_rfl) (Skips.on rfl rfl rfl rfl rfl hb5) rfl (fun _ => rfl) ?_
         refine HW.skip (i := 6) hH rfl (by kernel_rfl) (Skips.on rfl rfl rfl rfl rfl hb5) rfl (fun _ => rfl) ?_
         refine HW.skip (i := 7) hH rfl (by kernel_rfl) (Skips.on rfl rfl rfl rfl rfl hb5) rfl (fun _ => rfl) ?_
         refine HW.pure (i := 8) hH rfl (by kernel_rfl) (Wants.free rfl) rfl (fun _ => rfl) (Rd.pickT rfl hb5 rfl) ?_
         exact HW.sub hH (by exact ⟨rfl, rfl, rfl, rfl, rfl, rfl, rfl, rfl, rfl, rfl, rfl, trivial⟩) (K1 true w14 rfl (by exact hB) h)
        ·have h := h1_J3 hb5
         refine HW.pure (i := 2) hH rfl (by kernel_rfl) (Wants.on rfl rfl rfl rfl rfl hb5) rfl (fun _ => rfl) (Rd.move (v := .slice all3 all3n all3c) rfl) ?_
         refine HW.pure (i := 3) hH rfl (by kernel_rfl) (Wants.on rfl rfl rfl rfl rfl hb5) rfl (fun _ => rfl) (Rd.move (v := .int .i64 mv1) rfl) ?_
         obtain ⟨a4, he4, hi15, hi16, h⟩ := h
         refine HW.pure (i := 4) hH rfl (by kernel_rfl) (Wants.on rfl rfl rfl rfl rfl hb5) rfl (fun _ => rfl) (Rd.iaS (q := a4) (sz := 3) (by rw [← he4]; rfl) rfl Tryd.underlying74 (by kernel_rfl) hi15 hi16) ?_
         obtain ⟨t11, t12, t13, hc8, h⟩ := h
         refine HW.take (i := 5) hH rfl (by kernel_rfl) (by kernel_rfl) (Wants.on rfl rfl rfl rfl rfl hb5) rfl (fun _ => rfl) (Rd.ldN (cs := [.int .i64 t11, .int .i64 t12, .int .i64 t13]) rfl (by kernel_rfl) (by kernel_rfl) (cellsS hc8)) ?_
         refine HW.take (i := 6) hH rfl (by kernel_rfl) (by kernel_rfl) (Wants.on rfl rfl rfl rfl rfl hb5) rfl (fun _ => rfl) (Rd.ldN (cs := [.int .i64 t8, .int .i64 t9, .int .i64 t10]) rfl (by kernel_rfl) (by kernel_rfl) (cellsS (box_cells (hB.at (i := 0) rfl) rfl))) ?_
         refine HW.pure (i := 7) hH rfl (by kernel_rfl) (Wants.on rfl rfl rfl rfl rfl hb5) rfl (fun _ => rfl) (Rd.bin (v := .bool ((t11 == t8) && (t12 == t9) && (t13 == t10))) rfl rfl (fun w => eqS_73 _ _ _ _ _ _ w)) ?_
         refine HW.pure (i := 8) hH rfl (by kernel_rfl) (Wants.free rfl) rfl (fun _ => rfl) (Rd.pickF rfl hb5 rfl) ?_
         exact HW.sub hH (by exact ⟨rfl, rfl, rfl, rfl, rfl, rfl, rfl, rfl, rfl, rfl, rfl, trivial⟩) (K1 ((t11 == t8) && (t12 == t9) && (t13 == t10)) w14 rfl (by exact hB) h)
       clear hB
       intro b4 w15 hS3 hB h_
       subst hS3
       have h := hJ3 b4 _ h_; clear h_
       refine HW.pure (i := 9) hH rfl (by kernel_rfl) (Wants.free rfl) rfl (fun _ => rfl) (Rd.assign (v := .bool b4) rfl) ?_
       refine HW.done hH (by kernel_rfl) ?_
       refine NW.block ?_
       refine NW.then ?_
       refine CW.region fun L hL => ?_
       refine LW.rd hL rfl (Wants.free rfl) rfl (Rd.move (v := .int .i64 mv1) rfl) ?_
       refine LW.rd hL rfl (Wants.free rfl) rfl (Rd.bin (v := .int .i64 (IntKind.wrap .i64 (mv1 + 1))) rfl rfl (fun w => by kernel_rfl)) ?_
       refine LW.rd hL rfl (Wants.free rfl) rfl (Rd.assign (v := .int .i64 (IntKind.wrap .i64 (mv1 + 1))) rfl) ?_
       refine LW.nil hL rfl ?_
       exact NW.loop (S := Bool × Int) (Ek := fun s5 => [(0, .slice l1 l1n l1c), (6, .slice none 0 0), (7, .slice all3 all3n all3c), (8, .slice out1 out1n out1c), (9, .int .i64 n1), (10, .int .i64 r2), (11, .int .i64 k1), (12, .pointer (some (⟨b3, 0, none⟩ : Addr))), (13, .bool s5.1), (14, .int .i64 s5.2)]) (b4, IntKind.wrap .i64 (mv1 + 1)) (by exact ⟨rfl, rfl, rfl, rfl, rfl, rfl, rfl, rfl, rfl, rfl, trivial⟩) ⟨⟨h.1, hB⟩, h.2⟩
      ·replace h := h.2 hb4
       refine CW.exit ?_
       refine XW.then ?_
       refine XW.then ?_
       refine XW.hit ?_
       refine NW.then ?_
       refine CW.seq ?_
       refine CW.region fun L hL => ?_
       refine LW.rd hL rfl (Wants.free rfl) rfl (Rd.move (v := .bool there1) rfl) ?_
       refine LW.rd hL rfl (Wants.free rfl) rfl (Rd.un (v := .bool (!there1)) rfl (fun _ => by kernel_rfl)) ?_
       refine LW.nil hL rfl ?_
       refine NW.then ?_
       refine CW.cond rfl (fun hb6 => ?_) (fun hb6 => ?_)
       ·replace h := h.1 hb6
        refine CW.region fun L hL => ?_
        refine LW.rd hL rfl (Wants.free rfl) rfl (Rd.move (v := .slice all3 all3n all3c) rfl) ?_
        refine LW.rd hL rfl (Wants.free rfl) rfl (Rd.ldN (cs := [.int .i64 t8, .int .i64 t9, .int .i64 t10]) rfl (by kernel_rfl) (by kernel_rfl) (cellsS (box_cells (hB.at (i := 0) rfl) rfl))) ?_
        obtain ⟨b5, hb_b5⟩ : ∃ b5, b5 = World.size w13 := ⟨_, rfl⟩
        obtain ⟨w16, hw_w16⟩ : ∃ w16, w16 = World.alloc w13 (.cells #[.int .i64 t8, .int .i64 t9, .int .i64 t10] 73) := ⟨_, rfl⟩
        replace h := h b5 hb_b5 w16 hw_w16
        refine LW.val hL rfl (Wants.free rfl) rfl (sliceE (n := 1) hb_b5 hw_w16 (fun w => Vl.buildSlice (vs := [(0, .agg #[.int .i64 t8, .int .i64 t9, .int .i64 t10])]) rfl (by kernel_rfl))) ?_
        replace hB := hB.grow hw_w16
        obtain ⟨l2, l2n, l2c, w17, ha1, h⟩ := h
        refine LW.val hL rfl (Wants.free rfl) rfl (Vl.builtin (v := .slice l2 l2n l2c) rfl (valB ha1)) ?_
        refine LW.rd hL rfl (Wants.free rfl) rfl (Rd.assign (v := .slice l2 l2n l2c) rfl) ?_
        refine LW.nil hL rfl ?_
        refine NW.block ?_
        exact NW.cut (S := (Option Addr) × Nat × Nat) (Ek := fun s4 => [(0, .slice l1 l1n l1c), (6, .slice none 0 0), (8, .slice out1 out1n out1c), (9, .int .i64 n1), (10, .int .i64 r2), (11, .int .i64 k1), (7, .slice s4.1 s4.2.1 s4.2.2)]) (l2, l2n, l2c) (by exact ⟨rfl, rfl, rfl, rfl, rfl, rfl, rfl, trivial⟩) h
       ·replace h := h.2 hb6
        refine CW.skip ?_
        refine NW.block ?_
        exact NW.cut (S := (Option Addr) × Nat × Nat) (Ek := fun s4 => [(0, .slice l1 l1n l1c), (6, .slice none 0 0), (8, .slice out1 out1n out1c), (9, .int .i64 n1), (10, .int .i64 r2), (11, .int .i64 k1), (7, .slice s4.1 s4.2.1 s4.2.2)]) (all3, all3n, all3c) (by exact ⟨rfl, rfl, rfl, rfl, rfl, rfl, rfl, trivial⟩) h
    ·replace h := h.2 hb3
     refine CW.exit ?_
     refine XW.then ?_
     refine XW.then ?_
     refine XW.hit ?_
     refine NW.block ?_
     exact NW.cut (S := (Option Addr) × Nat × Nat × (Option Addr) × Nat × Nat) (Ek := fun s2 => [(0, .slice l1 l1n l1c), (6, .slice none 0 0), (9, .int .i64 n1), (7, .slice s2.1 s2.2.1 s2.2.2.1), (8, .slice s2.2.2.2.1 s2.2.2.2.2.1 s2.2.2.2.2.2)]) (all3, all3n, all3c, out1, out1n, out1c) (by exact ⟨rfl, rfl, rfl, rfl, rfl, trivial⟩) h
 ·replace h := h.2 hb1
  refine CW.exit ?_
  refine XW.then ?_
  refine XW.then ?_
  refine XW.hit ?_
  refine NW.then ?_
  refine CW.seq ?_
  refine CW.region fun L hL => ?_
  refine LW.rd hL rfl (Wants.free rfl) rfl (Rd.move (v := .slice out1 out1n out1c) rfl) ?_
  refine LW.rd hL rfl (Wants.free rfl) rfl (Rd.assign (v := .slice out1 out1n out1c) rfl) ?_
  refine LW.nil hL rfl ?_
  refine NW.then ?_
  refine CW.ret ?_
  exact res1 rfl rfl ⟨out1, out1n, out1c, rfl, h⟩
/- pomander/pomanderref12.Last -/
def W_pomanderref12_Last (l1 : Option Addr) (l1n : Nat) (l1c : Nat) (p1 : Int) (p2 : Int) (step1 : Int) (w : World) (R : Int → World → Prop) : Prop :=
 ∀ (b1 : Nat) (w1 : World), (w.heap.size ≤ b1 ∧ b1 < w1.heap.size) → Chg [] w w1 → (∃ (I1 : Int → Int → World → Prop) (m1 : Int → Int → World → Nat), I1 0 (IntKind.wrap .i64 ((l1n : Int) - 1)) w1 ∧ ∀ (x1 : Int) (i1 : Int) (w2 : World), I1 x1 i1 w2 → ((decide (i1 ≥ 0)) = true → ∃ a1 : Addr, l1 = some a1 ∧ (0 : Int) ≤ i1 ∧ i1 < (l1n : Int) ∧ (∀ (w3 : World), Chg [] w2 w3 → (∃ (t1 : Int) (t2 : Int), CellsAt w3 ((a1.add (Int.toNat i1 * 4)).add 1) 0 [.int .i64 t1, .int .i64 t2] ∧ (∃ J1 : Bool → World → Prop, (∀ (b2 : Bool) (w4 : World), J1 b2 w4 → (b2 = true → R i1 w4) ∧ (b2 = false → (I1 x1 (IntKind.wrap .i64 (i1 - 1)) w4 ∧ m1 x1 (IntKind.wrap .i64 (i1 - 1)) w4 < m1 x1 i1 w2))) ∧ ((((t1 == p1) && (t2 == p2)) = true → ∃ (t3 : Int), w3.cell? (a1.add (Int.toNat i1 * 4)) = some (.int .i64 t3) ∧ (J1 (decide (t3 < step1)) w3)) ∧ (((t1 == p1) && (t2 == p2)) = false → J1 false w3)))))) ∧ ((decide (i1 ≥ 0)) = false → R (-1) w2))
set_option maxRecDepth 100000 in
theorem go_pomanderref12_Last (l1 : Option Addr) (l1n : Nat) (l1c : Nat) (p1 : Int) (p2 : Int) (step1 : Int) (w : World) (R : Int → World → Prop) (h : W_pomanderref12_Last l1 l1n l1c p1 p2 step1 w R) : Calls Tryd.prog 18 #[.slice l1 l1n l1c, .agg #[.int .i64 p1, .int .i64 p2], .int .i64 step1] w (fun e w' => ∃ (r1 : Int), e = .returned (.int .i64 r1) ∧ R r1 w') := by
 unfold W_pomanderref12_Last at h
 refine enter (N := 32) Tryd.func18 rfl rfl ?_
 refine CW.seq ?_
 refine CW.region fun L hL => ?_
 obtain ⟨b1, hb_b1⟩ : ∃ b1, b1 = World.size w := ⟨_, rfl⟩
 obtain ⟨w1, hw_w1⟩ : ∃ w1, w1 = World.alloc w (.cells #[.int .i64 p1, .int .i64 p2] 27) := ⟨_, rfl⟩
 refine LW.val hL rfl (Wants.free rfl) rfl (boxE hb_b1 hw_w1 (Vl.box (v := .agg #[.int .i64 p1, .int .i64 p2]) rfl)) ?_
 have hB := Boxes.alloc (cs := [.int .i64 p1, .int .i64 p2]) (T := 27) (Boxes.nil w) hb_b1 hw_w1
 have hlo_b1 := sil_lo (Chg.refl [] w) hb_b1
 have hc_w1 := sil_alloc (Chg.refl [] w) hw_w1
 refine LW.rd hL rfl (Wants.free rfl) rfl (Rd.assign (v := .int .i64 0) rfl) ?_
 refine LW.nil hL rfl ?_
 refine NW.then ?_
 refine CW.seq ?_
 refine CW.seq ?_
 refine CW.region fun L hL => ?_
 refine LW.rd hL rfl (Wants.free rfl) rfl (Rd.move (v := .slice l1 l1n l1c) rfl) ?_
 refine LW.rd hL rfl (Wants.free rfl) rfl (Rd.builtin (v := .int .i64 (l1n : Int)) rfl (fun _ _ => by kernel_rfl)) ?_
 refine LW.rd hL rfl (Wants.free rfl) rfl (Rd.bin (v := .int .i64 (IntKind.wrap .i64 ((l1n : Int) - 1))) rfl rfl (fun w => by kernel_rfl)) ?_
 refine LW.rd hL rfl (Wants.free rfl) rfl (Rd.assign (v := .int .i64 (IntKind.wrap .i64 ((l1n : Int) - 1))) rfl) ?_
 refine LW.nil hL rfl ?_
 refine NW.then ?_
 refine CW.block ?_
 replace h := h b1 w1 ⟨hlo_b1, lt_of_heap (hB.at (i := 0) rfl)⟩ hc_w1
 obtain ⟨I1, m1, hI1, h⟩ := h
 refine CW.loop (S := Int × Int) (fun s1 => [(0, .slice l1 l1n l1c), (2, .int .i64 step1), (4, .pointer (some (⟨b1, 0, none⟩ : Addr))), (6, .int .i64 s1.1), (7, .int .i64 s1.2)]) (fun s1 w2 => I1 s1.1 s1.2 w2 ∧ Boxes w2 [(b1, [.int .i64 p1, .int .i64 p2], 27)]) (fun s1 w2 => m1 s1.1 s1.2 w2) (0, IntKind.wrap .i64 ((l1n : Int) - 1)) (by exact ⟨rfl, rfl, rfl, rfl, rfl, trivial⟩) ⟨hI1, hB⟩ (fun s1 w2 hI1 => ?_)
 obtain ⟨hI1, hB⟩ := hI1
 obtain ⟨x1, i1⟩ := s1; replace h := h x1 i1 w2 hI1
 refine CW.seq ?_
 refine CW.seq ?_
 refine CW.region fun L hL => ?_
 refine LW.rd hL rfl (Wants.free rfl) rfl (Rd.move (v := .int .i64 i1) rfl) ?_
 refine LW.rd hL rfl (Wants.free rfl) rfl (Rd.bin (v := .bool (decide (i1 ≥ 0))) rfl rfl (fun w => by kernel_rfl)) ?_
 refine LW.nil hL rfl ?_
 refine NW.then ?_
 refine CW.cond rfl (fun hb1 => ?_) (fun hb1 => ?_)
 ·replace h := h.1 hb1
  refine CW.skip ?_
  refine NW.then ?_
  refine CW.seq ?_
  refine CW.block ?_
  refine CW.seq ?_
  obtain ⟨w3, hw_w3⟩ : ∃ x, x = World.drew w2 := ⟨_, rfl⟩
  have hc_w3 := sil_drew (Chg.refl [] w2) hw_w3
  replace hB := hB.drew hw_w3
  refine CW.drawn (fun w => w = w3) 16 (by kernel_rfl) fun H hH => ?_
  rw [← hw_w3]
  refine HW.pure (i := 0) hH rfl (by kernel_rfl) (Wants.free rfl) rfl (fun _ => rfl) (Rd.move (v := .slice l1 l1n l1c) rfl) ?_
  refine HW.pure (i := 1) hH rfl (by kernel_rfl) (Wants.free rfl) rfl (fun _ => rfl) (Rd.move (v := .int .i64 i1) rfl) ?_
  obtain ⟨a1, he1, hi1, hi2, h⟩ := h
  refine HW.pure (i := 2) hH rfl (by kernel_rfl) (Wants.free rfl) rfl (fun _ => rfl) (Rd.iaS (q := a1) (sz := 4) (by rw [← he1]; rfl) rfl Tryd.underlying39 (by kernel_rfl) hi1 hi2) ?_
  refine HW.pure (i := 3) hH rfl (by kernel_rfl) (Wants.free rfl) rfl (fun _ => rfl) (Rd.fa (v := .pointer (some ((a1.add (Int.toNat i1 * 4)).add 1))) rfl (fun _ => by kernel_rfl)) ?_
  replace h := h  w3  hc_w3
  obtain ⟨t1, t2, hc1, h⟩ := h
  refine HW.take (i := 4) hH rfl (by kernel_rfl) (by kernel_rfl) (Wants.free rfl) rfl (fun _ => rfl) (Rd.ldN (cs := [.int .i64 t1, .int .i64 t2]) rfl (by kernel_rfl) (by kernel_rfl) (cellsS hc1)) ?_
  refine HW.take (i := 5) hH rfl (by kernel_rfl) (by kernel_rfl) (Wants.free rfl) rfl (fun _ => rfl) (Rd.ldN (cs := [.int .i64 p1, .int .i64 p2]) rfl (by kernel_rfl) (by kernel_rfl) (cellsS (box_cells (hB.at (i := 0) rfl) rfl))) ?_
  refine HW.pure (i := 6) hH rfl (by kernel_rfl) (Wants.free rfl) rfl (fun _ => rfl) (Rd.bin (v := .bool ((t1 == p1) && (t2 == p2))) rfl rfl (fun w => eqS_27 _ _ _ _ w)) ?_
  refine HW.pure (i := 7) hH rfl (by kernel_rfl) (Wants.free rfl) rfl (fun _ => rfl) (Rd.move (v := .bool ((t1 == p1) && (t2 == p2))) rfl) ?_
  obtain ⟨J1, hJ1, h1_J1, h0_J1⟩ := h
  suffices K1 : ∀ (b2 : Bool) (w4 : World), (w4 = w3) → Boxes w4 [(b1, [.int .i64 p1, .int .i64 p2], 27)] → J1 b2 w4 → H 0 #[true, true, true, true, true, true, true, true, true, true, true, true, true, true, true, true] [(0, .slice l1 l1n l1c), (2, .int .i64 step1), (4, .pointer (some (⟨b1, 0, none⟩ : Addr))), (6, .int .i64 x1), (7, .int .i64 i1), (30, .bool b2)] w4 by
   rcases Bool.eq_false_or_eq_true ((t1 == p1) && (t2 == p2)) with hb2 | hb2
   ·have h := h1_J1 hb2
    refine HW.pure (i := 8) hH rfl (by kernel_rfl) (Wants.on rfl rfl rfl rfl rfl hb2) rfl (fun _ => rfl) (Rd.move (v := .slice l1 l1n l1c) rfl) ?_
    refine HW.pure (i := 9) hH rfl (by kernel_rfl) (Wants.on rfl rfl rfl rfl rfl hb2) rfl (fun _ => rfl) (Rd.move (v := .int .i64 i1) rfl) ?_
    refine HW.pure (i := 10) hH rfl (by kernel_rfl) (Wants.on rfl rfl rfl rfl rfl hb2) rfl (fun _ => rfl) (Rd.iaS (q := a1) (sz := 4) (by rw [← he1]; rfl) rfl Tryd.underlying39 (by kernel_rfl) hi1 hi2) ?_
    refine HW.pure (i := 11) hH rfl (by kernel_rfl) (Wants.on rfl rfl rfl rfl rfl hb2) rfl (fun _ => rfl) (Rd.fa (v := .pointer (some (a1.add (Int.toNat i1 * 4)))) rfl (fun _ => by kernel_rfl)) ?_
    obtain ⟨t3, hc2, h⟩ := h
    refine HW.take (i := 12) hH rfl (by kernel_rfl) (by kernel_rfl) (Wants.on rfl rfl rfl rfl rfl hb2) rfl (fun _ => rfl) (Rd.ld (v := .int .i64 t3) rfl (by kernel_rfl) (eqs hc2)) ?_
    refine HW.pure (i := 13) hH rfl (by kernel_rfl) (Wants.on rfl rfl rfl rfl rfl hb2) rfl (fun _ => rfl) (Rd.move (v := .int .i64 step1) rfl) ?_
    refine HW.pure (i := 14) hH rfl (by kernel_rfl) (Wants.on rfl rfl rfl rfl rfl hb2) rfl (fun _ => rfl) (Rd.bin (v := .bool (decide (t3 < step1))) rfl rfl (fun w => by kernel_rfl)) ?_
    refine HW.pure (i := 15) hH rfl (by kernel_rfl) (Wants.free rfl) rfl (fun _ => rfl) (Rd.pickT rfl hb2 rfl) ?_
    exact HW.sub hH (by exact ⟨rfl, rfl, rfl, rfl, rfl, rfl, trivial⟩) (K1 (decide (t3 < step1)) w3 rfl (by exact hB) h)
   ·have h := h0_J1 hb2
    refine HW.skip (i := 8) hH rfl (by kernel_rfl) (Skips.on rfl rfl rfl rfl rfl hb2) rfl (fun _ => rfl) ?_
    refine HW.skip (i := 9) hH rfl (by kernel_rfl) (Skips.on rfl rfl rfl rfl rfl hb2) rfl (fun _ => rfl) ?_
    refine HW.skip (i := 10) hH rfl (by kernel_rfl) (Skips.on rfl rfl rfl rfl rfl hb2) rfl (fun _ => rfl) ?_
    refine HW.skip (i := 11) hH rfl (by kernel_rfl) (Skips.on rfl rfl rfl rfl rfl hb2) rfl (fun _ => rfl) ?_
    refine HW.skip (i := 12) hH rfl (by kernel_rfl) (Skips.on rfl rfl rfl rfl rfl hb2) rfl (fun _ => rfl) ?_
    refine HW.skip (i := 13) hH rfl (by kernel_rfl) (Skips.on rfl rfl rfl rfl rfl hb2) rfl (fun _ => rfl) ?_
    refine HW.skip (i := 14) hH rfl (by kernel_rfl) (Skips.on rfl rfl rfl rfl rfl hb2) rfl (fun _ => rfl) ?_
    refine HW.pure (i := 15) hH rfl (by kernel_rfl) (Wants.free rfl) rfl (fun _ => rfl) (Rd.pickF rfl hb2 rfl) ?_
    exact HW.sub hH (by exact ⟨rfl, rfl, rfl, rfl, rfl, rfl, trivial⟩) (K1 false w3 rfl (by exact hB) h)
  clear hB
  intro b2 w4 hS1 hB h_
  subst hS1
  have h := hJ1 b2 _ h_; clear h_
  refine HW.done hH (by kernel_rfl) ?_
  refine NW.then ?_
  refine CW.cond rfl (fun hb3 => ?_) (fun hb3 => ?_)
  ·replace h := h.1 hb3
   refine CW.seq ?_
   refine CW.region fun L hL => ?_
   refine LW.rd hL rfl (Wants.free rfl) rfl (Rd.move (v := .int .i64 i1) rfl) ?_
   refine LW.rd hL rfl (Wants.free rfl) rfl (Rd.assign (v := .int .i64 i1) rfl) ?_
   refine LW.nil hL rfl ?_
   refine NW.then ?_
   refine CW.ret ?_
   refine RW.block ?_
   refine RW.then ?_
   refine RW.then ?_
   refine RW.block ?_
   refine RW.then ?_
   exact res1 rfl rfl ⟨i1, rfl, h⟩
  ·replace h := h.2 hb3
   refine CW.skip ?_
   refine NW.block ?_
   refine NW.then ?_
   refine CW.region fun L hL => ?_
   refine LW.rd hL rfl (Wants.free rfl) rfl (Rd.move (v := .int .i64 i1) rfl) ?_
   refine LW.rd hL rfl (Wants.free rfl) rfl (Rd.bin (v := .int .i64 (IntKind.wrap .i64 (i1 - 1))) rfl rfl (fun w => by kernel_rfl)) ?_
   refine LW.rd hL rfl (Wants.free rfl) rfl (Rd.assign (v := .int .i64 (IntKind.wrap .i64 (i1 - 1))) rfl) ?_
   refine LW.nil hL rfl ?_
   exact NW.loop (S := Int × Int) (Ek := fun s1 => [(0, .slice l1 l1n l1c), (2, .int .i64 step1), (4, .pointer (some (⟨b1, 0, none⟩ : Addr))), (6, .int .i64 s1.1), (7, .int .i64 s1.2)]) (x1, IntKind.wrap .i64 (i1 - 1)) (by exact ⟨rfl, rfl, rfl, rfl, rfl, trivial⟩) ⟨⟨h.1, hB⟩, h.2⟩
 ·replace h := h.2 hb1
  refine CW.exit ?_
  refine XW.then ?_
  refine XW.then ?_
  refine XW.hit ?_
  refine NW.then ?_
  refine CW.seq ?_
  refine CW.region fun L hL => ?_
  refine LW.rd hL rfl (Wants.free rfl) rfl (Rd.assign (v := .int .i64 (-1)) rfl) ?_
  refine LW.nil hL rfl ?_
  refine NW.then ?_
  refine CW.ret ?_
  exact res1 rfl rfl ⟨(-1), rfl, h⟩
/- pomander/pomanderref12.with -/
def W_pomanderref12_with (l1 : Option Addr) (l1n : Nat) (l1c : Nat) (p1 : Int) (p2 : Int) (w : World) (R : (Option Addr) → Nat → Nat → World → Prop) : Prop :=
 ∀ (b1 : Nat) (w1 : World), (w.heap.size ≤ b1 ∧ b1 < w1.heap.size) → Chg [] w w1 → (∃ (I1 : (Option Addr) → Nat → Nat → (Option Addr) → Nat → Nat → Bool → Int → World → Prop) (m1 : (Option Addr) → Nat → Nat → (Option Addr) → Nat → Nat → Bool → Int → World → Nat), I1 none 0 0 none 0 0 false 0 w1 ∧ ∀ (x1 : Option Addr) (x1n : Nat) (x1c : Nat) (out1 : Option Addr) (out1n : Nat) (out1c : Nat) (put1 : Bool) (i1 : Int) (w2 : World), I1 x1 x1n x1c out1 out1n out1c put1 i1 w2 → ((decide (i1 < (l1n : Int))) = true → ∃ a1 : Addr, l1 = some a1 ∧ (0 : Int) ≤ i1 ∧ i1 < (l1n : Int) ∧ (∀ (w3 : World), Chg [] w2 w3 → (∃ (t1 : Int) (t2 : Int), CellsAt w3 (a1.add (Int.toNat i1 * 2)) 0 [.int .i64 t1, .int .i64 t2] ∧ ((((t1 == p1) && (t2 == p2)) = true → R l1 l1n l1c w3) ∧ (((t1 == p1) && (t2 == p2)) = false → ∃ J1 : (Option Addr) → Nat → Nat → Bool → World → Prop, (∀ (out2 : Option Addr) (out2n : Nat) (out2c : Nat) (put2 : Bool) (w4 : World), J1 out2 out2n out2c put2 w4 → ∃ (t3 : Int) (t4 : Int), CellsAt w4 (a1.add (Int.toNat i1 * 2)) 0 [.int .i64 t3, .int .i64 t4] ∧ (∀ b2 : Nat, b2 = World.size w4 → ∀ w5 : World, w5 = World.alloc w4 (.cells #[.int .i64 t3, .int .i64 t4] 27) → (∃ (l2 : Option Addr) (l2n : Nat) (l2c : Nat) (w6 : World), (Builtin.append_ #[22, 22] 22 #[.slice out2 out2n out2c, .slice (some (⟨b2, 0, none⟩ : Addr)) 1 1]).run Tryd.prog w5 = .ok (.slice l2 l2n l2c) w6 ∧ (Same w5 w6 [b1] ∧ ((I1 x1 x1n x1c l2 l2n l2c put2 (IntKind.wrap .i64 (i1 + 1)) w6 ∧ m1 x1 x1n x1c l2 l2n l2c put2 (IntKind.wrap .i64 (i1 + 1)) w6 < m1 x1 x1n x1c out1 out1n out1c put1 i1 w2)))))) ∧ (∀ (w7 : World), Chg [] w3 w7 → (∃ J2 : Bool → World → Prop, (∀ (b3 : Bool) (w8 : World), J2 b3 w8 → (b3 = true → ∀ b4 : Nat, b4 = World.size w8 → ∀ w10 : World, w10 = World.alloc w8 (.cells #[.int .i64 p1, .int .i64 p2] 27) → (∃ (l3 : Option Addr) (l3n : Nat) (l3c : Nat) (w11 : World), (Builtin.append_ #[22, 22] 22 #[.slice out1 out1n out1c, .slice (some (⟨b4, 0, none⟩ : Addr)) 1 1]).run Tryd.prog w10 = .ok (.slice l3 l3n l3c) w11 ∧ (Same w10 w11 [b1] ∧ (J1 l3 l3n l3c true w11)))) ∧ (b3 = false → J1 out1 out1n out1c put1 w8)) ∧ (((!put1) = true → ∃ (t5 : Int) (t6 : Int), CellsAt w7 (a1.add (Int.toNat i1 * 2)) 0 [.int .i64 t5, .int .i64 t6] ∧ (Calls Tryd.prog 38 #[.agg #[.int .i64 p1, .int .i64 p2], .agg #[.int .i64 t5, .int .i64 t6]] w7 fun e w9 => ∃ (r2 : Bool), e = .returned (.bool r2) ∧ (Same w7 w9 [b1] ∧ (J2 r2 w9)))) ∧ ((!put1) = false → J2 false w7))))))))) ∧ ((decide (i1 < (l1n : Int))) = false → ∃ J3 : (Option Addr) → Nat → Nat → World → Prop, (∀ (out3 : Option Addr) (out3n : Nat) (out3c : Nat) (w12 : World), J3 out3 out3n out3c w12 → R out3 out3n out3c w12) ∧ (((!put1) = true → ∀ b5 : Nat, b5 = World.size w2 → ∀ w13 : World, w13 = World.alloc w2 (.cells #[.int .i64 p1, .int .i64 p2] 27) → (∃ (l4 : Option Addr) (l4n : Nat) (l4c : Nat) (w14 : World), (Builtin.append_ #[22, 22] 22 #[.slice out1 out1n out1c, .slice (some (⟨b5, 0, none⟩ : Addr)) 1 1]).run Tryd.prog w13 = .ok (.slice l4 l4n l4c) w14 ∧ (J3 l4 l4n l4c w14))) ∧ ((!put1) = false → J3 out1 out1n out1c w2))))
set_option maxRecDepth 100000 in
theorem go_pomanderref12_with (l1 : Option Addr) (l1n : Nat) (l1c : Nat) (p1 : Int) (p2 : Int) (w : World) (R : (Option Addr) → Nat → Nat → World → Prop) (h : W_pomanderref12_with l1 l1n l1c p1 p2 w R) : Calls Tryd.prog 28 #[.slice l1 l1n l1c, .agg #[.int .i64 p1, .int .i64 p2]] w (fun e w' => ∃ (r1 : Option Addr) (r1n : Nat) (r1c : Nat), e = .returned (.slice r1 r1n r1c) ∧ R r1 r1n r1c w') := by
 unfold W_pomanderref12_with at h
 refine enter (N := 49) Tryd.func28 rfl rfl ?_
 refine CW.seq ?_
 refine CW.region fun L hL => ?_
 obtain ⟨b1, hb_b1⟩ : ∃ b1, b1 = World.size w := ⟨_, rfl⟩
 obtain ⟨w1, hw_w1⟩ : ∃ w1, w1 = World.alloc w (.cells #[.int .i64 p1, .int .i64 p2] 27) := ⟨_, rfl⟩
 refine LW.val hL rfl (Wants.free rfl) rfl (boxE hb_b1 hw_w1 (Vl.box (v := .agg #[.int .i64 p1, .int .i64 p2]) rfl)) ?_
 have hB := Boxes.alloc (cs := [.int .i64 p1, .int .i64 p2]) (T := 27) (Boxes.nil w) hb_b1 hw_w1
 have hlo_b1 := sil_lo (Chg.refl [] w) hb_b1
 have hc_w1 := sil_alloc (Chg.refl [] w) hw_w1
 refine LW.rd hL rfl (Wants.free rfl) rfl (Rd.assign (v := .slice none 0 0) rfl) ?_
 refine LW.nil hL rfl ?_
 refine NW.then ?_
 refine CW.seq ?_
 refine CW.region fun L hL => ?_
 refine LW.rd hL rfl (Wants.free rfl) rfl (Rd.assign (v := .slice none 0 0) rfl) ?_
 refine LW.nil hL rfl ?_
 refine NW.then ?_
 refine CW.seq ?_
 refine CW.region fun L hL => ?_
 refine LW.rd hL rfl (Wants.free rfl) rfl (Rd.assign (v := .bool false) rfl) ?_
 refine LW.nil hL rfl ?_
 refine NW.then ?_
 refine CW.seq ?_
 refine CW.seq ?_
 refine CW.region fun L hL => ?_
 refine LW.rd hL rfl (Wants.free rfl) rfl (Rd.assign (v := .int .i64 0) rfl) ?_
 refine LW.nil hL rfl ?_
 refine NW.then ?_
 refine CW.block ?_
 replace h := h b1 w1 ⟨hlo_b1, lt_of_heap (hB.at (i := 0) rfl)⟩ hc_w1
 obtain ⟨I1, m1, hI1, h⟩ := h
 refine CW.loop (S := (Option Addr) × Nat × Nat × (Option Addr) × Nat × Nat × Bool × Int) (fun s1 => [(0, .slice l1 l1n l1c), (3, .pointer (some (⟨b1, 0, none⟩ : Addr))), (4, .slice s1.1 s1.2.1 s1.2.2.1), (5, .slice s1.2.2.2.1 s1.2.2.2.2.1 s1.2.2.2.2.2.1), (6, .bool s1.2.2.2.2.2.2.1), (7, .int .i64 s1.2.2.2.2.2.2.2)]) (fun s1 w2 => I1 s1.1 s1.2.1 s1.2.2.1 s1.2.2.2.1 s1.2.2.2.2.1 s1.2.2.2.2.2.1 s1.2.2.2.2.2.2.1 s1.2.2.2.2.2.2.2 w2 ∧ Boxes w2 [(b1, [.int .i64 p1, .int .i64 p2], 27)]) (fun s1 w2 => m1 s1.1 s1.2.1 s1.2.2.1 s1.2.2.2.1 s1.2.2.2.2.1 s1.2.2.2.2.2.1 s1.2.2.2.2.2.2.1 s1.2.2.2.2.2.2.2 w2) (none, 0, 0, none, 0, 0, false, 0) (by exact ⟨rfl, rfl, rfl, rfl, rfl, rfl, trivial⟩) ⟨hI1, hB⟩ (fun s1 w2 hI1 => ?_)
 obtain ⟨hI1, hB⟩ := hI1
 obtain ⟨x1, x1n, x1c, out1, out1n, out1c, put1, i1⟩ := s1; replace h := h x1 x1n x1c out1 out1n out1c put1 i1 w2 hI1
 refine CW.seq ?_
 refine CW.seq ?_
 refine CW.region fun L hL => ?_
 refine LW.rd hL rfl (Wants.free rfl) rfl (Rd.move (v := .int .i64 i1) rfl) ?_
 refine LW.rd hL rfl (Wants.free rfl) rfl (Rd.move (v := .slice l1 l1n l1c) rfl) ?_
 refine LW.rd hL rfl (Wants.free rfl) rfl (Rd.builtin (v := .int .i64 (l1n : Int)) rfl (fun _ _ => by kernel_rfl)) ?_
 refine LW.rd hL rfl (Wants.free rfl) rfl (Rd.bin (v := .bool (decide (i1 < (l1n : Int)))) rfl rfl (fun w => by kernel_rfl)) ?_
 refine LW.nil hL rfl ?_
 refine NW.then ?_
 refine CW.cond rfl (fun hb1 => ?_) (fun hb1 => ?_)
 ·replace h := h.1 hb1
  refine CW.skip ?_
  refine NW.then ?_
  refine CW.seq ?_
  refine CW.block ?_
  refine CW.seq ?_
  refine CW.seq ?_
  obtain ⟨w3, hw_w3⟩ : ∃ x, x = World.drew w2 := ⟨_, rfl⟩
  have hc_w3 := sil_drew (Chg.refl [] w2) hw_w3
  replace hB := hB.drew hw_w3
  refine CW.drawn (fun w => w = w3) 6 (by kernel_rfl) fun H hH => ?_
  rw [← hw_w3]
  refine HW.pure (i := 0) hH rfl (by kernel_rfl) (Wants.free rfl) rfl (fun _ => rfl) (Rd.move (v := .slice l1 l1n l1c) rfl) ?_
  refine HW.pure (i := 1) hH rfl (by kernel_rfl) (Wants.free rfl) rfl (fun _ => rfl) (Rd.move (v := .int .i64 i1) rfl) ?_
  obtain ⟨a1, he1, hi1, hi2, h⟩ := h
  refine HW.pure (i := 2) hH rfl (by kernel_rfl) (Wants.free rfl) rfl (fun _ => rfl) (Rd.iaS (q := a1) (sz := 2) (by rw [← he1]; rfl) rfl Tryd.underlying22 (by kernel_rfl) hi1 hi2) ?_
  replace h := h  w3  hc_w3
  obtain ⟨t1, t2, hc1, h⟩ := h
  refine HW.take (i := 3) hH rfl (by kernel_rfl) (by kernel_rfl) (Wants.free rfl) rfl (fun _ => rfl) (Rd.ldN (cs := [.int .i64 t1, .int .i64 t2]) rfl (by kernel_rfl) (by kernel_rfl) (cellsS hc1)) ?_
  refine HW.take (i := 4) hH rfl (by kernel_rfl) (by kernel_rfl) (Wants.free rfl) rfl (fun _ => rfl) (Rd.ldN (cs := [.int .i64 p1, .int .i64 p2]) rfl (by kernel_rfl) (by kernel_rfl) (cellsS (box_cells (hB.at (i := 0) rfl) rfl))) ?_
  refine HW.pure (i := 5) hH rfl (by kernel_rfl) (Wants.free rfl) rfl (fun _ => rfl) (Rd.bin (v := .bool ((t1 == p1) && (t2 == p2))) rfl rfl (fun w => eqS_27 _ _ _ _ w)) ?_
  refine HW.done hH (by kernel_rfl) ?_
  refine NW.then ?_
  refine CW.cond rfl (fun hb2 => ?_) (fun hb2 => ?_)
  ·replace h := h.1 hb2
   refine CW.seq ?_
   refine CW.region fun L hL => ?_
   refine LW.rd hL rfl (Wants.free rfl) rfl (Rd.move (v := .slice l1 l1n l1c) rfl) ?_
   refine LW.rd hL rfl (Wants.free rfl) rfl (Rd.assign (v := .slice l1 l1n l1c) rfl) ?_
   refine LW.nil hL rfl ?_
   refine NW.then ?_
   refine CW.ret ?_
   refine RW.then ?_
   refine RW.block ?_
   refine RW.then ?_
   refine RW.then ?_
   refine RW.block ?_
   refine RW.then ?_
   exact res1 rfl rfl ⟨l1, l1n, l1c, rfl, h⟩
  ·replace h := h.2 hb2
   refine CW.skip ?_
   refine NW.then ?_
   obtain ⟨J1, hJ1, h⟩ := h
   refine CW.cut (S := (Option Addr) × Nat × Nat × Bool) (fun s2 => [(0, .slice l1 l1n l1c), (3, .pointer (some (⟨b1, 0, none⟩ : Addr))), (4, .slice x1 x1n x1c), (7, .int .i64 i1), (5, .slice s2.1 s2.2.1 s2.2.2.1), (6, .bool s2.2.2.2)]) (fun s2 w4 => J1 s2.1 s2.2.1 s2.2.2.1 s2.2.2.2 w4 ∧ Boxes w4 [(b1, [.int .i64 p1, .int .i64 p2], 27)]) (fun s2 w4 h_ => ?_) ?_
   ·obtain ⟨h_, hB⟩ := h_; obtain ⟨out2, out2n, out2c, put2⟩ := s2; replace h := hJ1 out2 out2n out2c put2 w4 h_; clear h_
    refine CW.region fun L hL => ?_
    refine LW.rd hL rfl (Wants.free rfl) rfl (Rd.move (v := .slice out2 out2n out2c) rfl) ?_
    refine LW.rd hL rfl (Wants.free rfl) rfl (Rd.move (v := .slice l1 l1n l1c) rfl) ?_
    refine LW.rd hL rfl (Wants.free rfl) rfl (Rd.move (v := .int .i64 i1) rfl) ?_
    refine LW.rd hL rfl (Wants.free rfl) rfl (Rd.iaS (q := a1) (sz := 2) (by rw [← he1]; rfl) rfl Tryd.underlying22 (by kernel_rfl) hi1 hi2) ?_
    obtain ⟨t3, t4, hc2, h⟩ := h
    refine LW.rd hL rfl (Wants.free rfl) rfl (Rd.ldN (cs := [.int .i64 t3, .int .i64 t4]) rfl (by kernel_rfl) (by kernel_rfl) (cellsS hc2)) ?_
    obtain ⟨b2, hb_b2⟩ : ∃ b2, b2 = World.size w4 := ⟨_, rfl⟩
    obtain ⟨w5, hw_w5⟩ : ∃ w5, w5 = World.alloc w4 (.cells #[.int .i64 t3, .int .i64 t4] 27) := ⟨_, rfl⟩
    replace h := h b2 hb_b2 w5 hw_w5
    refine LW.val hL rfl (Wants.free rfl) rfl (sliceE (n := 1) hb_b2 hw_w5 (fun w => Vl.buildSlice (vs := [(0, .agg #[.int .i64 t3, .int .i64 t4])]) rfl (by kernel_rfl))) ?_
    replace hB := hB.grow hw_w5
    obtain ⟨l2, l2n, l2c, w6, ha1, h⟩ := h
    refine LW.val hL rfl (Wants.free rfl) rfl (Vl.builtin (v := .slice l2 l2n l2c) rfl (valB ha1)) ?_
    obtain ⟨hsm1, h⟩ := h
    replace hB := Boxes.sameS hB hsm1 (by simp)
    refine LW.rd hL rfl (Wants.free rfl) rfl (Rd.assign (v := .slice l2 l2n l2c) rfl) ?_
    refine LW.nil hL rfl ?_
    refine NW.block ?_
    refine NW.then ?_
    refine CW.region fun L hL => ?_
    refine LW.rd hL rfl (Wants.free rfl) rfl (Rd.move (v := .int .i64 i1) rfl) ?_
    refine LW.rd hL rfl (Wants.free rfl) rfl (Rd.bin (v := .int .i64 (IntKind.wrap .i64 (i1 + 1))) rfl rfl (fun w => by kernel_rfl)) ?_
    refine LW.rd hL rfl (Wants.free rfl) rfl (Rd.assign (v := .int .i64 (IntKind.wrap .i64 (i1 + 1))) rfl) ?_
    refine LW.nil hL rfl ?_
    exact NW.loop (S := (Option Addr) × Nat × Nat × (Option Addr) × Nat × Nat × Bool × Int) (Ek := fun s1 => [(0, .slice l1 l1n l1c), (3, .pointer (some (⟨b1, 0, none⟩ : Addr))), (4, .slice s1.1 s1.2.1 s1.2.2.1), (5, .slice s1.2.2.2.1 s1.2.2.2.2.1 s1.2.2.2.2.2.1), (6, .bool s1.2.2.2.2.2.2.1), (7, .int .i64 s1.2.2.2.2.2.2.2)]) (x1, x1n, x1c, l2, l2n, l2c, put2, IntKind.wrap .i64 (i1 + 1)) (by exact ⟨rfl, rfl, rfl, rfl, rfl, rfl, trivial⟩) ⟨⟨h.1, hB⟩, h.2⟩
   ·skip
    refine CW.seq ?_
    obtain ⟨w7, hw_w7⟩ : ∃ x, x = World.drew w3 := ⟨_, rfl⟩
    have hc_w7 := sil_drew (Chg.refl [] w3) hw_w7
    replace hB := hB.drew hw_w7
    refine CW.drawn (fun w => w = w7) 8 (by kernel_rfl) fun H hH => ?_
    rw [← hw_w7]
    refine HW.pure (i := 0) hH rfl (by kernel_rfl) (Wants.free rfl) rfl (fun _ => rfl) (Rd.move (v := .bool put1) rfl) ?_
    refine HW.pure (i := 1) hH rfl (by kernel_rfl) (Wants.free rfl) rfl (fun _ => rfl) (Rd.un (v := .bool (!put1)) rfl (fun _ => by kernel_rfl)) ?_
    refine HW.pure (i := 2) hH rfl (by kernel_rfl) (Wants.free rfl) rfl (fun _ => rfl) (Rd.move (v := .bool (!put1)) rfl) ?_
    replace h := h  w7  hc_w7
    obtain ⟨J2, hJ2, h1_J2, h0_J2⟩ := h
    suffices K1 : ∀ (b3 : Bool) (w8 : World), Boxes w8 [(b1, [.int .i64 p1, .int .i64 p2], 27)] → J2 b3 w8 → H 0 #[true, true, true, true, true, true, true, true, true, true] [(0, .slice l1 l1n l1c), (3, .pointer (some (⟨b1, 0, none⟩ : Addr))), (4, .slice x1 x1n x1c), (5, .slice out1 out1n out1c), (6, .bool put1), (7, .int .i64 i1), (30, .bool b3)] w8 by
     rcases Bool.eq_false_or_eq_true (!put1) with hb3 | hb3
     ·have h := h1_J2 hb3
      refine HW.take (i := 3) hH rfl (by kernel_rfl) (by kernel_rfl) (Wants.on rfl rfl rfl rfl rfl hb3) rfl (fun _ => rfl) (Rd.ldN (cs := [.int .i64 p1, .int .i64 p2]) rfl (by kernel_rfl) (by kernel_rfl) (cellsS (box_cells (hB.at (i := 0) rfl) rfl))) ?_
      refine HW.pure (i := 4) hH rfl (by kernel_rfl) (Wants.on rfl rfl rfl rfl rfl hb3) rfl (fun _ => rfl) (Rd.move (v := .slice l1 l1n l1c) rfl) ?_
      refine HW.pure (i := 5) hH rfl (by kernel_rfl) (Wants.on rfl rfl rfl rfl rfl hb3) rfl (fun _ => rfl) (Rd.move (v := .int .i64 i1) rfl) ?_
      refine HW.pure (i := 6) hH rfl (by kernel_rfl) (Wants.on rfl rfl rfl rfl rfl hb3) rfl (fun _ => rfl) (Rd.iaS (q := a1) (sz := 2) (by rw [← he1]; rfl) rfl Tryd.underlying22 (by kernel_rfl) hi1 hi2) ?_
      obtain ⟨t5, t6, hc3, h⟩ := h
      refine HW.take (i := 7) hH rfl (by kernel_rfl) (by kernel_rfl) (Wants.on rfl rfl rfl rfl rfl hb3) rfl (fun _ => rfl) (Rd.ldN (cs := [.int .i64 t5, .int .i64 t6]) rfl (by kernel_rfl) (by kernel_rfl) (cellsS hc3)) ?_
      refine HW.call (i := 8) hH (by kernel_rfl) rfl (Wants.on rfl rfl rfl rfl rfl hb3) rfl (Cl.fn (f := 38) rfl Tryd.func38 (by kernel_rfl) rfl) h (fun e w9 h_ => ?_)
      clear h
      obtain ⟨r2, rfl, h⟩ := h_
      obtain ⟨hsm2, h⟩ := h
      replace hB := Boxes.sameS hB hsm2 (by simp)
      refine ⟨_, rfl, (fun hc => by cases hc), ?_⟩
      refine HW.pure (i := 9) hH rfl (by kernel_rfl) (Wants.free rfl) rfl (fun hc => by cases hc) (Rd.pickT rfl hb3 rfl) ?_
      exact HW.sub hH (by exact ⟨rfl, rfl, rfl, rfl, rfl, rfl, rfl, trivial⟩) (K1 r2 w9 (by exact hB) h)
     ·have h := h0_J2 hb3
      refine HW.skip (i := 3) hH rfl (by kernel_rfl) (Skips.on rfl rfl rfl rfl rfl hb3) rfl (fun _ => rfl) ?_
      refine HW.skip (i := 4) hH rfl (by kernel_rfl) (Skips.on rfl rfl rfl rfl rfl hb3) rfl (fun _ => rfl) ?_
      refine HW.skip (i := 5) hH rfl (by kernel_rfl) (Skips.on rfl rfl rfl rfl rfl hb3) rfl (fun _ => rfl) ?_
      refine HW.skip (i := 6) hH rfl (by kernel_rfl) (Skips.on rfl rfl rfl rfl rfl hb3) rfl (fun _ => rfl) ?_
      refine HW.skip (i := 7) hH rfl (by kernel_rfl) (Skips.on rfl rfl rfl rfl rfl hb3) rfl (fun _ => rfl) ?_
      refine HW.skip1 (i := 8) hH (by kernel_rfl) rfl (Skips.on rfl rfl rfl rfl rfl hb3) rfl (fun hc => by cases hc) ?_
      refine HW.pure (i := 9) hH rfl (by kernel_rfl) (Wants.free rfl) rfl (fun hc => by cases hc) (Rd.pickF rfl hb3 rfl) ?_
      exact HW.sub hH (by exact ⟨rfl, rfl, rfl, rfl, rfl, rfl, rfl, trivial⟩) (K1 false w7 (by exact hB) h)
    intro b3 w8 hB h_
    have h := hJ2 b3 w8 h_; clear h_
    refine HW.done hH (by kernel_rfl) ?_
    refine NW.then ?_
    refine CW.cond rfl (fun hb4 => ?_) (fun hb4 => ?_)
    ·replace h := h.1 hb4
     refine CW.seq ?_
     refine CW.region fun L hL => ?_
     refine LW.rd hL rfl (Wants.free rfl) rfl (Rd.move (v := .slice out1 out1n out1c) rfl) ?_
     refine LW.rd hL rfl (Wants.free rfl) rfl (Rd.ldN (cs := [.int .i64 p1, .int .i64 p2]) rfl (by kernel_rfl) (by kernel_rfl) (cellsS (box_cells (hB.at (i := 0) rfl) rfl))) ?_
     obtain ⟨b4, hb_b4⟩ : ∃ b4, b4 = World.size w8 := ⟨_, rfl⟩
     obtain ⟨w10, hw_w10⟩ : ∃ w10, w10 = World.alloc w8 (.cells #[.int .i64 p1, .int .i64 p2] 27) := ⟨_, rfl⟩
     replace h := h b4 hb_b4 w10 hw_w10
     refine LW.val hL rfl (Wants.free rfl) rfl (sliceE (n := 1) hb_b4 hw_w10 (fun w => Vl.buildSlice (vs := [(0, .agg #[.int .i64 p1, .int .i64 p2])]) rfl (by kernel_rfl))) ?_
     replace hB := hB.grow hw_w10
     obtain ⟨l3, l3n, l3c, w11, ha2, h⟩ := h
     refine LW.val hL rfl (Wants.free rfl) rfl (Vl.builtin (v := .slice l3 l3n l3c) rfl (valB ha2)) ?_
     obtain ⟨hsm3, h⟩ := h
     replace hB := Boxes.sameS hB hsm3 (by simp)
     refine LW.rd hL rfl (Wants.free rfl) rfl (Rd.assign (v := .slice l3 l3n l3c) rfl) ?_
     refine LW.nil hL rfl ?_
     refine NW.then ?_
     refine CW.region fun L hL => ?_
     refine LW.rd hL rfl (Wants.free rfl) rfl (Rd.assign (v := .bool true) rfl) ?_
     refine LW.nil hL rfl ?_
     exact NW.cut (S := (Option Addr) × Nat × Nat × Bool) (Ek := fun s2 => [(0, .slice l1 l1n l1c), (3, .pointer (some (⟨b1, 0, none⟩ : Addr))), (4, .slice x1 x1n x1c), (7, .int .i64 i1), (5, .slice s2.1 s2.2.1 s2.2.2.1), (6, .bool s2.2.2.2)]) (l3, l3n, l3c, true) (by exact ⟨rfl, rfl, rfl, rfl, rfl, rfl, trivial⟩) ⟨h, hB⟩
    ·replace h := h.2 hb4
     refine CW.skip ?_
     exact NW.cut (S := (Option Addr) × Nat × Nat × Bool) (Ek := fun s2 => [(0, .slice l1 l1n l1c), (3, .pointer (some (⟨b1, 0, none⟩ : Addr))), (4, .slice x1 x1n x1c), (7, .int .i64 i1), (5, .slice s2.1 s2.2.1 s2.2.2.1), (6, .bool s2.2.2.2)]) (out1, out1n, out1c, put1) (by exact ⟨rfl, rfl, rfl, rfl, rfl, rfl, trivial⟩) ⟨h, hB⟩
 ·replace h := h.2 hb1
  refine CW.exit ?_
  refine XW.then ?_
  refine XW.then ?_
  refine XW.hit ?_
  refine NW.then ?_
  obtain ⟨J3, hJ3, h⟩ := h
  refine CW.cut (S := (Option Addr) × Nat × Nat) (fun s3 => [(4, .slice x1 x1n x1c), (5, .slice s3.1 s3.2.1 s3.2.2)]) (fun s3 w12 => J3 s3.1 s3.2.1 s3.2.2 w12) (fun s3 w12 h_ => ?_) ?_
  ·obtain ⟨out3, out3n, out3c⟩ := s3; replace h := hJ3 out3 out3n out3c w12 h_; clear h_
   refine CW.seq ?_
   refine CW.region fun L hL => ?_
   refine LW.rd hL rfl (Wants.free rfl) rfl (Rd.move (v := .slice out3 out3n out3c) rfl) ?_
   refine LW.rd hL rfl (Wants.free rfl) rfl (Rd.assign (v := .slice out3 out3n out3c) rfl) ?_
   refine LW.nil hL rfl ?_
   refine NW.then ?_
   refine CW.ret ?_
   exact res1 rfl rfl ⟨out3, out3n, out3c, rfl, h⟩
  ·skip
   refine CW.seq ?_
   refine CW.region fun L hL => ?_
   refine LW.rd hL rfl (Wants.free rfl) rfl (Rd.move (v := .bool put1) rfl) ?_
   refine LW.rd hL rfl (Wants.free rfl) rfl (Rd.un (v := .bool (!put1)) rfl (fun _ => by kernel_rfl)) ?_
   refine LW.nil hL rfl ?_
   refine NW.then ?_
   refine CW.cond rfl (fun hb5 => ?_) (fun hb5 => ?_)
   ·replace h := h.1 hb5
    refine CW.region fun L hL => ?_
    refine LW.rd hL rfl (Wants.free rfl) rfl (Rd.move (v := .slice out1 out1n out1c) rfl) ?_
    refine LW.rd hL rfl (Wants.free rfl) rfl (Rd.ldN (cs := [.int .i64 p1, .int .i64 p2]) rfl (by kernel_rfl) (by kernel_rfl) (cellsS (box_cells (hB.at (i := 0) rfl) rfl))) ?_
    obtain ⟨b5, hb_b5⟩ : ∃ b5, b5 = World.size w2 := ⟨_, rfl⟩
    obtain ⟨w13, hw_w13⟩ : ∃ w13, w13 = World.alloc w2 (.cells #[.int .i64 p1, .int .i64 p2] 27) := ⟨_, rfl⟩
    replace h := h b5 hb_b5 w13 hw_w13
    refine LW.val hL rfl (Wants.free rfl) rfl (sliceE (n := 1) hb_b5 hw_w13 (fun w => Vl.buildSlice (vs := [(0, .agg #[.int .i64 p1, .int .i64 p2])]) rfl (by kernel_rfl))) ?_
    replace hB := hB.grow hw_w13
    obtain ⟨l4, l4n, l4c, w14, ha3, h⟩ := h
    refine LW.val hL rfl (Wants.free rfl) rfl (Vl.builtin (v := .slice l4 l4n l4c) rfl (valB ha3)) ?_
    refine LW.rd hL rfl (Wants.free rfl) rfl (Rd.assign (v := .slice l4 l4n l4c) rfl) ?_
    refine LW.nil hL rfl ?_
    exact NW.cut (S := (Option Addr) × Nat × Nat) (Ek := fun s3 => [(4, .slice x1 x1n x1c), (5, .slice s3.1 s3.2.1 s3.2.2)]) (l4, l4n, l4c) (by exact ⟨rfl, rfl, trivial⟩) h
   ·replace h := h.2 hb5
    refine CW.skip ?_
    exact NW.cut (S := (Option Addr) × Nat × Nat) (Ek := fun s3 => [(4, .slice x1 x1n x1c), (5, .slice s3.1 s3.2.1 s3.2.2)]) (out1, out1n, out1c) (by exact ⟨rfl, rfl, trivial⟩) h
/- pomander/pomanderref12.ahead -/
def W_pomanderref12_ahead (a1 : Int) (a2 : Int) (b1 : Int) (b2 : Int) (w : World) (R : Bool → World → Prop) : Prop :=
 ∀ (b4 b3 : Nat) (w2 : World), (w.heap.size ≤ b4 ∧ b4 < w2.heap.size) → (w.heap.size ≤ b3 ∧ b3 < w2.heap.size) → Chg [] w w2 → (∃ J1 : Bool → World → Prop, (∀ (b5 : Bool) (w3 : World), J1 b5 w3 → R b5 w3) ∧ (((decide (a1 < b1)) = false → ∃ J2 : Bool → World → Prop, (∀ (b6 : Bool) (w4 : World), J2 b6 w4 → J1 b6 w4) ∧ (((a1 == b1) = true → J2 (decide (a2 < b2)) w2) ∧ ((a1 == b1) = false → J2 false w2))) ∧ ((decide (a1 < b1)) = true → J1 true w2)))
set_option maxRecDepth 100000 in
theorem go_pomanderref12_ahead (a1 : Int) (a2 : Int) (b1 : Int) (b2 : Int) (w : World) (R : Bool → World → Prop) (h : W_pomanderref12_ahead a1 a2 b1 b2 w R) : Calls Tryd.prog 38 #[.agg #[.int .i64 a1, .int .i64 a2], .agg #[.int .i64 b1, .int .i64 b2]] w (fun e w' => ∃ (r1 : Bool), e = .returned (.bool r1) ∧ R r1 w') := by
 unfold W_pomanderref12_ahead at h
 refine enter (N := 24) Tryd.func38 rfl rfl ?_
 refine CW.seq ?_
 refine CW.region fun L hL => ?_
 obtain ⟨b3, hb_b3⟩ : ∃ b3, b3 = World.size w := ⟨_, rfl⟩
 obtain ⟨w1, hw_w1⟩ : ∃ w1, w1 = World.alloc w (.cells #[.int .i64 a1, .int .i64 a2] 27) := ⟨_, rfl⟩
 refine LW.val hL rfl (Wants.free rfl) rfl (boxE hb_b3 hw_w1 (Vl.box (v := .agg #[.int .i64 a1, .int .i64 a2]) rfl)) ?_
 have hB := Boxes.alloc (cs := [.int .i64 a1, .int .i64 a2]) (T := 27) (Boxes.nil w) hb_b3 hw_w1
 have hlo_b3 := sil_lo (Chg.refl [] w) hb_b3
 have hc_w1 := sil_alloc (Chg.refl [] w) hw_w1
 obtain ⟨b4, hb_b4⟩ : ∃ b4, b4 = World.size w1 := ⟨_, rfl⟩
 obtain ⟨w2, hw_w2⟩ : ∃ w2, w2 = World.alloc w1 (.cells #[.int .i64 b1, .int .i64 b2] 27) := ⟨_, rfl⟩
 refine LW.val hL rfl (Wants.free rfl) rfl (boxE hb_b4 hw_w2 (Vl.box (v := .agg #[.int .i64 b1, .int .i64 b2]) rfl)) ?_
 replace hB := Boxes.alloc (cs := [.int .i64 b1, .int .i64 b2]) (T := 27) hB hb_b4 hw_w2
 have hlo_b4 := sil_lo hc_w1 hb_b4
 have hc_w2 := sil_alloc hc_w1 hw_w2
 refine LW.rd hL rfl (Wants.free rfl) rfl (Rd.assign (v := .bool false) rfl) ?_
 refine LW.nil hL rfl ?_
 refine NW.then ?_
 refine CW.seq ?_
 refine CW.region fun L hL => ?_
 refine LW.rd hL rfl (Wants.free rfl) rfl (Rd.fa (v := .pointer (some (⟨b3, 0, none⟩ : Addr))) rfl (fun _ => by kernel_rfl)) ?_
 refine LW.rd hL rfl (Wants.free rfl) rfl (Rd.ld (v := .int .i64 a1) rfl (by kernel_rfl) (eqs (box_cell (hB.at (i := 1) rfl) rfl))) ?_
 refine LW.rd hL rfl (Wants.free rfl) rfl (Rd.fa (v := .pointer (some (⟨b4, 0, none⟩ : Addr))) rfl (fun _ => by kernel_rfl)) ?_
 refine LW.rd hL rfl (Wants.free rfl) rfl (Rd.ld (v := .int .i64 b1) rfl (by kernel_rfl) (eqs (box_cell (hB.at (i := 0) rfl) rfl))) ?_
 refine LW.rd hL rfl (Wants.free rfl) rfl (Rd.bin (v := .bool (decide (a1 < b1))) rfl rfl (fun w => by kernel_rfl)) ?_
 refine LW.rd hL rfl (Wants.free rfl) rfl (Rd.move (v := .bool (decide (a1 < b1))) rfl) ?_
 replace h := h b4 b3 w2 ⟨hlo_b4, lt_of_heap (hB.at (i := 0) rfl)⟩ ⟨hlo_b3, lt_of_heap (hB.at (i := 1) rfl)⟩ hc_w2
 obtain ⟨J1, hJ1, h1_J1, h0_J1⟩ := h
 suffices K1 : ∀ (b5 : Bool) (w3 : World), J1 b5 w3 → L 19 [(4, .bool false), (23, .bool b5)] w3 by
  rcases Bool.eq_false_or_eq_true (decide (a1 < b1)) with hb1 | hb1
  ·have h := h0_J1 hb1
   refine LW.skip hL rfl (Skips.on rfl rfl rfl rfl rfl hb1) rfl ?_
   refine LW.skip hL rfl (Skips.on rfl rfl rfl rfl rfl hb1) rfl ?_
   refine LW.skip hL rfl (Skips.on rfl rfl rfl rfl rfl hb1) rfl ?_
   refine LW.skip hL rfl (Skips.on rfl rfl rfl rfl rfl hb1) rfl ?_
   refine LW.skip hL rfl (Skips.on rfl rfl rfl rfl rfl hb1) rfl ?_
   refine LW.skip hL rfl (Skips.on rfl rfl rfl rfl rfl hb1) rfl ?_
   refine LW.skip hL rfl (Skips.un rfl rfl rfl rfl rfl) rfl ?_
   refine LW.skip hL rfl (Skips.un rfl rfl rfl rfl rfl) rfl ?_
   refine LW.skip hL rfl (Skips.un rfl rfl rfl rfl rfl) rfl ?_
   refine LW.skip hL rfl (Skips.un rfl rfl rfl rfl rfl) rfl ?_
   refine LW.skip hL rfl (Skips.un rfl rfl rfl rfl rfl) rfl ?_
   refine LW.skip hL rfl (Skips.on rfl rfl rfl rfl rfl hb1) rfl ?_
   refine LW.rd hL rfl (Wants.free rfl) rfl (Rd.pickT rfl hb1 rfl) ?_
   exact LW.sub hL (by exact ⟨rfl, rfl, trivial⟩) (K1 true w2 h)
  ·have h := h1_J1 hb1
   refine LW.rd hL rfl (Wants.on rfl rfl rfl rfl rfl hb1) rfl (Rd.fa (v := .pointer (some (⟨b3, 0, none⟩ : Addr))) rfl (fun _ => by kernel_rfl)) ?_
   refine LW.rd hL rfl (Wants.on rfl rfl rfl rfl rfl hb1) rfl (Rd.ld (v := .int .i64 a1) rfl (by kernel_rfl) (eqs (box_cell (hB.at (i := 1) rfl) rfl))) ?_
   refine LW.rd hL rfl (Wants.on rfl rfl rfl rfl rfl hb1) rfl (Rd.fa (v := .pointer (some (⟨b4, 0, none⟩ : Addr))) rfl (fun _ => by kernel_rfl)) ?_
   refine LW.rd hL rfl (Wants.on rfl rfl rfl rfl rfl hb1) rfl (Rd.ld (v := .int .i64 b1) rfl (by kernel_rfl) (eqs (box_cell (hB.at (i := 0) rfl) rfl))) ?_
   refine LW.rd hL rfl (Wants.on rfl rfl rfl rfl rfl hb1) rfl (Rd.bin (v := .bool (a1 == b1)) rfl rfl (fun w => by kernel_rfl)) ?_
   refine LW.rd hL rfl (Wants.on rfl rfl rfl rfl rfl hb1) rfl (Rd.move (v := .bool (a1 == b1)) rfl) ?_
   obtain ⟨J2, hJ2, h1_J2, h0_J2⟩ := h
   suffices K2 : ∀ (b6 : Bool) (w4 : World), J2 b6 w4 → L 18 [(4, .bool false), (10, .bool (decide (a1 < b1))), (22, .bool b6)] w4 by
    rcases Bool.eq_false_or_eq_true (a1 == b1) with hb2 | hb2
    ·have h := h1_J2 hb2
     refine LW.rd hL rfl (Wants.on rfl rfl rfl rfl rfl hb2) rfl (Rd.fa (v := .pointer (some (⟨b3, 1, none⟩ : Addr))) rfl (fun _ => by kernel_rfl)) ?_
     refine LW.rd hL rfl (Wants.on rfl rfl rfl rfl rfl hb2) rfl (Rd.ld (v := .int .i64 a2) rfl (by kernel_rfl) (eqs (box_cell (hB.at (i := 1) rfl) rfl))) ?_
     refine LW.rd hL rfl (Wants.on rfl rfl rfl rfl rfl hb2) rfl (Rd.fa (v := .pointer (some (⟨b4, 1, none⟩ : Addr))) rfl (fun _ => by kernel_rfl)) ?_
     refine LW.rd hL rfl (Wants.on rfl rfl rfl rfl rfl hb2) rfl (Rd.ld (v := .int .i64 b2) rfl (by kernel_rfl) (eqs (box_cell (hB.at (i := 0) rfl) rfl))) ?_
     refine LW.rd hL rfl (Wants.on rfl rfl rfl rfl rfl hb2) rfl (Rd.bin (v := .bool (decide (a2 < b2))) rfl rfl (fun w => by kernel_rfl)) ?_
     refine LW.rd hL rfl (Wants.on rfl rfl rfl rfl rfl hb1) rfl (Rd.pickT rfl hb2 rfl) ?_
     exact LW.sub hL (by exact ⟨rfl, rfl, rfl, trivial⟩) (K2 (decide (a2 < b2)) w2 h)
    ·have h := h0_J2 hb2
     refine LW.skip hL rfl (Skips.on rfl rfl rfl rfl rfl hb2) rfl ?_
     refine LW.skip hL rfl (Skips.on rfl rfl rfl rfl rfl hb2) rfl ?_
     refine LW.skip hL rfl (Skips.on rfl rfl rfl rfl rfl hb2) rfl ?_
     refine LW.skip hL rfl (Skips.on rfl rfl rfl rfl rfl hb2) rfl ?_
     refine LW.skip hL rfl (Skips.on rfl rfl rfl rfl rfl hb2) rfl ?_
     refine LW.rd hL rfl (Wants.on rfl rfl rfl rfl rfl hb1) rfl (Rd.pickF rfl hb2 rfl) ?_
     exact LW.sub hL (by exact ⟨rfl, rfl, rfl, trivial⟩) (K2 false w2 h)
   intro b6 w4 h_
   have h := hJ2 b6 w4 h_; clear h_
   refine LW.rd hL rfl (Wants.free rfl) rfl (Rd.pickF rfl hb1 rfl) ?_
   exact LW.sub hL (by exact ⟨rfl, rfl, trivial⟩) (K1 b6 w4 h)
 intro b5 w3 h_
 have h := hJ1 b5 w3 h_; clear h_
 refine LW.rd hL rfl (Wants.free rfl) rfl (Rd.assign (v := .bool b5) rfl) ?_
 refine LW.nil hL rfl ?_
 refine NW.then ?_
 refine CW.ret ?_
 exact res1 rfl rfl ⟨b5, rfl, h⟩
end Go.Proofs.YtfcfkhbkkfpehaaDoor
end
section
/- The document's Last, ahead, with. -/
namespace Go.Proofs.YtfcfkhbkkfpehaaDoor
open Go Go.RowKit Go.X Go.XR
theorem ref_aheadQ (w : World) (a b : Pl) : Calls Tryd.prog 38 #[.agg #[.int .i64 a.1, .int .i64 a.2], .agg #[.int .i64 b.1, .int .i64 b.2]] w fun e w' => ∃ r : Bool, e = .returned (.bool r) ∧ (r = decide (ltPl a b) ∧ Chg [] w w') := by
 refine go_pomanderref12_ahead _ _ _ _ _ _ ?_
 unfold W_pomanderref12_ahead
 rintro b4 b3 w2 _ _ c2
 refine ⟨fun r w' => r = decide (ltPl a b) ∧ Chg [] w w', fun r w' h => h, fun h1 => ?_, fun h1 => ?_⟩
 ·have h1' := of_decide_eq_false h1
  refine ⟨fun r w' => r = decide (ltPl a b) ∧ Chg [] w w', fun r w' h => h, fun h2 => ⟨?_, c2⟩, fun h2 => ⟨?_, c2⟩⟩
  ·have h2' : a.1 = b.1 := by simpa using h2
   exact decide_eq_decide.2 ⟨fun h => .inr ⟨h2', h⟩, fun h => by unfold ltPl at h; omega⟩
  ·have h2' : ¬ a.1 = b.1 := by simpa using h2
   symm; exact decide_eq_false (by unfold ltPl; omega)
 ·have h1' := of_decide_eq_true h1
  exact ⟨by symm; exact decide_eq_true (.inl h1'), c2⟩
theorem bef_find (ns : List Nt) (p : Pl) (s : Int) : bef (ofPl ns p) s = ns.reverse.find? (fun n => decide (n.2.1 = p) && decide (n.1 < s)) := by
 unfold bef ofPl
 rw [← List.filter_reverse, List.find?_filter]
 congr 1
 funext n
 by_cases h1 : n.2.1 = p <;> by_cases h2 : n.1 < s <;> simp [h1, h2]
theorem ref_last {w : World} {S : Nat → Prop} {q : Option Addr} {n c : Nat} {ns : List Nt} (h : NotesAt w S q n c ns) (hfew : ns.length ≤ 1000000) (p : Pl) (s : Int) :
  Calls Tryd.prog 18 #[.slice q n c, .agg #[.int .i64 p.1, .int .i64 p.2], .int .i64 s] w fun e w' => ∃ r : Int, e = .returned (.int .i64 r) ∧
   (((bef (ofPl ns p) s = none ∧ r = -1) ∨ ∃ (i : Nat) (nt : Nt), bef (ofPl ns p) s = some nt ∧ r = (i : Int) ∧ ns[i]? = some nt) ∧ Chg [] w w') := by
 have hl := h.len
 refine go_pomanderref12_Last _ _ _ _ _ _ _ _ ?_
 unfold W_pomanderref12_Last
 rintro b1 w1 _ c1
 rw [wr (by omega) (by omega)]
 refine ⟨fun _ i w2 => ∃ j : Nat, j ≤ ns.length ∧ i = (ns.length : Int) - 1 - j ∧ (∀ k y, k < j → ns.reverse[k]? = some y → (decide (y.2.1 = p) && decide (y.1 < s)) = false) ∧ Chg [] w w2, fun _ i _ => (i + 1).toNat, ⟨0, Nat.zero_le _, by omega, fun k y hk => absurd hk (Nat.not_lt_zero _), c1⟩, ?_⟩
 rintro x1 _ w2 ⟨j, hj, rfl, hno, c2⟩
 refine ⟨fun hge => ?_, fun hlt => ?_⟩
 ·have hjn : j < ns.length := by have := of_decide_eq_true hge; omega
  obtain ⟨g, k1, k2, k3⟩ := (h.chg (f := []) c2 (by simp) (by simp)).there
  obtain ⟨y, hy⟩ := get_of (l := ns) (j := ns.length - 1 - j) (by omega)
  have hyr : ns.reverse[j]? = some y := by rw [List.getElem?_reverse (by omega)]; exact hy
  obtain ⟨x, hx, hxy⟩ : ∃ x, g[ns.length - 1 - j]? = some x ∧ x.1 = y := by
   rw [← k1, List.getElem?_map] at hy
   simp only [List.length_map] at hy
   cases hg : g[ns.length - 1 - j]? with
   | none =>
    have : g.length - 1 - j = ns.length - 1 - j := by rw [← k1, List.length_map]
    rw [this, hg] at hy; simp at hy
   | some x =>
    have : g.length - 1 - j = ns.length - 1 - j := by rw [← k1, List.length_map]
    rw [this, hg] at hy
    simp at hy
    exact ⟨x, rfl, hy⟩
  subst hxy
  obtain ⟨a, ha, hcs⟩ := note_cells k2 hx
  have hidx : Int.toNat ((ns.length : Int) - 1 - j) = ns.length - 1 - j := by omega
  refine ⟨a, ha, by omega, by omega, fun w3 c3 => ?_⟩
  have hcs3 := c3.cells (by simp) hcs
  rw [hidx]
  have c03 := c2.trans0 c3
  refine ⟨x.1.2.1.1, x.1.2.1.2, ⟨by rw [add_add]; exact hcs3.2.1, by rw [add_add]; exact hcs3.2.2.1, trivial⟩, ?_⟩
  have hpe : ((x.1.2.1.1 == p.1) && (x.1.2.1.2 == p.2)) = decide (x.1.2.1 = p) := by
   by_cases e : x.1.2.1 = p
   ·rw [decide_eq_true e, e]; simp
   ·rw [decide_eq_false e]
    cases hq : ((x.1.2.1.1 == p.1) && (x.1.2.1.2 == p.2)) with
    | false => rfl
    | true => simp at hq; exact absurd (Prod.ext hq.1 hq.2) e
  rw [hpe]
  refine ⟨fun b w4 => b = (decide (x.1.2.1 = p) && decide (x.1.1 < s)) ∧ Chg [] w w4, ?_, fun he => ⟨x.1.1, hcs3.1, by rw [he]; rfl, c03⟩, fun hne => ⟨by rw [hne]; rfl, c03⟩⟩
  rintro _ w4 ⟨rfl, c4⟩
  refine ⟨fun hb => ?_, fun hb => ?_⟩
  ·refine ⟨.inr ⟨ns.length - 1 - j, x.1, ?_, by omega, hy⟩, c4⟩
   rw [bef_find]
   exact find_first hyr hb hno
  ·rw [wr (by omega) (by omega)]
   refine ⟨⟨j + 1, by omega, by omega, fun k y hk hyk => ?_, c4⟩, by simp only []; omega⟩
   by_cases hkj : k < j
   ·exact hno k y hkj hyk
   ·have : k = j := by omega
    subst this
    rw [hyr] at hyk; cases hyk
    exact hb
 ·have hjn : j = ns.length := by have := of_decide_eq_false hlt; omega
  refine ⟨.inl ⟨?_, rfl⟩, c2⟩
  rw [bef_find, List.find?_eq_none]
  intro y hy
  obtain ⟨k, hk⟩ := List.getElem?_of_mem hy
  have := hno k y (by have := (List.getElem?_eq_some_iff.1 hk).1; rw [List.length_reverse] at this; omega) hk
  rw [this]; simp
/-! ### with -/
def insP (p : Pl) : List Pl → List Pl
 | [] => [p]
 | y :: l => if ltPl p y then p :: y :: l else y :: insP p l
theorem mem_insP (p q : Pl) : ∀ l : List Pl, q ∈ insP p l ↔ q = p ∨ q ∈ l
 | [] => by simp [insP]
 | y :: l => by
  unfold insP
  split
  ·simp
  ·rw [List.mem_cons, mem_insP p q l, List.mem_cons]
   constructor
   ·rintro (h | h | h)
    ·exact .inr (.inl h)
    ·exact .inl h
    ·exact .inr (.inr h)
   ·rintro (h | h | h)
    ·exact .inr (.inl h)
    ·exact .inl h
    ·exact .inr (.inr h)
theorem rise_insP {p : Pl} : ∀ {l : List Pl}, l.Pairwise ltPl → p ∉ l → (insP p l).Pairwise ltPl
 | [], _, _ => by simp [insP]
 | y :: l, h, hn => by
  rw [List.pairwise_cons] at h
  unfold insP
  split
  ·rename_i hlt
   refine List.pairwise_cons.2 ⟨fun z hz => ?_, List.pairwise_cons.2 h⟩
   rcases List.mem_cons.1 hz with rfl | hz
   ·exact hlt
   ·exact lt_trans hlt (h.1 z hz)
  ·rename_i hlt
   refine List.pairwise_cons.2 ⟨fun z hz => ?_, rise_insP h.2 (fun hm => hn (.tail _ hm))⟩
   rcases (mem_insP p z l).1 hz with rfl | hz
   ·exact lt_tri hlt (fun e => hn (e ▸ .head _))
   ·exact h.1 z hz
theorem length_insP (p : Pl) : ∀ l : List Pl, (insP p l).length = l.length + 1
 | [] => rfl
 | y :: l => by unfold insP; split <;> simp [length_insP p l]
theorem push_place {w : World} {p : Option Addr} {n c : Nat} {xs : List Pl} (h : RowAt w 27 2 p n c (xs.flatMap encPl)) (hn : n = xs.length) (hle : n ≤ 1000000000000) {x : Pl} {b : Nat} (hb : w.heap[b]? = some (.cells #[.int .i64 x.1, .int .i64 x.2] 27 (0, 0))) :
  ∃ (p' : Option Addr) (n' c' : Nat) (w' : World), (Builtin.append_ #[22, 22] 22 #[.slice p n c, .slice (some (⟨b, 0, none⟩ : Addr)) 1 1]).run Tryd.prog w = .ok (.slice p' n' c') w' ∧ RowAt w' 27 2 p' n' c' ((xs ++ [x]).flatMap encPl) ∧ n' = (xs ++ [x]).length ∧ Chg (rowB p) w w' ∧ ∀ i ∈ rowB p', i ∈ rowB p ∨ w.heap.size ≤ i := by
 obtain ⟨p', c', w', happ, hrow, hc, hnew⟩ := h.append (P := Tryd.prog) (t := 22) (ty := 22) (i := Tryd.t27) (z := .agg #[.int .i64 0, .int .i64 0]) (bytes := 16) (by kernel_rfl) (by kernel_rfl) (by kernel_rfl) (by kernel_rfl) (by kernel_rfl) rfl (by omega)
  (a := ⟨b, 0, none⟩) (m := 1) (mc := 1) (news := encPl x) rfl (fun j u hj => by
   match j, hj with
   | 0, hj => simp [encPl] at hj; subst hj; rw [add_at, cell_of hb]; rfl
   | 1, hj => simp [encPl] at hj; subst hj; rw [add_at, cell_of hb]; rfl
   | j + 2, hj => simp [encPl] at hj) (fun u hu => by simp [encPl] at hu; rcases hu with rfl | rfl <;> rfl) (by unfold maxLen; omega) (by omega)
 exact ⟨p', n + 1, c', w', happ, by rw [List.flatMap_append]; simpa using hrow, by simp [hn], hc, hnew⟩
theorem ref_with {w : World} {q : Option Addr} {n c : Nat} {ys : List Pl} (h : RowAt w 27 2 q n c (ys.flatMap encPl)) (hn : n = ys.length) (hle : n ≤ 1000000000) (p : Pl) :
  Calls Tryd.prog 28 #[.slice q n c, .agg #[.int .i64 p.1, .int .i64 p.2]] w fun e w' => ∃ (r : Option Addr) (rn rc : Nat), e = .returned (.slice r rn rc) ∧
   (Chg [] w w' ∧ RowAt w' 27 2 r rn rc ((if p ∈ ys then ys else insP p ys).flatMap encPl) ∧ rn = (if p ∈ ys then ys else insP p ys).length ∧ ∀ i ∈ rowB r, i ∈ rowB q ∨ w.heap.size ≤ i) := by
 refine go_pomanderref12_with _ _ _ _ _ _ _ ?_
 unfold W_pomanderref12_with
 rintro b1 w1 ⟨l1, u1⟩ c1
 refine ⟨fun x1 x1n x1c out outn outc put i w2 => ∃ (j : Nat) (os : List Pl), i = (j : Int) ∧ j ≤ ys.length ∧ (∀ k y, k < j → ys[k]? = some y → y ≠ p) ∧ RowAt w2 27 2 out outn outc (os.flatMap encPl) ∧ outn = os.length ∧ os.length ≤ j + 1 ∧ (∀ i ∈ rowB out, w1.heap.size ≤ i) ∧ Chg [] w w2 ∧ w1.heap.size ≤ w2.heap.size ∧
   (if put then os ++ ys.drop j = insP p ys else os = ys.take j ∧ os ++ insP p (ys.drop j) = insP p ys),
  fun _ _ _ _ _ _ _ i _ => (ys.length - i).toNat, ⟨0, [], rfl, Nat.zero_le _, fun k y hk => absurd hk (Nat.not_lt_zero _), RowAt.nil, rfl, by simp, by simp [rowB], c1, Nat.le_refl _, by simp⟩, ?_⟩
 rintro x1 x1n x1c out outn outc put _ w2 ⟨j, os, rfl, hj, hno, hro, hon, hol, hob, c2, s2, hput⟩
 have hr2 := h.chg c2 (by simp)
 refine ⟨fun hlt => ?_, fun hge => ?_⟩
 ·have hjn : j < ys.length := by have := of_decide_eq_true hlt; omega
  obtain ⟨y, hy⟩ := get_of hjn
  have hdrop : ys.drop j = y :: ys.drop (j + 1) := by
   rw [List.drop_eq_getElem_cons hjn]
   rw [List.getElem?_eq_getElem hjn] at hy
   cases hy; rfl
  obtain ⟨a, ha, hcs⟩ := (row_cells hr2 hn).2 j y hy
  refine ⟨a, ha, by omega, by omega, fun w3 c3 => ?_⟩
  have s3 := c3.size
  have hcs3 := c3.cells (by simp) hcs
  have c03 := c2.trans0 c3
  have hro3 := hro.chg c3 (by simp)
  refine ⟨y.1, y.2, by simpa using hcs3, fun he => ?_, fun hne => ?_⟩
  ·have hyp : y = p := by simp at he; exact Prod.ext he.1 he.2
   have hin : p ∈ ys := hyp ▸ List.mem_of_getElem? hy
   exact ⟨c03, by rw [if_pos hin]; exact h.chg c03 (by simp), by rw [if_pos hin]; exact hn, fun i hi => .inl hi⟩
  have hyp : y ≠ p := fun e => by subst e; simp at hne
  have hno' : ∀ k z, k < j + 1 → ys[k]? = some z → z ≠ p := fun k z hk hz => by
   by_cases hkj : k < j
   ·exact hno k z hkj hz
   ·have : k = j := by omega
    subst this
    rw [hy] at hz; cases hz; exact hyp
  refine ⟨fun out2 out2n out2c put2 w4 => ∃ os2 : List Pl, RowAt w4 27 2 out2 out2n out2c (os2.flatMap encPl) ∧ out2n = os2.length ∧ os2.length ≤ j + 1 ∧ (∀ i ∈ rowB out2, w1.heap.size ≤ i) ∧ Chg [] w w4 ∧ w1.heap.size ≤ w4.heap.size ∧
    (if put2 then os2 ++ ys.drop j = insP p ys else os2 = ys.take j ∧ os2 ++ (y :: insP p (ys.drop (j + 1))) = insP p ys), ?_, ?_⟩
  ·rintro out2 out2n out2c put2 w4 ⟨os2, k1, k2, k2', k3, k4, k5, k6⟩
   refine ⟨y.1, y.2, by simpa using (h.chg k4 (by simp) |> fun h4 => by
    obtain ⟨a', ha', hc'⟩ := (row_cells h4 hn).2 j y hy
    rw [ha] at ha'; cases ha'; exact hc'), ?_⟩
   refine v_alloc fun b2 w5 e2 hb2 c5 => ?_
   have s5 := c5.size
   obtain ⟨l2, l2n, l2c, w6, happ, hrow, hln, c6, hnew⟩ := push_place (k1.chg c5 (by simp)) k2 (by omega) hb2
   have s6 := c6.size
   refine ⟨l2, l2n, l2c, w6, happ, Same.of c6 (fun i hi => by
    simp at hi; subst hi
    exact ⟨by omega, fun hm => by have := k3 _ hm; omega⟩), ?_⟩
   rw [wr (by omega) (by omega)]
   refine ⟨⟨j + 1, os2 ++ [y], by omega, by omega, hno', hrow, hln, by simp; omega, fun i hi => ?_, (k4.trans0 c5).trans c6 (fun i hi hlt' => by have := k3 i hi; have := c1.size; omega), by omega, ?_⟩, by simp only []; omega⟩
   ·rcases hnew i hi with h' | h'
    ·exact k3 i h'
    ·omega
   ·cases put2 with
    | true =>
     simp only [if_true] at k6 ⊢
     rw [← k6, hdrop]; simp
    | false =>
     simp only [Bool.false_eq_true, if_false] at k6 ⊢
     rw [take_snoc hy, k6.1]
     refine ⟨rfl, ?_⟩
     rw [← k6.2, k6.1]; simp
  ·intro w7 c7
   have s7 := c7.size
   have c07 := c03.trans0 c7
   refine ⟨fun b w8 => b = (!put && decide (ltPl p y)) ∧ Chg [] w3 w8, ?_, fun hnp => ?_, fun hp => ?_⟩
   ·rintro _ w8 ⟨rfl, c8⟩
    have s8 := c8.size
    have c08 := c03.trans0 c8
    refine ⟨fun hb => ?_, fun hb => ?_⟩
    ·simp only [Bool.and_eq_true, Bool.not_eq_true', decide_eq_true_eq] at hb
     obtain ⟨rfl, hlt'⟩ := hb
     simp only [Bool.false_eq_true, if_false] at hput
     refine v_alloc fun b4 w10 e4 hb4 c10 => ?_
     have s10 := c10.size
     obtain ⟨l3, l3n, l3c, w11, happ, hrow, hln, c11, hnew⟩ := push_place ((hro3.chg c8 (by simp)).chg c10 (by simp)) hon (by omega) hb4
     have s11 := c11.size
     refine ⟨l3, l3n, l3c, w11, happ, Same.of c11 (fun i hi => by
      simp at hi; subst hi
      exact ⟨by omega, fun hm => by have := hob _ hm; omega⟩), os ++ [p], hrow, hln, by rw [List.length_append, hput.1, List.length_take]; simp; omega, fun i hi => ?_, (c08.trans0 c10).trans c11 (fun i hi hlt' => by have := hob i hi; have := c1.size; omega), by omega, ?_⟩
     ·rcases hnew i hi with h' | h'
      ·exact hob i h'
      ·omega
     ·simp only [if_true]
      rw [← hput.2, hdrop]
      unfold insP
      rw [if_pos hlt']; simp
    ·refine ⟨os, hro3.chg c8 (by simp), hon, hol, hob, c08, by omega, ?_⟩
     cases put with
     | true => simpa using hput
     | false =>
      simp only [Bool.not_false, Bool.true_and, decide_eq_false_iff_not] at hb
      simp only [Bool.false_eq_true, if_false] at hput ⊢
      refine ⟨hput.1, ?_⟩
      rw [← hput.2, hdrop]
      conv => rhs; unfold insP
      rw [if_neg hb]
   ·have hnp' : put = false := by simpa using hnp
    subst hnp'
    refine ⟨y.1, y.2, by simpa using c7.cells (by simp) hcs3, ?_⟩
    refine (ref_aheadQ w7 p y).mono ?_
    rintro _ w9 ⟨_, rfl, rfl, c9⟩
    exact ⟨_, rfl, Same.chg c9 (by simp; omega), by simp, c7.trans0 c9⟩
   ·have hp' : put = true := by simpa using hp
    subst hp'
    exact ⟨by simp, c7⟩
 ·have hjn : j = ys.length := by have := of_decide_eq_false hge; omega
  have hnin : p ∉ ys := fun hm => by
   obtain ⟨k, hk⟩ := List.getElem?_of_mem hm
   exact hno k p (by have := (List.getElem?_eq_some_iff.1 hk).1; omega) hk rfl
  rw [if_neg hnin]
  refine ⟨fun out3 out3n out3c w12 => Chg [] w w12 ∧ RowAt w12 27 2 out3 out3n out3c ((insP p ys).flatMap encPl) ∧ out3n = (insP p ys).length ∧ ∀ i ∈ rowB out3, w1.heap.size ≤ i, fun out3 out3n out3c w12 hh => ⟨hh.1, hh.2.1, hh.2.2.1, fun i hi => .inr (by have := hh.2.2.2 i hi; have := c1.size; omega)⟩, fun hnp => ?_, fun hp => ?_⟩
  ·have hnp' : put = false := by simpa using hnp
   subst hnp'
   simp only [Bool.false_eq_true, if_false] at hput
   refine v_alloc fun b5 w13 e5 hb5 c13 => ?_
   have s13 := c13.size
   obtain ⟨l4, l4n, l4c, w14, happ, hrow, hln, c14, hnew⟩ := push_place (hro.chg c13 (by simp)) hon (by omega) hb5
   have hfin : os ++ [p] = insP p ys := by
    rw [← hput.2, List.drop_of_length_le (by omega)]; rfl
   refine ⟨l4, l4n, l4c, w14, happ, (c2.trans0 c13).trans c14 (fun i hi hlt' => by have := hob i hi; have := c1.size; omega), by rw [← hfin]; exact hrow, by rw [← hfin]; exact hln, fun i hi => ?_⟩
   rcases hnew i hi with h' | h'
   ·exact hob i h'
   ·omega
  ·have hp' : put = true := by simpa using hp
   subst hp'
   simp only [if_true] at hput
   rw [List.drop_of_length_le (by omega), List.append_nil] at hput
   rw [← hput]
   exact ⟨c2, hro, hon, hob⟩
end Go.Proofs.YtfcfkhbkkfpehaaDoor
end
section
/- The document's Roots: from what is still to be looked at, one by one. -/
namespace Go.Proofs.YtfcfkhbkkfpehaaDoor
open Go Go.RowKit Go.X Go.XR
def encWl (u : Wh) : List Value := [.int .i64 u.1.1, .int .i64 u.1.2, .int .i64 u.2]
theorem flat_get3 : ∀ (xs : List Wh) (j : Nat) (x : Wh), xs[j]? = some x → ∀ k u, (encWl x)[k]? = some u → (xs.flatMap encWl)[j * 3 + k]? = some u
 | [], j, x, h, k, u, hk => by simp at h
 | a :: l, 0, x, h, k, u, hk => by
  simp at h; subst h
  have hl := (List.getElem?_eq_some_iff.1 hk).1
  simp only [List.flatMap_cons, Nat.zero_mul, Nat.zero_add]
  rw [List.getElem?_append_left hl]; exact hk
 | a :: l, j + 1, x, h, k, u, hk => by
  have := flat_get3 l j x (by simpa using h) k u hk
  simp only [List.flatMap_cons]
  rw [List.getElem?_append_right (by simp [encWl]; omega)]
  rw [show (j + 1) * 3 + k - (encWl a).length = j * 3 + k by simp [encWl]; omega]
  exact this
theorem when_cells {w : World} {p : Option Addr} {n c : Nat} {xs : List Wh} (h : RowAt w 73 3 p n c (xs.flatMap encWl)) {j : Nat} {x : Wh} (hj : xs[j]? = some x) :
  ∃ a, p = some a ∧ CellsAt w (a.add (j * 3)) 0 [.int .i64 x.1.1, .int .i64 x.1.2, .int .i64 x.2] := by
 obtain ⟨a, ha, c0⟩ := h.at (flat_get3 xs j x hj 0 _ rfl)
 have hk : ∀ k u, (encWl x)[k]? = some u → w.cell? ((a.add (j * 3)).add k) = some u := fun k u hk => by
  obtain ⟨a', ha', ck⟩ := h.at (flat_get3 xs j x hj k u hk)
  rw [ha] at ha'
  cases ha'
  rw [add_add]; exact ck
 exact ⟨a, ha, hk 0 _ rfl, hk 1 _ rfl, hk 2 _ rfl, trivial⟩
theorem push_when {w : World} {p : Option Addr} {n c : Nat} {xs : List Wh} (h : RowAt w 73 3 p n c (xs.flatMap encWl)) (hn : n = xs.length) (hle : n ≤ 1000000000000) {x : Wh} {b : Nat} (hb : w.heap[b]? = some (.cells #[.int .i64 x.1.1, .int .i64 x.1.2, .int .i64 x.2] 73 (0, 0))) :
  ∃ (p' : Option Addr) (n' c' : Nat) (w' : World), (Builtin.append_ #[74, 74] 74 #[.slice p n c, .slice (some (⟨b, 0, none⟩ : Addr)) 1 1]).run Tryd.prog w = .ok (.slice p' n' c') w' ∧ RowAt w' 73 3 p' n' c' ((xs ++ [x]).flatMap encWl) ∧ n' = (xs ++ [x]).length ∧ Chg (rowB p) w w' ∧ ∀ i ∈ rowB p', i ∈ rowB p ∨ w.heap.size ≤ i := by
 obtain ⟨p', c', w', happ, hrow, hc, hnew⟩ := h.append (P := Tryd.prog) (t := 74) (ty := 74) (i := Tryd.t73) (z := .agg #[.int .i64 0, .int .i64 0, .int .i64 0]) (bytes := 24) (by kernel_rfl) (by kernel_rfl) (by kernel_rfl) (by kernel_rfl) (by kernel_rfl) rfl (by omega)
  (a := ⟨b, 0, none⟩) (m := 1) (mc := 1) (news := encWl x) rfl (fun j u hj => by
   match j, hj with
   | 0, hj => simp [encWl] at hj; subst hj; rw [add_at, cell_of hb]; rfl
   | 1, hj => simp [encWl] at hj; subst hj; rw [add_at, cell_of hb]; rfl
   | 2, hj => simp [encWl] at hj; subst hj; rw [add_at, cell_of hb]; rfl
   | j + 3, hj => simp [encWl] at hj) (fun u hu => by simp [encWl] at hu; rcases hu with rfl | rfl | rfl <;> rfl) (by unfold maxLen; omega) (by omega)
 exact ⟨p', n + 1, c', w', happ, by rw [List.flatMap_append]; simpa using hrow, by simp [hn], hc, hnew⟩
structure AllIsQ (ns : List Nt) (a : Wh) (A : List Wh) (k : Nat) (ys : List Pl) : Prop where
 nodup : A.Nodup
 first : a ∈ A
 reach : ∀ u ∈ A, Reach ns a u
 closed : ∀ i u, i < k → A[i]? = some u → ∀ v ∈ kids ns u, v ∈ A
 rise : ys.Pairwise ltPl
 found : ∀ q, q ∈ ys ↔ ∃ i u, i < k ∧ A[i]? = some u ∧ u.1 = q ∧ bef (ofPl ns u.1) u.2 = none
theorem reach_univ {ns : List Nt} {a u : Wh} (h : Reach ns a u) : u ∈ univ ns a := by
 induction h with
 | refl => exact .head _
 | step _ hc _ => exact univ_kids ns a _ _ hc
theorem ref_rootsQ {w : World} {S : Nat → Prop} {q : Option Addr} {n c : Nat} {ns : List Nt} (h : NotesAt w S q n c ns) (hS : ∀ i, S i → i < w.heap.size) (hn : ns.length ≤ 1000) (hM : ∀ nt ∈ ns, nt.2.2.length ≤ 1000) (p : Pl) (s : Int) :
  Calls Tryd.prog 14 #[.slice q n c, .agg #[.int .i64 p.1, .int .i64 p.2], .int .i64 s] w fun e w' => ∃ (r : Option Addr) (rn rc : Nat), e = .returned (.slice r rn rc) ∧
   (Chg [] w w' ∧ ∃ ys : List Pl, CellsP w' (r, rn, rc) ys ∧ ys.Pairwise ltPl ∧ ∀ z, z ∈ ys ↔ isRoot ns (p, s) z) := by
 have hl := h.len
 have hU : (univ ns (p, s)).length ≤ 1000001 := by
  have := flat_len (fun n : Nt => n.2.2.map (fun q => ((q, n.1) : Wh))) 1000 ns (fun n hn' => by simpa using hM n hn')
  unfold univ
  rw [List.length_cons]
  have : 1000 * ns.length ≤ 1000000 := by omega
  omega
 obtain ⟨B, hB⟩ : ∃ B : Nat, B = (univ ns (p, s)).length := ⟨_, rfl⟩
 rw [← hB] at hU
 have hAlen : ∀ {A : List Wh}, A.Nodup → (∀ u ∈ A, Reach ns (p, s) u) → A.length ≤ B := fun hA hr => by rw [hB]; exact nodup_sub_length hA (fun u hu => reach_univ (hr u hu))
 refine go_pomanderref12_Roots _ _ _ _ _ _ _ _ ?_
 unfold W_pomanderref12_Roots
 rintro b1 w1 ⟨l1, u1⟩ c1
 refine v_alloc fun b2 w2 e2 hb2 c2 => ?_
 have s1 := c1.size
 have s2 := c2.size
 have k2 := lt_of_heap hb2
 have hrow0 : RowAt w2 73 3 (some ⟨b2, 0, none⟩) 1 1 ([(p, s)].flatMap encWl) := RowAt.of_heap (n := 1) hb2 rfl (by simp [maxLen])
 refine ⟨fun all alln allc out outn outc k w3 => ∃ (j : Nat) (A : List Wh) (ys : List Pl), k = (j : Int) ∧ j ≤ A.length ∧ AllIsQ ns (p, s) A j ys ∧ RowAt w3 73 3 all alln allc (A.flatMap encWl) ∧ alln = A.length ∧ (∀ i ∈ rowB all, w.heap.size ≤ i) ∧ RowAt w3 27 2 out outn outc (ys.flatMap encPl) ∧ outn = ys.length ∧ ys.length ≤ j ∧ (∀ i ∈ rowB out, w.heap.size ≤ i) ∧ Chg [] w w3 ∧ NotesAt w3 S q n c ns,
  fun _ _ _ _ _ _ k _ => ((B : Int) - k).toNat, ⟨0, [(p, s)], [], rfl, Nat.zero_le _, ⟨by simp, by simp, fun u hu => by simp at hu; subst hu; exact .refl, fun i u hi => absurd hi (Nat.not_lt_zero _), .nil, fun z => by simp⟩, hrow0, rfl, by simp [rowB]; omega, RowAt.nil, rfl, by simp, by simp [rowB], c1.trans0 c2, h.chg (c1.trans0 c2) (by simp) (by simp)⟩, ?_⟩
 rintro all alln allc out outn outc _ w3 ⟨j, A, ys, rfl, hj, hI, hall, halln, hallf, hout, houtn, hyj, houtf, c3, hN⟩
 have hA := hAlen hI.nodup hI.reach
 refine ⟨fun hlt => ?_, fun hge => ?_⟩
 ·have hjn : j < A.length := by have := of_decide_eq_true hlt; omega
  obtain ⟨u, hu⟩ := get_of hjn
  have hum : u ∈ A := List.mem_of_getElem? hu
  obtain ⟨a, ha, hcs⟩ := when_cells hall hu
  refine ⟨fun all2 all2n all2c out2 out2n out2c w4 => ∃ (A2 : List Wh) (ys2 : List Pl), j + 1 ≤ A2.length ∧ AllIsQ ns (p, s) A2 (j + 1) ys2 ∧ RowAt w4 73 3 all2 all2n all2c (A2.flatMap encWl) ∧ all2n = A2.length ∧ (∀ i ∈ rowB all2, w.heap.size ≤ i) ∧ RowAt w4 27 2 out2 out2n out2c (ys2.flatMap encPl) ∧ out2n = ys2.length ∧ ys2.length ≤ j + 1 ∧ (∀ i ∈ rowB out2, w.heap.size ≤ i) ∧ Chg [] w w4 ∧ NotesAt w4 S q n c ns, ?_, a, ha, by omega, by omega, fun w5 c5 => ?_⟩
  ·rintro all2 all2n all2c out2 out2n out2c w4 ⟨A2, ys2, kk⟩
   rw [wr (by omega) (by omega)]
   exact ⟨⟨j + 1, A2, ys2, by omega, kk⟩, by simp only []; omega⟩
  have hcs5 := c5.cells (by simp) hcs
  have hN5 := hN.chg (f := []) c5 (by simp) (by simp)
  refine ⟨u.1.1, u.1.2, ⟨hcs5.1, hcs5.2.1, trivial⟩, u.2, hcs5.2.2.1, ?_⟩
  refine (ref_last hN5 (by omega) u.1 u.2).mono ?_
  rintro _ w6 ⟨r2, rfl, hlast, c6⟩
  have c36 := c5.trans0 c6
  have c06 := c3.trans0 c36
  have hcs6 := c36.cells (by simp) hcs
  have hN6 := hN.chg (f := []) c36 (by simp) (by simp)
  have hall6 := hall.chg c36 (by simp)
  have hout6 := hout.chg c36 (by simp)
  refine ⟨r2, rfl, fun hneg => ?_, fun hpos => ?_⟩
  · -- no earlier note: found
   have hneg' := of_decide_eq_true hneg
   have hb : bef (ofPl ns u.1) u.2 = none := by
    rcases hlast with ⟨h1, _⟩ | ⟨i, nt, _, h2, _⟩
    ·exact h1
    ·omega
   refine ⟨u.1.1, u.1.2, ⟨hcs6.1, hcs6.2.1, trivial⟩, ?_⟩
   refine (ref_with hout6 houtn (by omega) u.1).mono ?_
   rintro _ w7 ⟨r3, r3n, r3c, rfl, c7, hrow7, hlen7, hf7⟩
   have s6 := c06.size
   refine ⟨r3, r3n, r3c, rfl, A, _, by omega, ⟨hI.nodup, hI.first, hI.reach, fun i v hi hv => ?_, ?_, fun z => ?_⟩, hall6.chg c7 (by simp), halln, hallf, hrow7, hlen7, ?_, fun i hi => ?_, c06.trans0 c7, hN6.chg c7 (by simp) (by simp)⟩
   ·by_cases hij : i < j
    ·exact hI.closed i v hij hv
    ·have : i = j := by omega
     subst this
     rw [hu] at hv; cases hv
     intro x hx
     unfold kids at hx
     rw [hb] at hx; simp at hx
   ·split
    ·exact hI.rise
    ·rename_i hni; exact rise_insP hI.rise hni
   ·have : z ∈ (if u.1 ∈ ys then ys else insP u.1 ys) ↔ z = u.1 ∨ z ∈ ys := by
     split
     ·rename_i hin
      exact ⟨.inr, fun h => h.elim (fun e => e ▸ hin) id⟩
     ·exact mem_insP _ _ _
    rw [this, hI.found]
    constructor
    ·rintro (rfl | ⟨i, v, h1, h2, h3, h4⟩)
     ·exact ⟨j, u, by omega, hu, rfl, hb⟩
     ·exact ⟨i, v, by omega, h2, h3, h4⟩
    ·rintro ⟨i, v, h1, h2, h3, h4⟩
     by_cases hij : i < j
     ·exact .inr ⟨i, v, hij, h2, h3, h4⟩
     ·have : i = j := by omega
      subst this
      rw [hu] at h2; cases h2
      exact .inl h3.symm
   ·split
    ·omega
    ·rw [length_insP]; omega
   ·rcases hf7 i hi with h' | h'
    ·exact houtf i h'
    ·omega
  ·have hpos' := of_decide_eq_false hpos
   obtain ⟨i, nt, hb, rfl, hnt⟩ := hlast.resolve_left (fun h => by omega)
   have hntm : nt ∈ ns := List.mem_of_getElem? hnt
   have hil : i < ns.length := (List.getElem?_eq_some_iff.1 hnt).1
   have hkids : kids ns u = nt.2.2.map (fun z => (z, nt.1)) := by unfold kids; rw [hb]
   have hM' := hM nt hntm
   -- the note's cells, in any later world
   have note : ∀ {W : World}, NotesAt W S q n c ns → ∃ (a2 : Addr) (f fn fc : _), q = some a2 ∧ CellsAt W (a2.add (i * 4)) 0 [.int .i64 nt.1, .int .i64 nt.2.1.1, .int .i64 nt.2.1.2, .slice f fn fc] ∧ PlacesAt W S f fn nt.2.2 := fun hW => by
    obtain ⟨g, g1, g2, g3⟩ := hW.there
    obtain ⟨x, hx, hxe⟩ : ∃ x, g[i]? = some x ∧ x.1 = nt := by
     rw [← g1, List.getElem?_map] at hnt
     cases hg : g[i]? with
     | none => rw [hg] at hnt; simp at hnt
     | some x => rw [hg] at hnt; simp at hnt; exact ⟨x, rfl, hnt⟩
    obtain ⟨a2, ha2, hc2⟩ := note_cells g2 hx
    rw [← hxe]
    exact ⟨a2, x.2.1, x.2.2.1, x.2.2.2, ha2, hc2, g3 x (List.mem_of_getElem? hx)⟩
   refine ⟨fun all3 all3n all3c k w8 => ∃ (m : Nat) (A3 : List Wh), k = (m : Int) ∧ m ≤ nt.2.2.length ∧ A <+: A3 ∧ A3.Nodup ∧ (∀ v ∈ A3, Reach ns (p, s) v) ∧ (∀ x z, x < m → nt.2.2[x]? = some z → (z, nt.1) ∈ A3) ∧ RowAt w8 73 3 all3 all3n all3c (A3.flatMap encWl) ∧ all3n = A3.length ∧ (∀ i ∈ rowB all3, w.heap.size ≤ i) ∧ RowAt w8 27 2 out outn outc (ys.flatMap encPl) ∧ Chg [] w w8 ∧ NotesAt w8 S q n c ns,
    fun _ _ _ k _ => (nt.2.2.length - k).toNat, ⟨0, A, rfl, Nat.zero_le _, List.prefix_refl _, hI.nodup, hI.reach, fun x z hx => absurd hx (Nat.not_lt_zero _), hall6, halln, hallf, hout6, c06, hN6⟩, ?_⟩
   rintro all3 all3n all3c _ w8 ⟨m, A3, rfl, hm, hpre, hnd3, hr3, hk3, hall3, hall3n, hall3f, hout8, c8, hN8⟩
   obtain ⟨a2, f, fn, fc, ha2, hcn, hpl⟩ := note hN8
   have hfl := hpl.length
   have hA3 := hAlen hnd3 hr3
   have hpl3 := hpre.length_le
   refine ⟨a2, ha2, by omega, by omega, f, fn, fc, by simpa using hcn.2.2.2.1, fun hlt2 => ?_, fun hge2 => ?_⟩
   ·have hmn : m < nt.2.2.length := by have := of_decide_eq_true hlt2; omega
    obtain ⟨z, hz⟩ := get_of hmn
    refine ⟨fun all4 all4n all4c w9 => ∃ A4 : List Wh, A <+: A4 ∧ A4.Nodup ∧ (∀ v ∈ A4, Reach ns (p, s) v) ∧ (∀ x z, x < m + 1 → nt.2.2[x]? = some z → (z, nt.1) ∈ A4) ∧ RowAt w9 73 3 all4 all4n all4c (A4.flatMap encWl) ∧ all4n = A4.length ∧ (∀ i ∈ rowB all4, w.heap.size ≤ i) ∧ RowAt w9 27 2 out outn outc (ys.flatMap encPl) ∧ Chg [] w w9 ∧ NotesAt w9 S q n c ns, ?_, fun w10 c10 => ?_⟩
    ·rintro all4 all4n all4c w9 ⟨A4, kk⟩
     rw [wr (by omega) (by omega)]
     exact ⟨⟨m + 1, A4, by omega, by omega, kk⟩, by simp only []; omega⟩
    have hcn10 := c10.cells (by simp) hcn
    obtain ⟨_, _, a3, ha3, hSa3, hz3⟩ := (hpl.chg (f := []) c10 (by simp)).each m z hz
    refine ⟨f, fn, fc, by simpa using hcn10.2.2.2.1, a3, ha3, by omega, by omega, z.1, z.2, by simpa using hz3, nt.1, hcn10.1, ?_⟩
    rintro b3 w12 ⟨l3, u3⟩ c12
    have c812 := c10.trans0 c12
    have hkz : (z, nt.1) ∈ kids ns u := by rw [hkids]; exact List.mem_map.2 ⟨z, List.mem_of_getElem? hz, rfl⟩
    have c012 := c8.trans0 c812
    refine ⟨fun there mv w13 => ∃ x : Nat, mv = (x : Int) ∧ x ≤ A3.length ∧ there = decide ((z, nt.1) ∈ A3.take x) ∧ Chg [] w8 w13, fun _ mv _ => (A3.length - mv).toNat, ⟨0, rfl, Nat.zero_le _, by simp, c812⟩, ?_⟩
    rintro _ _ w13 ⟨x, rfl, hx, rfl, c13⟩
    have hall13 := hall3.chg c13 (by simp)
    refine ⟨fun hlt3 w14 c14 => ?_, fun hge3 => ?_⟩
    ·have hxn : x < A3.length := by have := of_decide_eq_true hlt3; omega
     obtain ⟨v, hv⟩ := get_of hxn
     obtain ⟨a4, ha4, hc4⟩ := when_cells (hall13.chg c14 (by simp)) hv
     have hmem : (z, nt.1) ∈ A3.take (x + 1) ↔ (z, nt.1) ∈ A3.take x ∨ v = (z, nt.1) := by
      rw [take_snoc hv]; simp [eq_comm]
     refine ⟨fun b w15 => b = decide ((z, nt.1) ∈ A3.take (x + 1)) ∧ Chg [] w8 w15, ?_, fun hf => ⟨a4, ha4, by omega, by omega, v.1.1, v.1.2, v.2, by simpa using hc4, ?_, c13.trans0 c14⟩, fun ht => ⟨?_, c13.trans0 c14⟩⟩
     ·rintro _ w15 ⟨rfl, c15⟩
      rw [wr (by omega) (by omega)]
      exact ⟨⟨x + 1, by omega, by omega, rfl, c15⟩, by simp only []; omega⟩
     ·have hf' := of_decide_eq_false hf
      by_cases e : v = (z, nt.1)
      ·rw [decide_eq_true (hmem.2 (.inr e)), e]; simp
      ·rw [decide_eq_false (fun h => (hmem.1 h).elim hf' e)]
       cases hq' : ((v.1.1 == z.1) && (v.1.2 == z.2) && (v.2 == nt.1)) with
       | false => rfl
       | true => simp at hq'; exact absurd (Prod.ext (Prod.ext hq'.1.1 hq'.1.2) hq'.2) e
     ·symm; exact decide_eq_true (hmem.2 (.inl (of_decide_eq_true ht)))
    ·have hxn : x = A3.length := by have := of_decide_eq_false hge3; omega
     subst hxn
     rw [List.take_length]
     have hout13 := hout8.chg c13 (by simp)
     have hN13 := hN8.chg c13 (by simp) (by simp)
     have c013 := c8.trans0 c13
     have hk4 : ∀ {A4 : List Wh}, (∀ v ∈ A3, v ∈ A4) → (z, nt.1) ∈ A4 → ∀ x z', x < m + 1 → nt.2.2[x]? = some z' → (z', nt.1) ∈ A4 := fun hs hz4 x z' hx' hz' => by
      by_cases hxm : x < m
      ·exact hs _ (hk3 x z' hxm hz')
      ·have : x = m := by omega
       subst this
       rw [hz] at hz'; cases hz'; exact hz4
     refine ⟨fun hnt => ?_, fun ht => ?_⟩
     ·have hnin : (z, nt.1) ∉ A3 := by simpa using hnt
      refine v_alloc fun b5 w16 e5 hb5 c16 => ?_
      have s16 := c16.size
      have s13 := c013.size
      obtain ⟨l2, l2n, l2c, w17, happ, hrow, hln, c17, hnew⟩ := push_when (x := ((z, nt.1) : Wh)) (hall13.chg c16 (by simp)) hall3n (by omega) hb5
      have hSall : ∀ i ∈ rowB all3, ¬ S i := fun i hi hSi => by have := hS i hSi; have := hall3f i hi; omega
      obtain ⟨g, g1, g2, g3⟩ := hN13.there
      refine ⟨l2, l2n, l2c, w17, happ, A3 ++ [(z, nt.1)], hpre.trans (List.prefix_append _ _), ?_, fun v hv => ?_, hk4 (fun v hv => by simp [hv]) (by simp), hrow, hln, fun i hi => ?_, (hout13.chg c16 (by simp)).chg c17 (row_apart hout13 hall13 (by decide)), (c013.trans0 c16).trans c17 (fun i hi hlt' => by have := hall3f i hi; omega), (hN13.chg c16 (by simp) (by simp)).chg c17 (row_apart g2 hall13 (by decide)) hSall⟩
      ·rw [List.nodup_append]
       refine ⟨hnd3, by simp, fun a' ha' b' hb' e => ?_⟩
       simp at hb'
       subst hb'; subst e
       exact hnin ha'
      ·rcases List.mem_append.1 hv with hv | hv
       ·exact hr3 v hv
       ·simp at hv; subst hv
        exact .step (hI.reach u hum) hkz
      ·rcases hnew i hi with h' | h'
       ·exact hall3f i h'
       ·omega
     ·have hin : (z, nt.1) ∈ A3 := by simpa using ht
      exact ⟨A3, hpre, hnd3, hr3, hk4 (fun v hv => hv) hin, hall13, hall3n, hall3f, hout13, c013, hN13⟩
   ·have hmn : m = nt.2.2.length := by have := of_decide_eq_false hge2; omega
    have hget : ∀ i v, i < A.length → A3[i]? = some v → A[i]? = some v := fun i v hi hv => by
     obtain ⟨t, rfl⟩ := hpre
     rw [List.getElem?_append_left hi] at hv; exact hv
    have hget' : ∀ i v, A[i]? = some v → A3[i]? = some v := fun i v hv => by
     obtain ⟨t, rfl⟩ := hpre
     rw [List.getElem?_append_left (List.getElem?_eq_some_iff.1 hv).1]; exact hv
    have hsub : ∀ v ∈ A, v ∈ A3 := fun v hv => hpre.subset hv
    refine ⟨A3, ys, by omega, ⟨hnd3, hsub _ hI.first, hr3, fun i v hi hv => ?_, hI.rise, fun z => ?_⟩, hall3, hall3n, hall3f, hout8, houtn, by omega, houtf, c8, hN8⟩
    ·have hv' := hget i v (by omega) hv
     by_cases hij : i < j
     ·exact fun x hx => hsub x (hI.closed i v hij hv' x hx)
     ·have : i = j := by omega
      subst this
      rw [hu] at hv'; cases hv'
      intro x hx
      rw [hkids] at hx
      obtain ⟨y, hy, rfl⟩ := List.mem_map.1 hx
      obtain ⟨y', hy'⟩ := List.getElem?_of_mem hy
      exact hk3 y' y (by have := (List.getElem?_eq_some_iff.1 hy').1; omega) hy'
    ·rw [hI.found]
     constructor
     ·rintro ⟨i, v, h1, h2, h3, h4⟩
      exact ⟨i, v, by omega, hget' i v h2, h3, h4⟩
     ·rintro ⟨i, v, h1, h2, h3, h4⟩
      have h2' := hget i v (by omega) h2
      by_cases hij : i < j
      ·exact ⟨i, v, hij, h2', h3, h4⟩
      ·have : i = j := by omega
       subst this
       rw [hu] at h2'; cases h2'
       rw [hb] at h4; cases h4
 ·have hjn : j = A.length := by have := of_decide_eq_false hge; omega
  refine ⟨c3, ys, row_cells hout houtn, hI.rise, fun z => ?_⟩
  have hcl : ∀ v, Reach ns (p, s) v → v ∈ A := fun v hv => by
   induction hv with
   | refl => exact hI.first
   | step _ hc ih =>
    obtain ⟨i, hi⟩ := List.getElem?_of_mem ih
    exact hI.closed i _ (by have := (List.getElem?_eq_some_iff.1 hi).1; omega) hi _ hc
  rw [hI.found]
  constructor
  ·rintro ⟨i, v, _, h2, h3, h4⟩
   exact ⟨v, hI.reach v (List.mem_of_getElem? h2), h3, h4⟩
  ·rintro ⟨v, hv, h3, h4⟩
   obtain ⟨i, hi⟩ := List.getElem?_of_mem (hcl v hv)
   exact ⟨i, v, by have := (List.getElem?_eq_some_iff.1 hi).1; omega, hi, h3, h4⟩
end Go.Proofs.YtfcfkhbkkfpehaaDoor
end
section
/- Bytes that came in. -/
namespace Go.Proofs.YtfcfkhbkkfpehaaDoor
open Go Go.RowKit Go.X
structure BytesAt (w : World) (S : Nat → Prop) (p : Option Addr) (n : Nat) (gs : List Int) : Prop where
 length : gs.length = n
 each : ∀ (j : Nat) (g : Int), gs[j]? = some g → 0 ≤ g ∧ g ≤ 255 ∧ ∃ a, p = some a ∧ S a.block ∧ w.cell? (a.add (j * 1)) = some (.int .u8 g)
theorem BytesAt.chg {w w' : World} {S : Nat → Prop} {p : Option Addr} {n : Nat} {gs : List Int} {f : List Nat} (h : BytesAt w S p n gs) (hc : Chg f w w') (hf : ∀ i ∈ f, ¬ S i) : BytesAt w' S p n gs :=
 ⟨h.length, fun j g hg => let ⟨h1, h2, a, h3, h4, h5⟩ := h.each j g hg; ⟨h1, h2, a, h3, h4, hc.cell (by rw [add_block]; exact fun hm => hf _ hm h4) h5⟩⟩
structure StepsAt (w : World) (S : Nat → Prop) (p : Option Addr) (n : Nat) (ss : List Int) : Prop where
 length : ss.length = n
 each : ∀ (j : Nat) (g : Int), ss[j]? = some g → i64s g ∧ ∃ a, p = some a ∧ S a.block ∧ w.cell? (a.add (j * 1)) = some (.int .i64 g)
theorem StepsAt.chg {w w' : World} {S : Nat → Prop} {p : Option Addr} {n : Nat} {ss : List Int} {f : List Nat} (h : StepsAt w S p n ss) (hc : Chg f w w') (hf : ∀ i ∈ f, ¬ S i) : StepsAt w' S p n ss :=
 ⟨h.length, fun j g hg => let ⟨h1, a, h3, h4, h5⟩ := h.each j g hg; ⟨h1, a, h3, h4, hc.cell (by rw [add_block]; exact fun hm => hf _ hm h4) h5⟩⟩
end Go.Proofs.YtfcfkhbkkfpehaaDoor
end
section
namespace Go.Proofs.YtfcfkhbkkfpehaaDoor
open Go Go.X
/- pomander/pomanderlaw14.QueryRoots -/
def W_pomanderlaw14_QueryRoots (l1 : Option Addr) (l1n : Nat) (l1c : Nat) (places1 : Option Addr) (places1n : Nat) (places1c : Nat) (steps1 : Option Addr) (steps1n : Nat) (steps1c : Nat) (w : World) (R : Bool → World → Prop) : Prop :=
 Calls Tryd.prog 11 #[.slice l1 l1n l1c] w fun e w1 => ∃ (r2 : Bool), e = .returned (.bool r2) ∧ ((((r2 || decide ((places1n : Int) > 10)) || decide ((steps1n : Int) > 10)) = true → Calls Tryd.prog 7 #[] w1 fun e w2 => ∃ (r3 : Bool), e = .returned (.bool r3) ∧ (R r3 w2)) ∧ (((r2 || decide ((places1n : Int) > 10)) || decide ((steps1n : Int) > 10)) = false → Calls Tryd.prog 12 #[.slice l1 l1n l1c] w1 fun e w3 => ∃ (r4 : Option Addr) (r5 : Option Addr) (r5n : Nat) (r5c : Nat) (r6 : Bool), e = .returned (.tuple #[.pointer r4, .slice r5 r5n r5c, .bool r6]) ∧ (((!r6) = true → R false w3) ∧ ((!r6) = false → ∃ (I1 : Bool → Int → World → Prop) (m1 : Bool → Int → World → Nat), I1 false 0 w3 ∧ ∀ (x1 : Bool) (i1 : Int) (w4 : World), I1 x1 i1 w4 → ((decide (i1 < (places1n : Int))) = true → ∃ (I2 : Bool → Int → World → Prop) (m2 : Bool → Int → World → Nat), I2 x1 0 w4 ∧ ∀ (x2 : Bool) (k1 : Int) (w5 : World), I2 x2 k1 w5 → ((decide (k1 < (steps1n : Int))) = true → ∃ a1 : Addr, places1 = some a1 ∧ (0 : Int) ≤ i1 ∧ i1 < (places1n : Int) ∧ (∀ (w6 : World), Chg [] w5 w6 → (∃ (t1 : Int) (t2 : Int), CellsAt w6 (a1.add (Int.toNat i1 * 2)) 0 [.int .i64 t1, .int .i64 t2] ∧ (∃ a2 : Addr, steps1 = some a2 ∧ (0 : Int) ≤ k1 ∧ k1 < (steps1n : Int) ∧ (∃ (t3 : Int), w6.cell? (a2.add (Int.toNat k1 * 1)) = some (.int .i64 t3) ∧ (Calls Tryd.prog 10 #[.pointer r4, .agg #[.int .i64 t1, .int .i64 t2], .int .i64 t3] w6 fun e w7 => ∃ (r7 : Option Addr) (r7n : Nat) (r7c : Nat), e = .returned (.slice r7 r7n r7c) ∧ (∀ (w8 : World), Chg [] w7 w8 → (∃ (t4 : Int) (t5 : Int), CellsAt w8 (a1.add (Int.toNat i1 * 2)) 0 [.int .i64 t4, .int .i64 t5] ∧ (∃ (t6 : Int), w8.cell? (a2.add (Int.toNat k1 * 1)) = some (.int .i64 t6) ∧ (Calls Tryd.prog 14 #[.slice r5 r5n r5c, .agg #[.int .i64 t4, .int .i64 t5], .int .i64 t6] w8 fun e w9 => ∃ (r8 : Option Addr) (r8n : Nat) (r8c : Nat), e = .returned (.slice r8 r8n r8c) ∧ ((CellsAt w9 (a1.add (Int.toNat i1 * 2)) 0 [.int .i64 t4, .int .i64 t5] ∧ w9.cell? (a2.add (Int.toNat k1 * 1)) = some (.int .i64 t6)) ∧ (Calls Tryd.prog 13 #[.slice r7 r7n r7c, .slice r8 r8n r8c] w9 fun e w10 => ∃ (r9 : Bool), e = .returned (.bool r9) ∧ (((!r9) = true → R false w10) ∧ ((!r9) = false → (I2 x2 (IntKind.wrap .i64 (k1 + 1)) w10 ∧ m2 x2 (IntKind.wrap .i64 (k1 + 1)) w10 < m2 x2 k1 w5))))))))))))))) ∧ ((decide (k1 < (steps1n : Int))) = false → (I1 x2 (IntKind.wrap .i64 (i1 + 1)) w5 ∧ m1 x2 (IntKind.wrap .i64 (i1 + 1)) w5 < m1 x1 i1 w4))) ∧ ((decide (i1 < (places1n : Int))) = false → Calls Tryd.prog 7 #[] w4 fun e w11 => ∃ (r10 : Bool), e = .returned (.bool r10) ∧ (R r10 w11))))))
set_option maxRecDepth 100000 in
theorem go_pomanderlaw14_QueryRoots (l1 : Option Addr) (l1n : Nat) (l1c : Nat) (places1 : Option Addr) (places1n : Nat) (places1c : Nat) (steps1 : Option Addr) (steps1n : Nat) (steps1c : Nat) (w : World) (R : Bool → World → Prop) (h : W_pomanderlaw14_QueryRoots l1 l1n l1c places1 places1n places1c steps1 steps1n steps1c w R) : Calls Tryd.prog 4 #[.slice l1 l1n l1c, .slice places1 places1n places1c, .slice steps1 steps1n steps1c] w (fun e w' => ∃ (r1 : Bool), e = .returned (.bool r1) ∧ R r1 w') := by
 unfold W_pomanderlaw14_QueryRoots at h
 refine enter (N := 70) Tryd.func4 rfl rfl ?_
 refine CW.seq ?_
 refine CW.region fun L hL => ?_
 refine LW.rd hL rfl (Wants.free rfl) rfl (Rd.assign (v := .bool false) rfl) ?_
 refine LW.nil hL rfl ?_
 refine NW.then ?_
 refine CW.seq ?_
 refine CW.seq ?_
 refine CW.region fun L hL => ?_
 refine LW.rd hL rfl (Wants.free rfl) rfl (Rd.move (v := .slice l1 l1n l1c) rfl) ?_
 refine LW.call hL rfl (Wants.free rfl) rfl (Cl.fn (f := 11) rfl Tryd.func11 (by kernel_rfl) rfl) h (fun e w1 h_ => ?_)
 clear h
 obtain ⟨r2, rfl, h⟩ := h_
 refine ⟨_, rfl, ?_⟩
 refine LW.rd hL rfl (Wants.free rfl) rfl (Rd.move (v := .bool r2) rfl) ?_
 suffices K1 : L 7 [(0, .slice l1 l1n l1c), (1, .slice places1 places1n places1c), (2, .slice steps1 steps1n steps1c), (6, .bool false), (19, .bool (r2 || decide ((places1n : Int) > 10)))] w1 by
  rcases Bool.eq_false_or_eq_true r2 with hb2 | hb2
  ·skip
   refine LW.skip hL rfl (Skips.on rfl rfl rfl rfl rfl hb2) rfl ?_
   refine LW.skip hL rfl (Skips.on rfl rfl rfl rfl rfl hb2) rfl ?_
   refine LW.skip hL rfl (Skips.on rfl rfl rfl rfl rfl hb2) rfl ?_
   refine LW.rd hL rfl (Wants.free rfl) rfl (Rd.pickT rfl hb2 rfl) ?_
   exact LW.sub hL (by exact ⟨rfl, rfl, rfl, rfl, (by rw [hb2]; rfl), trivial⟩) K1
  ·skip
   refine LW.rd hL rfl (Wants.on rfl rfl rfl rfl rfl hb2) rfl (Rd.move (v := .slice places1 places1n places1c) rfl) ?_
   refine LW.rd hL rfl (Wants.on rfl rfl rfl rfl rfl hb2) rfl (Rd.builtin (v := .int .i64 (places1n : Int)) rfl (fun _ _ => by kernel_rfl)) ?_
   refine LW.rd hL rfl (Wants.on rfl rfl rfl rfl rfl hb2) rfl (Rd.bin (v := .bool (decide ((places1n : Int) > 10))) rfl rfl (fun w => by kernel_rfl)) ?_
   refine LW.rd hL rfl (Wants.free rfl) rfl (Rd.pickF rfl hb2 rfl) ?_
   exact LW.sub hL (by exact ⟨rfl, rfl, rfl, rfl, (by rw [hb2]; rfl), trivial⟩) K1
 refine LW.rd hL rfl (Wants.free rfl) rfl (Rd.move (v := .bool (r2 || decide ((places1n : Int) > 10))) rfl) ?_
 suffices K2 : L 12 [(0, .slice l1 l1n l1c), (1, .slice places1 places1n places1c), (2, .slice steps1 steps1n steps1c), (6, .bool false), (24, .bool ((r2 || decide ((places1n : Int) > 10)) || decide ((steps1n : Int) > 10)))] w1 by
  rcases Bool.eq_false_or_eq_true (r2 || decide ((places1n : Int) > 10)) with hb4 | hb4
  ·skip
   refine LW.skip hL rfl (Skips.on rfl rfl rfl rfl rfl hb4) rfl ?_
   refine LW.skip hL rfl (Skips.on rfl rfl rfl rfl rfl hb4) rfl ?_
   refine LW.skip hL rfl (Skips.on rfl rfl rfl rfl rfl hb4) rfl ?_
   refine LW.rd hL rfl (Wants.free rfl) rfl (Rd.pickT rfl hb4 rfl) ?_
   exact LW.sub hL (by exact ⟨rfl, rfl, rfl, rfl, (by rw [hb4]; rfl), trivial⟩) K2
  ·skip
   refine LW.rd hL rfl (Wants.on rfl rfl rfl rfl rfl hb4) rfl (Rd.move (v := .slice steps1 steps1n steps1c) rfl) ?_
   refine LW.rd hL rfl (Wants.on rfl rfl rfl rfl rfl hb4) rfl (Rd.builtin (v := .int .i64 (steps1n : Int)) rfl (fun _ _ => by kernel_rfl)) ?_
   refine LW.rd hL rfl (Wants.on rfl rfl rfl rfl rfl hb4) rfl (Rd.bin (v := .bool (decide ((steps1n : Int) > 10))) rfl rfl (fun w => by kernel_rfl)) ?_
   refine LW.rd hL rfl (Wants.free rfl) rfl (Rd.pickF rfl hb4 rfl) ?_
   exact LW.sub hL (by exact ⟨rfl, rfl, rfl, rfl, (by rw [hb4]; rfl), trivial⟩) K2
 refine LW.nil hL rfl ?_
 refine NW.then ?_
 refine CW.cond rfl (fun hb5 => ?_) (fun hb5 => ?_)
 ·replace h := h.1 hb5
  refine CW.seq ?_
  refine CW.region fun L hL => ?_
  refine LW.call hL rfl (Wants.free rfl) rfl (Cl.fn (f := 7) rfl Tryd.func7 (by kernel_rfl) rfl) h (fun e w2 h_ => ?_)
  clear h
  obtain ⟨r3, rfl, h⟩ := h_
  refine ⟨_, rfl, ?_⟩
  refine LW.rd hL rfl (Wants.free rfl) rfl (Rd.assign (v := .bool r3) rfl) ?_
  refine LW.nil hL rfl ?_
  refine NW.then ?_
  refine CW.ret ?_
  refine RW.then ?_
  exact res1 rfl rfl ⟨r3, rfl, h⟩
 ·replace h := h.2 hb5
  refine CW.skip ?_
  refine NW.then ?_
  refine CW.seq ?_
  refine CW.region fun L hL => ?_
  refine LW.rd hL rfl (Wants.free rfl) rfl (Rd.move (v := .slice l1 l1n l1c) rfl) ?_
  refine LW.call hL rfl (Wants.free rfl) rfl (Cl.fn (f := 12) rfl Tryd.func12 (by kernel_rfl) rfl) h (fun e w3 h_ => ?_)
  clear h
  obtain ⟨r4, r5, r5n, r5c, r6, rfl, h⟩ := h_
  refine ⟨_, rfl, ?_⟩
  refine LW.rd hL rfl (Wants.free rfl) rfl (Rd.move (v := .tuple #[.pointer r4, .slice r5 r5n r5c, .bool r6]) rfl) ?_
  refine LW.rd hL rfl (Wants.free rfl) rfl (Rd.extract (v := .pointer r4) rfl rfl) ?_
  refine LW.rd hL rfl (Wants.free rfl) rfl (Rd.extract (v := .slice r5 r5n r5c) rfl rfl) ?_
  refine LW.rd hL rfl (Wants.free rfl) rfl (Rd.extract (v := .bool r6) rfl rfl) ?_
  refine LW.rd hL rfl (Wants.free rfl) rfl (Rd.assign (v := .pointer r4) rfl) ?_
  refine LW.rd hL rfl (Wants.free rfl) rfl (Rd.assign (v := .slice r5 r5n r5c) rfl) ?_
  refine LW.rd hL rfl (Wants.free rfl) rfl (Rd.assign (v := .bool r6) rfl) ?_
  refine LW.nil hL rfl ?_
  refine NW.then ?_
  refine CW.seq ?_
  refine CW.seq ?_
  refine CW.region fun L hL => ?_
  refine LW.rd hL rfl (Wants.free rfl) rfl (Rd.move (v := .bool r6) rfl) ?_
  refine LW.rd hL rfl (Wants.free rfl) rfl (Rd.un (v := .bool (!r6)) rfl (fun _ => by kernel_rfl)) ?_
  refine LW.nil hL rfl ?_
  refine NW.then ?_
  refine CW.cond rfl (fun hb6 => ?_) (fun hb6 => ?_)
  ·replace h := h.1 hb6
   refine CW.seq ?_
   refine CW.region fun L hL => ?_
   refine LW.rd hL rfl (Wants.free rfl) rfl (Rd.assign (v := .bool false) rfl) ?_
   refine LW.nil hL rfl ?_
   refine NW.then ?_
   refine CW.ret ?_
   refine RW.then ?_
   exact res1 rfl rfl ⟨false, rfl, h⟩
  ·replace h := h.2 hb6
   refine CW.skip ?_
   refine NW.then ?_
   refine CW.seq ?_
   refine CW.seq ?_
   refine CW.region fun L hL => ?_
   refine LW.rd hL rfl (Wants.free rfl) rfl (Rd.assign (v := .int .i64 0) rfl) ?_
   refine LW.nil hL rfl ?_
   refine NW.then ?_
   refine CW.block ?_
   obtain ⟨I1, m1, hI1, h⟩ := h
   refine CW.loop (S := Bool × Int) (fun s1 => [(1, .slice places1 places1n places1c), (2, .slice steps1 steps1n steps1c), (7, .pointer r4), (8, .slice r5 r5n r5c), (6, .bool s1.1), (10, .int .i64 s1.2)]) (fun s1 w4 => I1 s1.1 s1.2 w4) (fun s1 w4 => m1 s1.1 s1.2 w4) (false, 0) (by exact ⟨rfl, rfl, rfl, rfl, rfl, rfl, trivial⟩) hI1 (fun s1 w4 hI1 => ?_)
   obtain ⟨x1, i1⟩ := s1; replace h := h x1 i1 w4 hI1
   refine CW.seq ?_
   refine CW.seq ?_
   refine CW.region fun L hL => ?_
   refine LW.rd hL rfl (Wants.free rfl) rfl (Rd.move (v := .int .i64 i1) rfl) ?_
   refine LW.rd hL rfl (Wants.free rfl) rfl (Rd.move (v := .slice places1 places1n places1c) rfl) ?_
   refine LW.rd hL rfl (Wants.free rfl) rfl (Rd.builtin (v := .int .i64 (places1n : Int)) rfl (fun _ _ => by kernel_rfl)) ?_
   refine LW.rd hL rfl (Wants.free rfl) rfl (Rd.bin (v := .bool (decide (i1 < (places1n : Int)))) rfl rfl (fun w => by kernel_rfl)) ?_
   refine LW.nil hL rfl ?_
   refine NW.then ?_
   refine CW.cond rfl (fun hb7 => ?_) (fun hb7 => ?_)
   ·replace h := h.1 hb7
    refine CW.skip ?_
    refine NW.then ?_
    refine CW.seq ?_
    refine CW.block ?_
    refine CW.seq ?_
    refine CW.region fun L hL => ?_
    refine LW.rd hL rfl (Wants.free rfl) rfl (Rd.assign (v := .int .i64 0) rfl) ?_
    refine LW.nil hL rfl ?_
    refine NW.then ?_
    refine CW.block ?_
    obtain ⟨I2, m2, hI2, h⟩ := h
    refine CW.loop (S := Bool × Int) (fun s2 => [(1, .slice places1 places1n places1c), (2, .slice steps1 steps1n steps1c), (7, .pointer r4), (8, .slice r5 r5n r5c), (10, .int .i64 i1), (6, .bool s2.1), (11, .int .i64 s2.2)]) (fun s2 w5 => I2 s2.1 s2.2 w5) (fun s2 w5 => m2 s2.1 s2.2 w5) (x1, 0) (by exact ⟨rfl, rfl, rfl, rfl, rfl, rfl, rfl, trivial⟩) hI2 (fun s2 w5 hI2 => ?_)
    obtain ⟨x2, k1⟩ := s2; replace h := h x2 k1 w5 hI2
    refine CW.seq ?_
    refine CW.seq ?_
    refine CW.region fun L hL => ?_
    refine LW.rd hL rfl (Wants.free rfl) rfl (Rd.move (v := .int .i64 k1) rfl) ?_
    refine LW.rd hL rfl (Wants.free rfl) rfl (Rd.move (v := .slice steps1 steps1n steps1c) rfl) ?_
    refine LW.rd hL rfl (Wants.free rfl) rfl (Rd.builtin (v := .int .i64 (steps1n : Int)) rfl (fun _ _ => by kernel_rfl)) ?_
    refine LW.rd hL rfl (Wants.free rfl) rfl (Rd.bin (v := .bool (decide (k1 < (steps1n : Int)))) rfl rfl (fun w => by kernel_rfl)) ?_
    refine LW.nil hL rfl ?_
    refine NW.then ?_
    refine CW.cond rfl (fun hb8 => ?_) (fun hb8 => ?_)
    ·replace h := h.1 hb8
     refine CW.skip ?_
     refine NW.then ?_
     refine CW.seq ?_
     refine CW.block ?_
     refine CW.seq ?_
     obtain ⟨w6, hw_w6⟩ : ∃ x, x = World.drew w5 := ⟨_, rfl⟩
     have hc_w6 := sil_drew (Chg.refl [] w5) hw_w6
     refine CW.drawn (fun w => w = w6) 9 (by kernel_rfl) fun H hH => ?_
     rw [← hw_w6]
     refine HW.pure (i := 0) hH rfl (by kernel_rfl) (Wants.free rfl) rfl (fun _ => rfl) (Rd.move (v := .pointer r4) rfl) ?_
     refine HW.pure (i := 1) hH rfl (by kernel_rfl) (Wants.free rfl) rfl (fun _ => rfl) (Rd.move (v := .slice places1 places1n places1c) rfl) ?_
     refine HW.pure (i := 2) hH rfl (by kernel_rfl) (Wants.free rfl) rfl (fun _ => rfl) (Rd.move (v := .int .i64 i1) rfl) ?_
     obtain ⟨a1, he1, hi1, hi2, h⟩ := h
     refine HW.pure (i := 3) hH rfl (by kernel_rfl) (Wants.free rfl) rfl (fun _ => rfl) (Rd.iaS (q := a1) (sz := 2) (by rw [← he1]; rfl) rfl Tryd.underlying22 (by kernel_rfl) hi1 hi2) ?_
     replace h := h  w6  hc_w6
     obtain ⟨t1, t2, hc1, h⟩ := h
     refine HW.take (i := 4) hH rfl (by kernel_rfl) (by kernel_rfl) (Wants.free rfl) rfl (fun _ => rfl) (Rd.ldN (cs := [.int .i64 t1, .int .i64 t2]) rfl (by kernel_rfl) (by kernel_rfl) (cellsS hc1)) ?_
     refine HW.pure (i := 5) hH rfl (by kernel_rfl) (Wants.free rfl) rfl (fun _ => rfl) (Rd.move (v := .slice steps1 steps1n steps1c) rfl) ?_
     refine HW.pure (i := 6) hH rfl (by kernel_rfl) (Wants.free rfl) rfl (fun _ => rfl) (Rd.move (v := .int .i64 k1) rfl) ?_
     obtain ⟨a2, he2, hi3, hi4, h⟩ := h
     refine HW.pure (i := 7) hH rfl (by kernel_rfl) (Wants.free rfl) rfl (fun _ => rfl) (Rd.iaS (q := a2) (sz := 1) (by rw [← he2]; rfl) rfl Tryd.underlying37 (by kernel_rfl) hi3 hi4) ?_
     obtain ⟨t3, hc2, h⟩ := h
     refine HW.take (i := 8) hH rfl (by kernel_rfl) (by kernel_rfl) (Wants.free rfl) rfl (fun _ => rfl) (Rd.ld (v := .int .i64 t3) rfl (by kernel_rfl) (eqs hc2)) ?_
     refine HW.call (i := 9) hH (by kernel_rfl) rfl (Wants.free rfl) rfl (Cl.fn (f := 10) rfl Tryd.func10 (by kernel_rfl) rfl) h (fun e w7 h_ => ?_)
     clear h
     obtain ⟨r7, r7n, r7c, rfl, h⟩ := h_
     refine ⟨_, rfl, (fun hc => by cases hc), ?_⟩
     refine HW.pure (i := 10) hH rfl (by kernel_rfl) (Wants.free rfl) rfl (fun hc => by cases hc) (Rd.assign (v := .slice r7 r7n r7c) rfl) ?_
     refine HW.done hH (by kernel_rfl) ?_
     refine NW.then ?_
     refine CW.seq ?_
     obtain ⟨w8, hw_w8⟩ : ∃ x, x = World.drew w7 := ⟨_, rfl⟩
     have hc_w8 := sil_drew (Chg.refl [] w7) hw_w8
     replace h := h  w8  hc_w8
     obtain ⟨t4, t5, hc3, h⟩ := h
     obtain ⟨t6, hc4, h⟩ := h
     refine CW.drawn (fun w => CellsAt w (a1.add (Int.toNat i1 * 2)) 0 [.int .i64 t4, .int .i64 t5] ∧ w.cell? (a2.add (Int.toNat k1 * 1)) = some (.int .i64 t6) ∧ True) 11 (by kernel_rfl) fun H hH => ?_
     rw [← hw_w8]
     have hS1 : CellsAt w8 (a1.add (Int.toNat i1 * 2)) 0 [.int .i64 t4, .int .i64 t5] ∧ w8.cell? (a2.add (Int.toNat k1 * 1)) = some (.int .i64 t6) ∧ True := ⟨hc3, hc4, trivial⟩
     refine HW.pure (i := 0) hH rfl (by kernel_rfl) (Wants.free rfl) rfl (fun _ => hS1) (Rd.move (v := .slice r7 r7n r7c) rfl) ?_
     refine HW.pure (i := 1) hH rfl (by kernel_rfl) (Wants.free rfl) rfl (fun _ => hS1) (Rd.move (v := .slice r5 r5n r5c) rfl) ?_
     refine HW.pure (i := 2) hH rfl (by kernel_rfl) (Wants.free rfl) rfl (fun _ => hS1) (Rd.move (v := .slice places1 places1n places1c) rfl) ?_
     refine HW.pure (i := 3) hH rfl (by kernel_rfl) (Wants.free rfl) rfl (fun _ => hS1) (Rd.move (v := .int .i64 i1) rfl) ?_
     refine HW.pure (i := 4) hH rfl (by kernel_rfl) (Wants.free rfl) rfl (fun _ => hS1) (Rd.iaS (q := a1) (sz := 2) (by rw [← he1]; rfl) rfl Tryd.underlying22 (by kernel_rfl) hi1 hi2) ?_
     refine HW.take (i := 5) hH rfl (by kernel_rfl) (by kernel_rfl) (Wants.free rfl) rfl (fun _ => hS1) (Rd.ldN (cs := [.int .i64 t4, .int .i64 t5]) rfl (by kernel_rfl) (by kernel_rfl) (fun w h => cellsAt_get h.1)) ?_
     refine HW.pure (i := 6) hH rfl (by kernel_rfl) (Wants.free rfl) rfl (fun _ => hS1) (Rd.move (v := .slice steps1 steps1n steps1c) rfl) ?_
     refine HW.pure (i := 7) hH rfl (by kernel_rfl) (Wants.free rfl) rfl (fun _ => hS1) (Rd.move (v := .int .i64 k1) rfl) ?_
     refine HW.pure (i := 8) hH rfl (by kernel_rfl) (Wants.free rfl) rfl (fun _ => hS1) (Rd.iaS (q := a2) (sz := 1) (by rw [← he2]; rfl) rfl Tryd.underlying37 (by kernel_rfl) hi3 hi4) ?_
     refine HW.take (i := 9) hH rfl (by kernel_rfl) (by kernel_rfl) (Wants.free rfl) rfl (fun _ => hS1) (Rd.ld (v := .int .i64 t6) rfl (by kernel_rfl) (fun w h => h.2.1)) ?_
     refine HW.call (i := 10) hH (by kernel_rfl) rfl (Wants.free rfl) rfl (Cl.fn (f := 14) rfl Tryd.func14 (by kernel_rfl) rfl) h (fun e w9 h_ => ?_)
     clear h
     obtain ⟨r8, r8n, r8c, rfl, hS2, h⟩ := h_
     have hS3 := (⟨hS2.1, hS2.2, trivial⟩ : CellsAt w9 (a1.add (Int.toNat i1 * 2)) 0 [.int .i64 t4, .int .i64 t5] ∧ w9.cell? (a2.add (Int.toNat k1 * 1)) = some (.int .i64 t6) ∧ True)
     refine ⟨_, rfl, (fun _ => hS3), ?_⟩
     refine HW.call (i := 11) hH (by kernel_rfl) rfl (Wants.free rfl) rfl (Cl.fn (f := 13) rfl Tryd.func13 (by kernel_rfl) rfl) h (fun e w10 h_ => ?_)
     clear h
     obtain ⟨r9, rfl, h⟩ := h_
     refine ⟨_, rfl, (fun hc => by cases hc), ?_⟩
     refine HW.pure (i := 12) hH rfl (by kernel_rfl) (Wants.free rfl) rfl (fun hc => by cases hc) (Rd.un (v := .bool (!r9)) rfl (fun _ => by kernel_rfl)) ?_
     refine HW.done hH (by kernel_rfl) ?_
     refine NW.then ?_
     refine CW.cond rfl (fun hb9 => ?_) (fun hb9 => ?_)
     ·replace h := h.1 hb9
      refine CW.seq ?_
      refine CW.region fun L hL => ?_
      refine LW.rd hL rfl (Wants.free rfl) rfl (Rd.assign (v := .bool false) rfl) ?_
      refine LW.nil hL rfl ?_
      refine NW.then ?_
      refine CW.ret ?_
      refine RW.block ?_
      refine RW.then ?_
      refine RW.then ?_
      refine RW.block ?_
      refine RW.block ?_
      refine RW.then ?_
      refine RW.then ?_
      refine RW.block ?_
      refine RW.then ?_
      exact res1 rfl rfl ⟨false, rfl, h⟩
     ·replace h := h.2 hb9
      refine CW.skip ?_
      refine NW.block ?_
      refine NW.then ?_
      refine CW.region fun L hL => ?_
      refine LW.rd hL rfl (Wants.free rfl) rfl (Rd.move (v := .int .i64 k1) rfl) ?_
      refine LW.rd hL rfl (Wants.free rfl) rfl (Rd.bin (v := .int .i64 (IntKind.wrap .i64 (k1 + 1))) rfl rfl (fun w => by kernel_rfl)) ?_
      refine LW.rd hL rfl (Wants.free rfl) rfl (Rd.assign (v := .int .i64 (IntKind.wrap .i64 (k1 + 1))) rfl) ?_
      refine LW.nil hL rfl ?_
      exact NW.loop (S := Bool × Int) (Ek := fun s2 => [(1, .slice places1 places1n places1c), (2, .slice steps1 steps1n steps1c), (7, .pointer r4), (8, .slice r5 r5n r5c), (10, .int .i64 i1), (6, .bool s2.1), (11, .int .i64 s2.2)]) (x2, IntKind.wrap .i64 (k1 + 1)) (by exact ⟨rfl, rfl, rfl, rfl, rfl, rfl, rfl, trivial⟩) h
    ·replace h := h.2 hb8
     refine CW.exit ?_
     refine XW.then ?_
     refine XW.then ?_
     refine XW.hit ?_
     refine NW.block ?_
     refine NW.then ?_
     refine CW.region fun L hL => ?_
     refine LW.rd hL rfl (Wants.free rfl) rfl (Rd.move (v := .int .i64 i1) rfl) ?_
     refine LW.rd hL rfl (Wants.free rfl) rfl (Rd.bin (v := .int .i64 (IntKind.wrap .i64 (i1 + 1))) rfl rfl (fun w => by kernel_rfl)) ?_
     refine LW.rd hL rfl (Wants.free rfl) rfl (Rd.assign (v := .int .i64 (IntKind.wrap .i64 (i1 + 1))) rfl) ?_
     refine LW.nil hL rfl ?_
     exact NW.loop (S := Bool × Int) (Ek := fun s1 => [(1, .slice places1 places1n places1c), (2, .slice steps1 steps1n steps1c), (7, .pointer r4), (8, .slice r5 r5n r5c), (6, .bool s1.1), (10, .int .i64 s1.2)]) (x2, IntKind.wrap .i64 (i1 + 1)) (by exact ⟨rfl, rfl, rfl, rfl, rfl, rfl, trivial⟩) h
   ·replace h := h.2 hb7
    refine CW.exit ?_
    refine XW.then ?_
    refine XW.then ?_
    refine XW.hit ?_
    refine NW.then ?_
    refine CW.seq ?_
    refine CW.region fun L hL => ?_
    refine LW.call hL rfl (Wants.free rfl) rfl (Cl.fn (f := 7) rfl Tryd.func7 (by kernel_rfl) rfl) h (fun e w11 h_ => ?_)
    clear h
    obtain ⟨r10, rfl, h⟩ := h_
    refine ⟨_, rfl, ?_⟩
    refine LW.rd hL rfl (Wants.free rfl) rfl (Rd.assign (v := .bool r10) rfl) ?_
    refine LW.nil hL rfl ?_
    refine NW.then ?_
    refine CW.ret ?_
    exact res1 rfl rfl ⟨r10, rfl, h⟩
end Go.Proofs.YtfcfkhbkkfpehaaDoor
end
section
/- QueryRoots: the walk. -/
namespace Go.Proofs.YtfcfkhbkkfpehaaDoor
open Go Go.RowKit Go.X Go.XR
theorem roots_walk {w : World} {S : Nat → Prop} {p q t : Option Addr} {n c qn qc tn tc : Nat} {l : List AddV} {ps : List Pl} {ss : List Int} (h : AddsAt w S p n l) (hn : n ≤ maxLen) (hp : PlacesAt w S q qn ps) (hs : StepsAt w S t tn ss) (hS : ∀ i, S i → i < w.heap.size) :
  Calls Tryd.prog 4 #[.slice p n c, .slice q qn qc, .slice t tn tc] w fun e w' => ∃ r : Bool, e = .returned (.bool r) ∧ (r = true ∧ Chg [] w w') := by
 have hl := h.length
 have hpl := hp.length
 have hsl := hs.length
 refine go_pomanderlaw14_QueryRoots _ _ _ _ _ _ _ _ _ _ _ ?_
 unfold W_pomanderlaw14_QueryRoots
 have known : ∀ {A : World}, Chg [] w A → Calls Tryd.prog 7 #[] A fun e w3 => ∃ (r3 : Bool), e = .returned (.bool r3) ∧ (r3 = true ∧ Chg [] w w3) := fun hA => by
  refine (known_ok _).mono ?_
  rintro _ w3 ⟨_, rfl, rfl, c3⟩
  exact ⟨_, rfl, rfl, hA.trans0 c3⟩
 refine (vast14 h hn).mono ?_
 rintro _ w1 ⟨vb, rfl, hv, c1⟩
 refine ⟨vb, rfl, fun _ => known c1, fun hok => ?_⟩
 simp only [Bool.or_eq_false_iff, decide_eq_false_iff_not] at hok
 obtain ⟨⟨hvb, hp10⟩, hs10⟩ := hok
 have hsm := hv hvb
 have s1 := c1.size
 refine (made14 (h.chg (f := []) c1 (by simp)) (fun i hi => by have := hS i hi; omega) hsm).mono ?_
 rintro _ w3 ⟨_, r5, r5n, r5c, _, rfl, rfl, c3, b, fp, rfl, hH, hfp, hN, hNf⟩
 have c03 := c1.trans0 c3
 have s3 := c3.size
 have few : (madeA l).1.length ≤ 1000 := by
  have := madeA_few l hsm l.length
  rw [List.take_length] at this
  have := hsm.1; omega
 have six : ∀ nt ∈ (madeA l).1, nt.2.2.length ≤ 1000 := fun nt hnt => by have := madeA_small l (fun x hx => (hsm.2 x hx).2) nt hnt; omega
 refine ⟨_, _, _, _, _, rfl, fun hbad => by simp at hbad, fun _ => ?_⟩
 refine ⟨fun _ i w4 => ∃ j : Nat, i = (j : Int) ∧ j ≤ ps.length ∧ Chg [] w3 w4, fun _ i _ => (ps.length - i).toNat, ⟨0, rfl, Nat.zero_le _, Chg.refl _ _⟩, ?_⟩
 rintro x1 _ w4 ⟨j, rfl, hj, c4⟩
 refine ⟨fun hlt => ?_, fun hge => known (c03.trans0 c4)⟩
 have hjn : j < ps.length := by have := of_decide_eq_true hlt; omega
 obtain ⟨x, hx⟩ := get_of hjn
 refine ⟨fun _ k w5 => ∃ m : Nat, k = (m : Int) ∧ m ≤ ss.length ∧ Chg [] w3 w5, fun _ k _ => (ss.length - k).toNat, ⟨0, rfl, Nat.zero_le _, c4⟩, ?_⟩
 rintro x2 _ w5 ⟨m, rfl, hm, c5⟩
 refine ⟨fun hlt2 => ?_, fun hge2 => ?_⟩
 ·have hmn : m < ss.length := by have := of_decide_eq_true hlt2; omega
  obtain ⟨s, hsx⟩ := get_of hmn
  have c05 := c03.trans0 c5
  obtain ⟨_, _, a, ha, _, hcx⟩ := (hp.chg (f := []) c05 (by simp)).each j x hx
  obtain ⟨_, a2, ha2, _, hcs⟩ := (hs.chg (f := []) c05 (by simp)).each m s hsx
  refine ⟨a, ha, by omega, by omega, fun w6 c6 => ?_⟩
  have hcx6 := c6.cells (by simp) hcx
  have hcs6 := c6.cell (by simp) hcs
  have c36 := c5.trans0 c6
  refine ⟨x.1, x.2, by simpa using hcx6, a2, ha2, by omega, by omega, s, hcs6, ?_⟩
  refine (hist_roots (hH.chg c36 (by simp)) few six x.1 x.2 s).mono ?_
  rintro _ w7 ⟨r7, r7n, r7c, rfl, c7, ys, hrow, hyn, _, hnd, hso, hmem, hyl⟩
  refine ⟨_, _, _, rfl, fun w8 c8 => ?_⟩
  have c68 := c7.trans0 c8
  have hcx8 := c68.cells (by simp) hcx6
  have hcs8 := c68.cell (by simp) hcs6
  have c38 := c36.trans0 c68
  have s8 := c38.size
  refine ⟨x.1, x.2, by simpa using hcx8, s, hcs8, ?_⟩
  refine (ref_rootsQ (hN.chg c38 (by simp) (by simp)) (fun i hi => by have := hS i hi; omega) few six x s).mono ?_
  rintro _ w9 ⟨r8, r8n, r8c, rfl, c9, zs, hcz, hrz, hmz⟩
  have hyz : ys = zs := eq_of_rise (rise_of hnd hso) hrz (fun z => by rw [hmem, hmz])
  subst hyz
  refine ⟨_, _, _, rfl, ⟨by simpa using c9.cells (by simp) hcx8, c9.cell (by simp) hcs8⟩, ?_⟩
  refine (same_places ((row_cells hrow hyn).chg (c8.trans0 c9) (by simp)) hcz (by omega)).mono ?_
  rintro _ w10 ⟨_, rfl, rfl, c10⟩
  refine ⟨_, rfl, fun hbad => by simp at hbad, fun _ => ?_⟩
  rw [wr (by omega) (by omega)]
  exact ⟨⟨m + 1, by omega, by omega, (c38.trans0 c9).trans0 c10⟩, by simp only []; omega⟩
 ·rw [wr (by omega) (by omega)]
  exact ⟨⟨j + 1, by omega, by omega, c5⟩, by simp only []; omega⟩
end Go.Proofs.YtfcfkhbkkfpehaaDoor
end
section
/- The document's flows: New, May, Keep, Put, Mark. -/
namespace Go.Proofs.YtfcfkhbkkfpehaaDoor
open Go Go.RowKit Go.X
/-! ### Rows of equal elements -/
abbrev Pr := (Int × Int) × Int
structure Rf where
 fr : Int
 se : Int
 most : Int
 sets : List Int
 pairs : List Pr
end Go.Proofs.YtfcfkhbkkfpehaaDoor
end
section
/- The document's flows: Keep, ahead, Put. -/
namespace Go.Proofs.YtfcfkhbkkfpehaaDoor
open Go Go.RowKit Go.X
def aheadP (a b : Int × Int) : Prop := a.1 < b.1 ∨ a.1 = b.1 ∧ a.2 < b.2
instance (a b : Int × Int) : Decidable (aheadP a b) := by unfold aheadP; exact inferInstance
end Go.Proofs.YtfcfkhbkkfpehaaDoor
end
section
/- The document's flows: Put. -/
namespace Go.Proofs.YtfcfkhbkkfpehaaDoor
open Go Go.RowKit Go.X
end Go.Proofs.YtfcfkhbkkfpehaaDoor
end
section
/- The document's flows: New, Mark. -/
namespace Go.Proofs.YtfcfkhbkkfpehaaDoor
open Go Go.RowKit Go.X
end Go.Proofs.YtfcfkhbkkfpehaaDoor
end
section
/- Arguments that came in, opened: slices of structs as lists. -/
namespace Go.X
open Go Go.RowKit Go.ChangeShapes Go.WideShapes
theorem list_of {α : Type} {n : Nat} {Q : Nat → α → Prop} (h : ∀ i, i < n → ∃ x, Q i x) : ∃ l : List α, l.length = n ∧ ∀ (i : Nat) (x : α), l[i]? = some x → Q i x := by
 induction n with
 | zero => exact ⟨[], rfl, by simp⟩
 | succ n ih =>
  obtain ⟨l, hl, hq⟩ := ih (fun i hi => h i (by omega))
  obtain ⟨x, hx⟩ := h n (by omega)
  refine ⟨l ++ [x], by simp [hl], fun i y hy => ?_⟩
  by_cases hi : i < l.length
  ·rw [List.getElem?_append_left hi] at hy; exact hq i y hy
  ·rw [List.getElem?_append_right (by omega)] at hy
   have hi' : i - l.length = 0 := by
    have := (List.getElem?_eq_some_iff.1 hy).1
    simp at this; omega
   rw [hi'] at hy; simp at hy; subst hy
   have : i = n := by omega
   rw [this]; exact hx
section
variable {H : Type} {enc : TypeId × Value → H} {P : Program} {w : World} {base : Nat} {spare : Nat → Bool} {held : Bool}
theorem cellsAt_cells? {a : Addr} {n : Nat} {cs : List Value} (h : w.cells? base a n = some cs) : CellsAt w a 0 cs ∧ cs.length = n := by
 obtain ⟨_, h2, h3⟩ := World.cells?_some h
 refine ⟨?_, h2⟩
 have : ∀ (l : List Value) (i : Nat), (∀ k v, l[k]? = some v → w.cell? (a.add (i + k)) = some v) → CellsAt w a i l := by
  intro l
  induction l with
  | nil => intro i _; trivial
  | cons v l ih => intro i h; exact ⟨by simpa using h 0 v rfl, ih (i + 1) (fun k u hu => by rw [show i + 1 + k = i + (k + 1) by omega]; exact h (k + 1) u (by simpa using hu))⟩
 refine this cs 0 fun k v hk => ?_
 have hlt : k < n := by rw [← h2]; exact (List.getElem?_eq_some_iff.1 hk).1
 rw [Nat.zero_add, h3 k hlt, hk]
theorem open_slice {t e : TypeId} {fuel : Nat} {cs : List Value} {x : DataW H × List MemPlace} (ht : P.underlying t = some (.slice e)) (h : DataW.trod enc P w base spare held fuel t cs = some x) :
  ∃ (p : Option Addr) (len cap : Nat), cs = [.slice p len cap] ∧ len ≤ maxLen ∧ ∀ i, i < len → ∃ (a : Addr) (cs' : List Value) (n : Nat) (y : DataW H × List MemPlace), p = some a ∧ CellsAt w (a.add (i * P.cellsOf e)) 0 cs' ∧ cs'.length = P.cellsOf e ∧ DataW.trod enc P w base spare held n e cs' = some y := by
 rcases DataW.trod_slice ht h with ⟨h0, _⟩ | ⟨a, len, cap, elems, rest, n, _, rfl, rfl, hb, hl, hm, hlen, hel, _, _⟩
 ·exact ⟨none, 0, 0, h0, by simp [maxLen], fun i hi => absurd hi (by omega)⟩
 ·refine ⟨some a, len, cap, rfl, by omega, fun i hi => ?_⟩
  have h1 := hel i hi
  rw [List.getElem?_eq_getElem (by omega)] at h1
  obtain ⟨cs', hcs, hy⟩ := Option.bind_eq_some_iff.1 h1
  obtain ⟨k1, k2⟩ := cellsAt_cells? hcs
  exact ⟨a, cs', n, _, rfl, k1, k2, hy⟩
theorem wf_i64 {n : Int} (h : (Lit.int .i64 n).wf = true) : -9223372036854775808 ≤ n ∧ n ≤ 9223372036854775807 := by
 simp [Lit.wf, IntKind.min, IntKind.max, IntKind.bits, IntKind.signed] at h
 omega
theorem all_below (hl : laidOutB P = true) {W W' : World} (hb : Below W.heap.size W W') : ∀ (ts : List TypeId) (vs : List Value) (ds : List (DataW H)) (ps : List MemPlace), (∀ t ∈ ts, P.readableRec t = true ∧ t < P.types.size) →
  DataW.TrodAll enc P W 0 (fun _ => true) true ts vs ds ps → (∀ x ∈ ps, x.block < W.heap.size) → DataW.TrodAll enc P W' 0 (fun b => decide (b < W.heap.size)) true ts vs ds ps
 | [], [], [], ps, _, h, _ => h
 | t :: ts, v :: vs, d :: ds, ps, ht, h, hlt => by
  obtain ⟨p, q, h1, h2, rfl⟩ := h
  exact ⟨p, q, Below.trod hl (ht t (.head _)).1 (ht t (.head _)).2 h1 hb (fun x hx => hlt x (List.mem_append.2 (.inl hx))), all_below hl hb ts vs ds q (fun t h => ht t (.tail _ h)) h2 (fun x hx => hlt x (List.mem_append.2 (.inr hx))), rfl⟩
 | [], [], _ :: _, _, _, h, _ => h.elim
 | [], _ :: _, _, _, _, h, _ => h.elim
 | _ :: _, [], _, _, _, h, _ => h.elim
 | _ :: _, _ :: _, [], _, _, h, _ => h.elim
end
end Go.X
end
section
/- Arguments that came in, opened: places, touches, marks. -/
namespace Go.Proofs.YtfcfkhbkkfpehaaDoor
open Go Go.RowKit Go.X
theorem len1 {α : Type} {l : List α} (h : l.length = 1) : ∃ a, l = [a] := by
 cases l with
 | nil => simp at h
 | cons a l => exact ⟨a, by rw [List.eq_nil_of_length_eq_zero (l := l) (by simpa using h)]⟩
theorem len2 {α : Type} {l : List α} (h : l.length = 2) : ∃ a b, l = [a, b] := by
 cases l with
 | nil => simp at h
 | cons a l => obtain ⟨b, rfl⟩ := len1 (l := l) (by simpa using h); exact ⟨a, b, rfl⟩
theorem len3 {α : Type} {l : List α} (h : l.length = 3) : ∃ a b c, l = [a, b, c] := by
 cases l with
 | nil => simp at h
 | cons a l => obtain ⟨b, c, rfl⟩ := len2 (l := l) (by simpa using h); exact ⟨a, b, c, rfl⟩
section
variable {H : Type} {enc : TypeId × Value → H} {w : World} {base : Nat} {spare : Nat → Bool} {held : Bool} {fuel : Nat} {x : DataW H × List MemPlace} {cs : List Value}
theorem cells56 : Tryd.prog.cellsOf 27 = 2 := by kernel_rfl
theorem cells81 : Tryd.prog.cellsOf 33 = 3 := by kernel_rfl
theorem cells3 : Tryd.prog.cellsOf 3 = 1 := by kernel_rfl
theorem cells54 : Tryd.prog.cellsOf 25 = 1 := by kernel_rfl
theorem cells47 : Tryd.prog.cellsOf 22 = 1 := by kernel_rfl
theorem un54 : Tryd.prog.underlying 25 = some (.int .i64) := by kernel_rfl
theorem un3 : Tryd.prog.underlying 3 = some (.int .i64) := by kernel_rfl
theorem open_place (h : DataW.trod enc Tryd.prog w base spare held fuel 27 cs = some x) : ∃ p : Int × Int, cs = [.int .i64 p.1, .int .i64 p.2] ∧ i64s p.1 ∧ i64s p.2 := by
 obtain ⟨xs, n, _, _, hl, hlen, hf⟩ := DataW.trod_struct Tryd.underlying27 h
 have h0 : DataW.trod enc Tryd.prog w base spare held n 25 ((cs.drop 0).take (Tryd.prog.cellsOf 25)) = xs[0]? := hf 0 _ rfl
 have h1 : DataW.trod enc Tryd.prog w base spare held n 3 ((cs.drop 1).take (Tryd.prog.cellsOf 3)) = xs[1]? := hf 1 _ rfl
 simp only [cells54, cells3] at h0 h1
 rw [cells56] at hl
 rw [List.getElem?_eq_getElem (by rw [hlen]; decide)] at h0 h1
 obtain ⟨a, e0, _, w0⟩ := DataW.trod_int un54 h0
 obtain ⟨b, e1, _, w1⟩ := DataW.trod_int un3 h1
 obtain ⟨c0, c1, rfl⟩ := len2 hl
 simp at e0 e1
 subst e0 e1
 exact ⟨(a, b), rfl, wf_i64 w0, wf_i64 w1⟩
def oldS (w : World) (i : Nat) : Prop := i < w.heap.size
theorem cellsAt_lt {a : Addr} {i : Nat} {c : Value} {cs : List Value} (h : CellsAt w a i (c :: cs)) : a.block < w.heap.size := by
 have := World.block_lt_of_cell? w _ h.1
 rwa [add_block] at this
theorem open_places (h : DataW.trod enc Tryd.prog w base spare held fuel 22 cs = some x) : ∃ p n c ps, cs = [.slice p n c] ∧ n ≤ maxLen ∧ PlacesAt w (oldS w) p n ps := by
 obtain ⟨p, n, c, rfl, hn, hel⟩ := open_slice Tryd.underlying22 h
 obtain ⟨l, hl, hq⟩ := list_of (Q := fun j (x : Int × Int) => i64s x.1 ∧ i64s x.2 ∧ ∃ a, p = some a ∧ oldS w a.block ∧ CellsAt w (a.add (j * 2)) 0 [.int .i64 x.1, .int .i64 x.2]) (n := n) (fun i hi => by
  obtain ⟨a, cs', m, y, ha, hc, _, hy⟩ := hel i hi
  obtain ⟨q, rfl, k1, k2⟩ := open_place hy
  rw [cells56] at hc
  exact ⟨q, k1, k2, a, ha, by have := cellsAt_lt hc; rwa [add_block] at this, hc⟩)
 exact ⟨p, n, c, l, rfl, hn, hl, hq⟩
theorem open_touch (h : DataW.trod enc Tryd.prog w base spare held fuel 33 cs = some x) : ∃ (t : Tch) (q : Option Addr) (qn qc : Nat), cs = [.int .i64 t.1.1, .int .i64 t.1.2, .slice q qn qc] ∧ i64s t.1.1 ∧ i64s t.1.2 ∧ qn ≤ maxLen ∧ PlacesAt w (oldS w) q qn t.2 := by
 obtain ⟨xs, n, _, _, hl, hlen, hf⟩ := DataW.trod_struct Tryd.underlying33 h
 have h0 : DataW.trod enc Tryd.prog w base spare held n 27 ((cs.drop 0).take (Tryd.prog.cellsOf 27)) = xs[0]? := hf 0 _ rfl
 have h1 : DataW.trod enc Tryd.prog w base spare held n 22 ((cs.drop 2).take (Tryd.prog.cellsOf 22)) = xs[1]? := hf 1 _ rfl
 simp only [cells56, cells47] at h0 h1
 rw [cells81] at hl
 rw [List.getElem?_eq_getElem (by rw [hlen]; decide)] at h0 h1
 obtain ⟨p, e0, k1, k2⟩ := open_place h0
 obtain ⟨q, qn, qc, ps, e1, hq, hps⟩ := open_places h1
 obtain ⟨c0, c1, c2, rfl⟩ := len3 hl
 simp at e0 e1
 obtain ⟨rfl, rfl⟩ := e0
 subst e1
 exact ⟨(p, ps), q, qn, qc, rfl, k1, k2, hq, hps⟩
theorem open_touches (h : DataW.trod enc Tryd.prog w base spare held fuel 45 cs = some x) : ∃ p n c ts, cs = [.slice p n c] ∧ n ≤ maxLen ∧ TouchesAt w (oldS w) p n ts ∧ ∀ t ∈ ts, t.2.length ≤ maxLen := by
 obtain ⟨p, n, c, rfl, hn, hel⟩ := open_slice Tryd.underlying45 h
 obtain ⟨l, hl, hq⟩ := list_of (Q := fun j (t : Tch) => (i64s t.1.1 ∧ i64s t.1.2 ∧ ∃ a q qn qc, p = some a ∧ oldS w a.block ∧ CellsAt w (a.add (j * 3)) 0 [.int .i64 t.1.1, .int .i64 t.1.2, .slice q qn qc] ∧ PlacesAt w (oldS w) q qn t.2) ∧ t.2.length ≤ maxLen) (n := n) (fun i hi => by
  obtain ⟨a, cs', m, y, ha, hc, _, hy⟩ := hel i hi
  obtain ⟨t, q, qn, qc, rfl, k1, k2, k3, k4⟩ := open_touch hy
  rw [cells81] at hc
  exact ⟨t, ⟨k1, k2, a, q, qn, qc, ha, by have := cellsAt_lt hc; rwa [add_block] at this, hc, k4⟩, by rw [k4.length]; exact k3⟩)
 refine ⟨p, n, c, l, rfl, hn, ⟨hl, fun j t ht => (hq j t ht).1⟩, fun t ht => ?_⟩
 obtain ⟨j, hj⟩ := List.getElem?_of_mem ht
 exact (hq j t hj).2
structure MarksAt (w : World) (S : Nat → Prop) (p : Option Addr) (n : Nat) (ms : List Pr) : Prop where
 length : ms.length = n
 each : ∀ (j : Nat) (x : Pr), ms[j]? = some x → i64s x.1.2 ∧ 0 ≤ x.2 ∧ x.2 < 4294967296 ∧ ∃ a, p = some a ∧ S a.block ∧ CellsAt w (a.add (j * 3)) 0 [.int .i64 x.1.1, .int .i64 x.1.2, .int .u32 x.2]
theorem MarksAt.chg {w w' : World} {S : Nat → Prop} {p : Option Addr} {n : Nat} {ps : List Pr} {f : List Nat} (h : MarksAt w S p n ps) (hc : Chg f w w') (hf : ∀ i ∈ f, ¬ S i) : MarksAt w' S p n ps :=
 ⟨h.length, fun j x hx => let ⟨h1, h2, h3, a, h4, h5, h6⟩ := h.each j x hx; ⟨h1, h2, h3, a, h4, h5, hc.cells (by rw [add_block]; exact fun hm => hf _ hm h5) h6⟩⟩
end
end Go.Proofs.YtfcfkhbkkfpehaaDoor
end
section
/- Arguments that came in, opened: adds; steps. -/
namespace Go.Proofs.YtfcfkhbkkfpehaaDoor
open Go Go.RowKit Go.X Go.ChangeShapes Go.WideShapes Go.ChangeAt
theorem un2 : Tryd.prog.underlying 2 = some (.int .i64) := by kernel_rfl
section
variable {H : Type} {enc : TypeId × Value → H} {w : World} {base : Nat} {spare : Nat → Bool} {held : Bool} {fuel : Nat} {cs : List Value} {x : DataW H × List MemPlace}
theorem open_slice_c {t e : TypeId} {fuel : Nat} {cs : List Value} {x : DataW H × List MemPlace} (ht : Tryd.prog.underlying t = some (.slice e)) (h : DataW.trod enc Tryd.prog w base spare held fuel t cs = some x) :
  ∃ (p : Option Addr) (len cap : Nat), cs = [.slice p len cap] ∧ len ≤ maxLen ∧ len ≤ cap ∧ ∀ i, i < len → ∃ (a : Addr) (cs' : List Value) (n : Nat) (y : DataW H × List MemPlace), p = some a ∧ CellsAt w (a.add (i * Tryd.prog.cellsOf e)) 0 cs' ∧ cs'.length = Tryd.prog.cellsOf e ∧ DataW.trod enc Tryd.prog w base spare held n e cs' = some y := by
 obtain ⟨p, len, cap, rfl, hl, hel⟩ := open_slice ht h
 refine ⟨p, len, cap, rfl, hl, ?_, hel⟩
 rcases DataW.trod_slice ht h with ⟨h0, _⟩ | ⟨a, len', cap', elems, rest, n, _, h0, rfl, hb, hl', hm, _⟩
 ·cases h0; exact Nat.le_refl _
 ·cases h0; omega
theorem open_add (h : DataW.trod enc Tryd.prog w base spare held fuel 47 cs = some x) : ∃ (y : AddV) (q : Option Addr) (qn qc : Nat), cs = [.int .i64 y.1, .slice q qn qc] ∧ i64s y.1 ∧ qn ≤ maxLen ∧ TouchesAt w (oldS w) q qn y.2 ∧ ∀ t ∈ y.2, t.2.length ≤ maxLen := by
 obtain ⟨xs, n, _, _, hl, hlen, hf⟩ := DataW.trod_struct Tryd.underlying47 h
 have h0 : DataW.trod enc Tryd.prog w base spare held n 2 ((cs.drop 0).take (Tryd.prog.cellsOf 2)) = xs[0]? := hf 0 _ rfl
 have h1 : DataW.trod enc Tryd.prog w base spare held n 45 ((cs.drop 1).take (Tryd.prog.cellsOf 45)) = xs[1]? := hf 1 _ rfl
 rw [show Tryd.prog.cellsOf 2 = 1 by kernel_rfl] at h0
 rw [show Tryd.prog.cellsOf 45 = 1 by kernel_rfl] at h1
 rw [show Tryd.prog.cellsOf 47 = 2 by kernel_rfl] at hl
 rw [List.getElem?_eq_getElem (by rw [hlen]; decide)] at h0 h1
 obtain ⟨st, e0, _, w1⟩ := DataW.trod_int un2 h0
 obtain ⟨q, qn, qc, ts, e1, hq, hts, hin⟩ := open_touches h1
 obtain ⟨c0, c1, rfl⟩ := len2 hl
 simp at e0 e1
 subst e0 e1
 exact ⟨(st, ts), q, qn, qc, rfl, wf_i64 w1, hq, hts, hin⟩
theorem open_adds (h : DataW.trod enc Tryd.prog w base spare held fuel 36 cs = some x) : ∃ p n c l, cs = [.slice p n c] ∧ n ≤ maxLen ∧ n ≤ c ∧ AddsAt w (oldS w) p n l := by
 obtain ⟨p, n, c, rfl, hn, hnc, hel⟩ := open_slice_c Tryd.underlying36 h
 obtain ⟨l, hl, hq⟩ := list_of (Q := fun j (y : AddV) => i64s y.1 ∧ ∃ a q qn qc, p = some a ∧ oldS w a.block ∧ CellsAt w (a.add (j * 2)) 0 [.int .i64 y.1, .slice q qn qc] ∧ TouchesAt w (oldS w) q qn y.2 ∧ qn ≤ maxLen ∧ ∀ t ∈ y.2, t.2.length ≤ maxLen) (n := n) (fun i hi => by
  obtain ⟨a, cs', m, y, ha, hc, _, hy⟩ := hel i hi
  obtain ⟨z, q, qn, qc, rfl, k1, k2, k3, k4⟩ := open_add hy
  rw [show Tryd.prog.cellsOf 47 = 2 by kernel_rfl] at hc
  exact ⟨z, k1, a, q, qn, qc, ha, by have := cellsAt_lt hc; rwa [add_block] at this, hc, k3, k2, k4⟩)
 exact ⟨p, n, c, l, rfl, hn, hnc, ⟨hl, hq⟩⟩
theorem open_steps (h : DataW.trod enc Tryd.prog w base spare held fuel 37 cs = some x) : ∃ p n c ss, cs = [.slice p n c] ∧ n ≤ maxLen ∧ StepsAt w (oldS w) p n ss := by
 obtain ⟨p, n, c, rfl, hn, hel⟩ := open_slice Tryd.underlying37 h
 obtain ⟨l, hl, hq⟩ := list_of (Q := fun j (g : Int) => i64s g ∧ ∃ a, p = some a ∧ oldS w a.block ∧ w.cell? (a.add (j * 1)) = some (.int .i64 g)) (n := n) (fun i hi => by
  obtain ⟨a, cs', m, y, ha, hc, hlc, hy⟩ := hel i hi
  obtain ⟨g, rfl, _, w1⟩ := DataW.trod_int un2 hy
  rw [show Tryd.prog.cellsOf 2 = 1 by kernel_rfl] at hc
  exact ⟨g, wf_i64 w1, a, ha, by have := cellsAt_lt hc; rwa [add_block] at this, hc.1⟩)
 exact ⟨p, n, c, l, rfl, hn, ⟨hl, hq⟩⟩
end
end Go.Proofs.YtfcfkhbkkfpehaaDoor
end
section
/- What every row's step needs. -/
namespace Go.Proofs.YtfcfkhbkkfpehaaDoor
open Go Go.RowKit Go.X
theorem ownX : ownKnob Tryd.prog.godebug = none := by kernel_rfl
theorem laidOutX : laidOutB Tryd.prog = true := by kernel_rfl
end Go.Proofs.YtfcfkhbkkfpehaaDoor
end
