/- Texts of the claim, merged: XFcopiesW XOpen4 XStep. -/
import Derived.Test.YtfcfkhbkkfpehaaGreatXMfc6
import Derived.Test.YtfcfkhbkkfpehaaGreatRows
set_option linter.unusedSimpArgs false
set_option linter.unusedVariables false
set_option maxRecDepth 100000
section
/- FlowCopies' walk: a flow, its copy, the document's of each. -/
namespace Go.Proofs.YtfcfkhbkkfpehaaGreat
open Go Go.RowKit Go.X Go.XR
section
variable {w0 w w' : World} {B : List Nat} {bf : Nat} {F : Fl} {R : Rf} {p4 p5 : Option Addr} {n4 c4 n5 c5 : Nat} {fp : List Nat}
theorem LoopAt.other (h : LoopAt w0 w B bf F R p4 n4 c4 p5 n5 c5 fp) {X B' : List Nat} (hX : ∀ b ∈ X, b ∈ B) (h0 : ∀ b ∈ X, w0.heap.size ≤ b) (hc : Chg X w w') (hB : ∀ b ∈ B', b ∈ B ∨ (w.heap.size ≤ b ∧ b < w'.heap.size)) : LoopAt w0 w' B' bf F R p4 n4 c4 p5 n5 c5 fp := by
 have k := fun b hb => h.own b (hX b hb)
 have hl := h.flow.lt
 have hr := h.rlt
 refine ⟨h.flow.chg hc (fun i hi hm => (k i hm).2.1 hi), h.ref.chg hc (fun i hi hm => (k i hm).2.2 (List.mem_append_left _ hi)) (fun i hi hm => (k i hm).2.2 (List.mem_append_right _ hi)), h.rel, h.good, h.chg.trans hc (fun i hi hlt => by have := h0 i hi; omega), h.fresh, h.freshR, h.rows, fun x hx => ?_⟩
 rcases hB x hx with q | ⟨q1, q2⟩
 ·obtain ⟨a, b, c⟩ := h.own x q
  exact ⟨Nat.lt_of_lt_of_le a hc.size, b, c⟩
 ·exact ⟨q2, fun hm => by have := hl x hm; omega, fun hm => by have := hr x hm; omega⟩
end
structure TwoAt (w0 w : World) (B : List Nat) (bf : Nat) (F : Fl) (G : Rf) (p4 : Option Addr) (n4 c4 : Nat) (p5 : Option Addr) (n5 c5 : Nat) (bc : Nat) (C : Fl) (H : Rf) (q4 : Option Addr) (m4 d4 : Nat) (q5 : Option Addr) (m5 d5 : Nat) (fp fq : List Nat) : Prop where
 f : LoopAt w0 w (B ++ fq) bf F G p4 n4 c4 p5 n5 c5 fp
 c : LoopAt w0 w (B ++ fp) bc C H q4 m4 d4 q5 m5 d5 fq
section
variable {w0 w w' : World} {B : List Nat} {bf : Nat} {F : Fl} {G : Rf} {p4 p5 : Option Addr} {n4 c4 n5 c5 : Nat} {bc : Nat} {C : Fl} {H : Rf} {q4 q5 : Option Addr} {m4 d4 m5 d5 : Nat} {fp fq : List Nat}
theorem TwoAt.later (h : TwoAt w0 w B bf F G p4 n4 c4 p5 n5 c5 bc C H q4 m4 d4 q5 m5 d5 fp fq) (hc : Chg [] w w') : TwoAt w0 w' B bf F G p4 n4 c4 p5 n5 c5 bc C H q4 m4 d4 q5 m5 d5 fp fq := ⟨h.f.later hc, h.c.later hc⟩
theorem TwoAt.put (h : TwoAt w0 w B bf F G p4 n4 c4 p5 n5 c5 bc C H q4 m4 d4 q5 m5 d5 fp fq) {b : Nat} (hb : b ∈ B) (h0 : w0.heap.size ≤ b) (hc : Chg [b] w w') : TwoAt w0 w' B bf F G p4 n4 c4 p5 n5 c5 bc C H q4 m4 d4 q5 m5 d5 fp fq :=
 ⟨h.f.put (List.mem_append_left _ hb) h0 hc, h.c.put (List.mem_append_left _ hb) h0 hc⟩
theorem TwoAt.add (h : TwoAt w0 w B bf F G p4 n4 c4 p5 n5 c5 bc C H q4 m4 d4 q5 m5 d5 fp fq) {b : Nat} (hb : w.heap.size ≤ b) (hlt : b < w'.heap.size) (hc : Chg [] w w') : TwoAt w0 w' (b :: B) bf F G p4 n4 c4 p5 n5 c5 bc C H q4 m4 d4 q5 m5 d5 fp fq :=
 ⟨h.f.add hb hlt hc, h.c.add hb hlt hc⟩
theorem TwoAt.drop {D : List Nat} (h : TwoAt w0 w B bf F G p4 n4 c4 p5 n5 c5 bc C H q4 m4 d4 q5 m5 d5 fp fq) (hs : ∀ b ∈ D, b ∈ B) : TwoAt w0 w D bf F G p4 n4 c4 p5 n5 c5 bc C H q4 m4 d4 q5 m5 d5 fp fq :=
 ⟨h.f.drop fun b hb => (List.mem_append.1 hb).elim (fun k => List.mem_append_left _ (hs b k)) (fun k => List.mem_append_right _ k), h.c.drop fun b hb => (List.mem_append.1 hb).elim (fun k => List.mem_append_left _ (hs b k)) (fun k => List.mem_append_right _ k)⟩
theorem TwoAt.swap (h : TwoAt w0 w B bf F G p4 n4 c4 p5 n5 c5 bc C H q4 m4 d4 q5 m5 d5 fp fq) : TwoAt w0 w B bc C H q4 m4 d4 q5 m5 d5 bf F G p4 n4 c4 p5 n5 c5 fq fp := ⟨h.c, h.f⟩
theorem TwoAt.does (h : TwoAt w0 w B bf F G p4 n4 c4 p5 n5 c5 bc C H q4 m4 d4 q5 m5 d5 fp fq) (hn4 : G.sets.length ≤ 100000) (hn5 : G.pairs.length ≤ 90000000) (hne : G.sets ≠ []) {S : Nat → Prop} {q : Option Addr} {qn qc : Nat} {a : ActV} (hA : ActAt w S q qn qc a) (hS : ∀ i, S i → i < w0.heap.size) (ht : tame a) :
  Calls Tryz.prog 30 #[.pointer (some ⟨bf, 0, none⟩), .agg #[.int .i64 G.fr, .int .i64 G.se, .int .i64 G.most, .slice p4 n4 c4, .slice p5 n5 c5], .agg #[.int .i64 a.kind, .int .i64 a.n, .int .i64 a.p.1, .int .i64 a.p.2, .int .u32 a.set, .slice q qn qc]] w fun e w' =>
   ∃ (r1 : Int) (r2 : Int) (r3 : Int) (r4 : Option Addr) (r4n : Nat) (r4c : Nat) (r5 : Option Addr) (r5n : Nat) (r5c : Nat) (r6 : Bool), e = .returned (.tuple #[.agg #[.int .i64 r1, .int .i64 r2, .int .i64 r3, .slice r4 r4n r4c, .slice r5 r5n r5c], .bool r6]) ∧
   (r1 = (stepR G a).fr ∧ r2 = (stepR G a).se ∧ r3 = (stepR G a).most ∧ r6 = true ∧ Same w w' B ∧ ∃ fp', TwoAt w0 w' B bf (stepF F a) (stepR G a) r4 r4n r4c r5 r5n r5c bc C H q4 m4 d4 q5 m5 d5 fp' fq) := by
 refine (h.f.does hn4 hn5 hne hA hS ht).mono ?_
 rintro _ w1 ⟨r1, r2, r3, r4, r4n, r4c, r5, r5n, r5c, r6, rfl, k1, k2, k3, k4, fp', hf, c1, hg⟩
 have hl := hf.flow.lt
 refine ⟨_, _, _, _, _, _, _, _, _, _, rfl, k1, k2, k3, k4, h.f.same (fun b hb => List.mem_append_left _ hb) c1, fp', hf, h.c.other (X := fp) (fun b hb => List.mem_append_right _ hb) h.f.fresh c1 fun b hb => ?_⟩
 rcases List.mem_append.1 hb with hb | hb
 ·exact .inl (List.mem_append_left _ hb)
 ·rcases hg b hb with k | k
  ·exact .inl (List.mem_append_right _ k)
  ·exact .inr ⟨k, hl b hb⟩
end
theorem old_cells {w : World} {S : Nat → Prop} {b : Addr} {n : Nat} {acts : List ActV} (hA : ActsAt w S (some b) n acts) {j : Nat} {a : ActV} (hx : acts[j]? = some a) : ∃ q qn qc, ∀ {A : World}, Chg [] w A → CellsAt A (b.add (j * 6)) 0 [.int .i64 a.kind, .int .i64 a.n, .int .i64 a.p.1, .int .i64 a.p.2, .int .u32 a.set, .slice q qn qc] ∧ ActAt A S q qn qc a := by
 obtain ⟨b', q, qn, qc, e, _, hc, hAct⟩ := hA.each j _ hx
 cases e
 exact ⟨q, qn, qc, fun h => ⟨h.cells (by simp) hc, hAct.chg h (by simp)⟩⟩
theorem fcopies_walk {w : World} {l1 l2 : Option Addr} {ln lc mn mc : Nat} {ahead behind : List ActV} {leave : Int} (hA : ActsAt w (oldS w) l1 ln ahead) (hln : ln ≤ maxLen) (hB : ActsAt w (oldS w) l2 mn behind) (hmn : mn ≤ maxLen) (hleave : i64s leave) :
  Calls Tryz.prog 8 #[.slice l1 ln lc, .slice l2 mn mc, .int .i64 leave] w fun e w' => ∃ r : Bool, e = .returned (.bool r) ∧ (r = true ∧ Chg [] w w') := by
 have hal := hA.length
 have hbl := hB.length
 have hln' := hln
 have hmn' := hmn
 simp only [maxLen] at hln' hmn'
 have hS : ∀ i, oldS w i → i < w.heap.size := fun i h => h
 refine go_pomanderlaw12_FlowCopies _ _ _ _ _ _ _ _ _ ?_
 unfold W_pomanderlaw12_FlowCopies
 rintro b1 w1 ⟨i1, j1⟩ c1
 have s1 := c1.size
 have N : ∀ {A B : World}, w1.heap.size ≤ A.heap.size → Chg [] A B → Same A B [b1] := fun h hc => Same.chg hc (by simp; omega)
 refine (vast_ok (c := lc) (hA.chg c1 (by simp)) hln).mono ?_
 rintro _ w2 ⟨_, rfl, rfl, hw⟩
 subst w2
 refine ⟨_, rfl, N (Nat.le_refl _) (Chg.refl _ _), fun b w' => b = decide (vastA ahead ∨ vastA behind) ∧ w' = w1, ?_, fun h => ?_, fun h => ?_⟩
 rotate_left
 ·have h1 := of_decide_eq_false h
  refine (vast_ok (c := mc) (hB.chg c1 (by simp)) hmn).mono ?_
  rintro _ w4 ⟨_, rfl, rfl, hw⟩
  subst w4
  exact ⟨_, rfl, N (Nat.le_refl _) (Chg.refl _ _), by simp [h1], rfl⟩
 ·have h1 := of_decide_eq_true h
  exact ⟨by simp [h1], rfl⟩
 rintro _ w3 ⟨rfl, hw⟩
 subst w3
 refine ⟨fun _ => ?_, fun hb => ?_⟩
 ·refine (known12 w1).mono ?_
  rintro _ w5 ⟨_, rfl, rfl, c5⟩
  exact ⟨_, rfl, N (Nat.le_refl _) c5, rfl, c1.trans0 c5⟩
 rw [Bool.or_eq_false_iff] at hb
 have hv := of_decide_eq_false hb.1
 obtain ⟨ha30, hta⟩ := vast_tame (fun h => hv (.inl h))
 obtain ⟨hb30, htb⟩ := vast_tame (fun h => hv (.inr h))
 rintro b3 w7 ⟨i3, j3⟩ c7
 have s7 := c7.size
 refine (flow_new w7 2 2 12).mono ?_
 rintro _ w8 ⟨r5, r6, rfl, c8, hF⟩
 rw [if_pos (by unfold rightP; decide)] at hF
 obtain ⟨rfl, bf, fp, rfl, hF, hf⟩ := hF
 have s8 := c8.size
 refine ⟨_, _, rfl, Same.chg c8 (by simp; omega), ?_⟩
 refine (ref_new 2 2 12).mono ?_
 rintro _ w9 ⟨z1, z2, z3, p4, n4, c4, p5, n5, c5, rfl, y1, y2, y3, hR, c9, hfr⟩
 obtain rfl := y1.symm
 obtain rfl := y2.symm
 obtain rfl := y3.symm
 have s9 := c9.size
 refine ⟨_, _, _, _, _, _, _, _, _, rfl, N (by omega) c9, ?_⟩
 rintro b4 w11 ⟨i4, j4⟩ c11
 have s11 := c11.size
 have hb0 : w.heap.size ≤ b4 := by omega
 have h9 : LoopAt w w9 [b1] bf (flowNew 2 2 12) ⟨2, 2, 12, [0], []⟩ p4 n4 c4 p5 n5 c5 fp := LoopAt.start hF hf (c1.trans0 c7) c8 c9 hR (fun i hi => by have := hfr i hi; omega) (by simp; omega)
 have h11 := h9.add i4 j4 c11
 have lensA := fun j : Nat => playR_len (R := ⟨2, 2, 12, [0], []⟩) (by simp) (acts := ahead.take j) (fun a ha => hta a ((List.take_sublist j ahead).subset ha))
 have hlt := fun (l : List ActV) (j : Nat) => List.length_take_le' j l
 refine ⟨fun i c1 c2 c3 p4 n4 c4 p5 n5 c5 w' => ∃ j : Nat, i = j ∧ j ≤ ln ∧ ∃ F R fp, F = playF (flowNew 2 2 12) (ahead.take j) ∧ R = playR ⟨2, 2, 12, [0], []⟩ (ahead.take j) ∧ c1 = R.fr ∧ c2 = R.se ∧ c3 = R.most ∧ LoopAt w w' [b4, b1] bf F R p4 n4 c4 p5 n5 c5 fp,
  fun i _ _ _ _ _ _ _ _ _ _ => ln - i.toNat, ⟨0, rfl, Nat.zero_le _, _, _, fp, rfl, rfl, rfl, rfl, rfl, h11⟩, ?_⟩
 rintro _ _ _ _ q4 m4 d4 q5 m5 d5 w12 ⟨j, rfl, hj, F, R, fp12, eF, eR, rfl, rfl, rfl, h12⟩
 have ej : Int.toNat (j : Int) = j := by omega
 refine ⟨fun hlt1 w13 c13 => ?_, fun hge => ?_⟩
 ·have hjl : j < ln := by have := of_decide_eq_true hlt1; omega
  obtain ⟨a, hx⟩ := get_of (l := ahead) (j := j) (by omega)
  have h13 := h12.later c13
  obtain ⟨b, _, _, _, rfl, _⟩ := hA.each j _ hx
  obtain ⟨q, qn, qc, old⟩ := old_cells hA hx
  rw [ej]
  have hl := lensA j
  rw [← eR] at hl
  have hh := hlt ahead j
  obtain ⟨hc, hAct⟩ := old h13.chg
  refine ⟨b, rfl, by omega, by omega, _, _, _, _, _, _, _, _, hc, ?_⟩
  refine (h13.does (by have := hl.2.1; simp at *; omega) (by have := hl.1; simp at *; omega) hl.2.2 hAct hS (hta a (List.mem_of_getElem? hx))).mono ?_
  rintro _ w14 ⟨r1, r2, r3, r4, r4n, r4c, r5, r5n, r5c, r6, rfl, rfl, rfl, rfl, rfl, fp14, h14, c14, _⟩
  refine ⟨_, _, _, _, _, _, _, _, _, _, rfl, (old h14.chg).1, h13.same (by simp) c14, fun w15 c15 => ?_⟩
  rw [wr (by omega) (by omega)]
  exact ⟨⟨j + 1, by omega, by omega, _, _, fp14, by rw [take_snoc hx, playF_snoc, eF], by rw [take_snoc hx, playR_snoc, eR], rfl, rfl, rfl, h14.put (by simp) hb0 c15⟩, by simp only []; omega⟩
 -- the copy
 have hge' : ¬ j < ln := by have := of_decide_eq_false hge; omega
 obtain rfl : ln = j := by omega
 have lensR : R.pairs.length ≤ 10000 ∧ R.sets.length ≤ 10000 ∧ R.sets ≠ [] := by
  have hl := lensA ln
  rw [← eR] at hl
  have hh := hlt ahead ln
  simp at hl
  exact ⟨by omega, by omega, hl.2.2⟩
 have hl12 := h12.flow.lt
 refine (flow_copy h12.flow).mono ?_
 rintro _ w16 ⟨_, rfl, bc, fq, rfl, hC, c16, hfq⟩
 have s16 := c16.size
 have s12 := h12.chg.size
 have hlq := hC.lt
 have h16 : TwoAt w w16 [b4, b1] bf F R q4 m4 d4 q5 m5 d5 bc F R q4 m4 d4 q5 m5 d5 fp12 fq := by
  have hr := h12.rlt
  refine ⟨h12.other (X := []) (by simp) (by simp) c16 fun b hb => ?_, ⟨hC, h12.ref.chg c16 (by simp) (by simp), h12.rel, h12.good, h12.chg.trans0 c16, fun i hi => by have := hfq i hi; omega, h12.freshR, fun i hi hm => by have := hr i hi; have := hfq i hm; omega, fun b hb => ?_⟩⟩
  ·rcases List.mem_append.1 hb with hb | hb
   ·exact .inl hb
   ·exact .inr ⟨hfq b hb, hlq b hb⟩
  ·rcases List.mem_append.1 hb with hb | hb
   ·obtain ⟨k1, k2, k3⟩ := h12.own b hb
    exact ⟨by omega, fun hm => by have := hfq b hm; omega, k3⟩
   ·have := hl12 b hb
    exact ⟨by omega, fun hm => by have := hfq b hm; omega, fun hm => h12.rows b hm hb⟩
 refine ⟨_, rfl, h12.same0 (by simp) c16, ?_⟩
 refine (flow_same h16.f.flow h16.c.flow).mono ?_
 rintro _ w17 ⟨r19, rfl, hr19, c17⟩
 have s17 := c17.size
 have h17 := h16.later c17
 obtain rfl : r19 = true := hr19.2 ⟨rfl, rfl, rfl, rfl, fun _ => rfl⟩
 refine ⟨_, rfl, h16.f.same0 (by simp) c17, fun h => by simp at h, fun _ => ?_⟩
 rintro b5 w19 ⟨i5, j5⟩ c19
 have h19 := h17.add i5 j5 c19
 have hb50 : w.heap.size ≤ b5 := by omega
 have lensB := fun j : Nat => playR_len (R := R) lensR.2.2 (acts := behind.take j) (fun a ha => htb a ((List.take_sublist j behind).subset ha))
 refine ⟨fun i c1 c2 c3 t4 u4 v4 t5 u5 v5 w' => ∃ k : Nat, i = k ∧ k ≤ mn ∧ ∃ C H fq, C = playF F (behind.take k) ∧ H = playR R (behind.take k) ∧ c1 = H.fr ∧ c2 = H.se ∧ c3 = H.most ∧ TwoAt w w' [b5, b4, b1] bf F R q4 m4 d4 q5 m5 d5 bc C H t4 u4 v4 t5 u5 v5 fp12 fq,
  fun i _ _ _ _ _ _ _ _ _ _ => mn - i.toNat, ⟨0, rfl, Nat.zero_le _, _, _, fq, rfl, rfl, rfl, rfl, rfl, h19⟩, ?_⟩
 rintro _ _ _ _ t4 u4 v4 t5 u5 v5 w20 ⟨k, rfl, hk, C, H, fq20, eC, eH, rfl, rfl, rfl, h20⟩
 have ek : Int.toNat (k : Int) = k := by omega
 refine ⟨fun hlt1 w21 c21 => ?_, fun hge2 => ?_⟩
 ·have hkl : k < mn := by have := of_decide_eq_true hlt1; omega
  obtain ⟨a, hx⟩ := get_of (l := behind) (j := k) (by omega)
  have h21 := h20.later c21
  obtain ⟨b, _, _, _, rfl, _⟩ := hB.each k _ hx
  obtain ⟨q, qn, qc, old⟩ := old_cells hB hx
  rw [ek]
  have hl := lensB k
  rw [← eH] at hl
  have hh := hlt behind k
  obtain ⟨hc, hAct⟩ := old h21.f.chg
  refine ⟨b, rfl, by omega, by omega, _, _, _, _, _, _, _, _, hc, ?_⟩
  refine (h21.swap.does (by have := hl.2.1; omega) (by have := hl.1; omega) hl.2.2 hAct hS (htb a (List.mem_of_getElem? hx))).mono ?_
  rintro _ w22 ⟨r1, r2, r3, r4, r4n, r4c, r5, r5n, r5c, r6, rfl, rfl, rfl, rfl, rfl, hsame, fq22, h22⟩
  refine ⟨_, _, _, _, _, _, _, _, _, _, rfl, (old h22.f.chg).1, fun b hb => hsame b (by simp at hb ⊢; omega), fun w23 c23 => ?_⟩
  rw [wr (by omega) (by omega)]
  exact ⟨⟨k + 1, by omega, by omega, _, _, fq22, by rw [take_snoc hx, playF_snoc, eC], by rw [take_snoc hx, playR_snoc, eH], rfl, rfl, rfl, h22.swap.put (by simp) hb50 c23⟩, by simp only []; omega⟩
 have hge2' : ¬ k < mn := by have := of_decide_eq_false hge2; omega
 obtain rfl : mn = k := by omega
 have lensH : H.pairs.length ≤ 20000 := by
  have hl := lensB mn
  rw [← eH] at hl
  have hh := hlt behind mn
  omega
 refine (h20.f.same12 (by omega)).mono ?_
 rintro _ w24 ⟨_, rfl, rfl, c24⟩
 have h24 := h20.later c24
 refine ⟨_, rfl, h20.f.same0 (by simp) c24, fun b w' => b = false ∧ TwoAt w w' [b4, b1] bf F R q4 m4 d4 q5 m5 d5 bc C H t4 u4 v4 t5 u5 v5 fp12 fq20, ?_, fun _ => ?_, fun h => by simp at h⟩
 rotate_left
 ·refine (h24.c.same12 (by omega)).mono ?_
  rintro _ w26 ⟨_, rfl, rfl, c26⟩
  exact ⟨_, rfl, h24.c.same0 (by simp) c26, rfl, (h24.later c26).drop (by simp)⟩
 rintro _ w25 ⟨rfl, h25⟩
 refine ⟨fun h => by simp at h, fun _ => ?_⟩
 rintro b7 w28 ⟨i7, j7⟩ c28
 have h28 := h25.add i7 j7 c28
 have s25 := h25.f.chg.size
 have s28 := c28.size
 refine (flow_all h28.f.flow).mono ?_
 rintro _ w29 ⟨_, rfl, cb, m, L, rfl, hcb, hAll, c29, hcbn, hmn⟩
 have s29 := c29.size
 have h29 := h28.later c29
 have l1' := lt_of_heap hcb
 have l2' := hAll.map.lt
 have hwide := h29.f.flow.wide
 refine ⟨_, rfl, h28.f.same0 (by simp) c29, _, _, _, isFn100 cb, iterates_flow hcb hAll (by omega) (by omega), by simp; exact ⟨l1', l2'⟩, ?_⟩
 have b7lt := (h29.f.own b7 (by simp)).1
 refine ⟨fun c O pre w' => (0 ≤ c ∧ c ≤ (if leave < 1 then 1 else leave) ∧ Chg [b7] w29 w') ∧ (c < leave ∨ c = 0), fun c O pre w' => (0 ≤ c ∧ c ≤ (if leave < 1 then 1 else leave) ∧ Chg [b7] w29 w') ∧ True, ?_, ?_, ?_, ?_, ?_, ?_⟩
 ·rintro c pre O O' A B ⟨⟨k1, k2, k3⟩, k4⟩ hO hc hO' hg
  exact ⟨⟨k1, k2, k3.trans hc (fun i hi hlt => by have := (hO i hi).1; omega)⟩, k4⟩
 ·rintro c pre O O' A B ⟨⟨k1, k2, k3⟩, k4⟩ hO hc hO' hg
  exact ⟨⟨k1, k2, k3.trans hc (fun i hi hlt => by have := (hO i hi).1; omega)⟩, k4⟩
 ·intro O w30 c30 hO; exact ⟨⟨by omega, by split <;> omega, c30.nil⟩, .inr rfl⟩
 ·rintro l1 O pre x1 x2 x3 c w30 hO hl1 _ ⟨⟨k1, k2, k3⟩, k4⟩ w31 c31 w32 c32
  have hl1' := hO l1 hl1
  have s30 := k3.size
  have s31 := c31.size
  have s32 := c32.size
  unfold i64s at hleave
  have hc1 : c + 1 ≤ 9223372036854775807 := by omega
  rw [wr (by omega) (by omega)]
  have c2932 : Chg [b7] w29 w32 := (k3.trans c31 (fun i hi hlt => by simp at hi; omega)).trans c32 (fun i hi _ => hi)
  have hsm : Same w31 w32 ([cb, m] ++ O) := Same.of c32 fun i hi => by
   rcases List.mem_append.1 hi with h | h
   ·simp at h
    exact ⟨by rcases h with e | e <;> subst e <;> omega, by simp; rcases h with e | e <;> subst e <;> omega⟩
   ·have := hO i h
    exact ⟨by omega, by simp; omega⟩
  refine ⟨fun h => ⟨s32, ⟨⟨by omega, ?_, c2932⟩, trivial⟩, hsm⟩, fun h => ⟨s32, ⟨⟨by omega, ?_, c2932⟩, .inl ?_⟩, hsm⟩⟩
  ·have := of_decide_eq_true h
   split <;> omega
  ·have := of_decide_eq_false h
   split <;> omega
  ·have := of_decide_eq_false h; omega
 all_goals
  rintro d O xs c w33 hO hd _ ⟨⟨k1, k2, k3⟩, _⟩
  have hd' := hO d hd
  have h33 : TwoAt w w33 [d, b7, b4, b1] bf F R q4 m4 d4 q5 m5 d5 bc C H t4 u4 v4 t5 u5 v5 fp12 fq20 := by
   have k := h29.put (by simp) (by omega) k3
   have hx1 := h29.f.flow.lt
   have hx2 := h29.c.flow.lt
   have hx3 := h29.f.rlt
   have hx4 := h29.c.rlt
   refine ⟨{ k.f with own := fun b hb => ?_ }, { k.c with own := fun b hb => ?_ }⟩
   ·rcases List.mem_append.1 hb with hb | hb
    ·rcases List.mem_cons.1 hb with rfl | hb
     ·exact ⟨hd'.2, fun hm => by have := hx1 _ hm; omega, fun hm => by have := hx3 _ hm; omega⟩
     ·exact k.f.own b (List.mem_append_left _ hb)
    ·exact k.f.own b (List.mem_append_right _ hb)
   ·rcases List.mem_append.1 hb with hb | hb
    ·rcases List.mem_cons.1 hb with rfl | hb
     ·exact ⟨hd'.2, fun hm => by have := hx2 _ hm; omega, fun hm => by have := hx4 _ hm; omega⟩
     ·exact k.c.own b (List.mem_append_left _ hb)
    ·exact k.c.own b (List.mem_append_right _ hb)
  refine ⟨fun i c1 c2 c3 o4 a4 e4 o5 a5 e5 w' => ∃ k : Nat, i = k ∧ k ≤ mn ∧ ∃ F' R' fp, F' = playF F (behind.take k) ∧ R' = playR R (behind.take k) ∧ c1 = R'.fr ∧ c2 = R'.se ∧ c3 = R'.most ∧ TwoAt w w' [d, b7, b4, b1] bf F' R' o4 a4 e4 o5 a5 e5 bc C H t4 u4 v4 t5 u5 v5 fp fq20,
   fun i _ _ _ _ _ _ _ _ _ _ => mn - i.toNat, ⟨0, rfl, Nat.zero_le _, _, _, fp12, rfl, rfl, rfl, rfl, rfl, h33⟩, ?_⟩
  rintro _ _ _ _ o4 a4 e4 o5 a5 e5 w34 ⟨n, rfl, hn, F', R', fp34, eF', eR', rfl, rfl, rfl, h34⟩
  have en : Int.toNat (n : Int) = n := by omega
  refine ⟨fun hlt1 w35 c35 => ?_, fun hge3 => ?_⟩
  ·have hnl : n < mn := by have := of_decide_eq_true hlt1; omega
   obtain ⟨a, hx⟩ := get_of (l := behind) (j := n) (by omega)
   have h35 := h34.later c35
   obtain ⟨b, _, _, _, rfl, _⟩ := hB.each n _ hx
   obtain ⟨q, qn, qc, old⟩ := old_cells hB hx
   rw [en]
   have hl := lensB n
   rw [← eR'] at hl
   have hh := hlt behind n
   obtain ⟨hc, hAct⟩ := old h35.f.chg
   refine ⟨b, rfl, by omega, by omega, _, _, _, _, _, _, _, _, hc, ?_⟩
   refine (h35.does (by have := hl.2.1; omega) (by have := hl.1; omega) hl.2.2 hAct hS (htb a (List.mem_of_getElem? hx))).mono ?_
   rintro _ w36 ⟨r1, r2, r3, r4, r4n, r4c, r5, r5n, r5c, r6, rfl, rfl, rfl, rfl, rfl, hsame, fp36, h36⟩
   refine ⟨_, _, _, _, _, _, _, _, _, _, rfl, (old h36.f.chg).1, fun b hb => hsame b (by simp at hb ⊢; omega), fun w37 c37 => ?_⟩
   rw [wr (by omega) (by omega)]
   exact ⟨⟨n + 1, by omega, by omega, _, _, fp36, by rw [take_snoc hx, playF_snoc, eF'], by rw [take_snoc hx, playR_snoc, eR'], rfl, rfl, rfl, h36.put (by simp) hb0 c37⟩, by simp only []; omega⟩
  ·have hge3' : ¬ n < mn := by have := of_decide_eq_false hge3; omega
   obtain rfl : mn = n := by omega
   refine (flow_same h34.f.flow h34.c.flow).mono ?_
   rintro _ w38 ⟨r35, rfl, hr35, c38⟩
   have h38 := h34.later c38
   have heq : F' = C := by rw [eF', eC]
   obtain rfl : r35 = true := hr35.2 (by rw [heq]; exact ⟨rfl, rfl, rfl, rfl, fun _ => rfl⟩)
   refine ⟨_, rfl, h34.f.same0 (by simp) c38, fun b w' => b = true ∧ w' = w38, ?_, fun _ => ⟨decide_eq_true k2, rfl⟩, fun h => by simp at h⟩
   rintro _ w39 ⟨rfl, hw⟩
   subst w39
   refine ⟨fun b w' => b = true ∧ Chg [] w38 w', ?_, fun _ => ?_, fun h => by simp at h⟩
   ·rintro _ w40 ⟨rfl, c40⟩ w42 c42
    exact ⟨rfl, (h38.f.chg.trans0 c40).trans c42 (fun i hi hlt => by simp at hi; omega)⟩
   ·refine (known12 w38).mono ?_
    rintro _ w41 ⟨_, rfl, rfl, c41⟩
    exact ⟨_, rfl, h38.f.same0 (by simp) c41, rfl, c41⟩
end Go.Proofs.YtfcfkhbkkfpehaaGreat
end
section
/- Arguments that came in, opened: acts on flows. -/
namespace Go.Proofs.YtfcfkhbkkfpehaaGreat
open Go Go.RowKit Go.X Go.ChangeShapes Go.WideShapes Go.ChangeAt
theorem len6 {α : Type} {l : List α} (h : l.length = 6) : ∃ a b c d e f, l = [a, b, c, d, e, f] := by
 match l, h with
 | [a, b, c, d, e, f], _ => exact ⟨a, b, c, d, e, f, rfl⟩
section
variable {H : Type} {enc : TypeId × Value → H} {w : World} {base : Nat} {spare : Nat → Bool} {held : Bool} {fuel : Nat} {cs : List Value} {x : DataW H × List MemPlace}
theorem cells25 : Tryz.prog.cellsOf 27 = 1 := by kernel_rfl
theorem open_act (h : DataW.trod enc Tryz.prog w base spare held fuel 79 cs = some x) : ∃ (a : ActV) (q : Option Addr) (qn qc : Nat), cs = [.int .i64 a.kind, .int .i64 a.n, .int .i64 a.p.1, .int .i64 a.p.2, .int .u32 a.set, .slice q qn qc] ∧ ActAt w (oldS w) q qn qc a := by
 obtain ⟨xs, n, _, _, hl, hlen, hf⟩ := DataW.trod_struct Tryz.underlying79 h
 have h0 : DataW.trod enc Tryz.prog w base spare held n 3 ((cs.drop 0).take (Tryz.prog.cellsOf 3)) = xs[0]? := hf 0 _ rfl
 have h1 : DataW.trod enc Tryz.prog w base spare held n 3 ((cs.drop 1).take (Tryz.prog.cellsOf 3)) = xs[1]? := hf 1 _ rfl
 have h2 : DataW.trod enc Tryz.prog w base spare held n 62 ((cs.drop 2).take (Tryz.prog.cellsOf 62)) = xs[2]? := hf 2 _ rfl
 have h3 : DataW.trod enc Tryz.prog w base spare held n 22 ((cs.drop 4).take (Tryz.prog.cellsOf 22)) = xs[3]? := hf 3 _ rfl
 have h4 : DataW.trod enc Tryz.prog w base spare held n 27 ((cs.drop 5).take (Tryz.prog.cellsOf 27)) = xs[4]? := hf 4 _ rfl
 simp only [cells3, cells56, cells22, cells25] at h0 h1 h2 h3 h4
 rw [show Tryz.prog.cellsOf 79 = 6 by kernel_rfl] at hl
 rw [List.getElem?_eq_getElem (by rw [hlen]; decide)] at h0 h1 h2 h3 h4
 obtain ⟨k, e0, _, w0⟩ := DataW.trod_int un3 h0
 obtain ⟨m, e1, _, w1⟩ := DataW.trod_int un3 h1
 obtain ⟨p, e2, k1, k2⟩ := open_place h2
 obtain ⟨st, e3, _, w3⟩ := DataW.trod_int un22 h3
 obtain ⟨q, qn, qc, ts, e4, hq, hT, hTin⟩ := open_touches h4
 obtain ⟨c0, c1, c2, c3, c4, c5, rfl⟩ := len6 hl
 simp at e0 e1 e2 e3 e4
 obtain ⟨rfl, rfl⟩ := e2
 subst e0 e1 e3 e4
 exact ⟨⟨k, m, p, st, ts⟩, q, qn, qc, rfl, ⟨k1, k2⟩, wf_u32 w3, wf_i64 w1, hT, hq, hTin⟩
theorem open_acts (h : DataW.trod enc Tryz.prog w base spare held fuel 69 cs = some x) : ∃ p n c acts, cs = [.slice p n c] ∧ n ≤ maxLen ∧ ActsAt w (oldS w) p n acts := by
 obtain ⟨p, n, c, rfl, hn, hel⟩ := open_slice Tryz.underlying69 h
 obtain ⟨l, hl, hq⟩ := list_of (Q := fun j (a : ActV) => ∃ b q qn qc, p = some b ∧ oldS w b.block ∧ CellsAt w (b.add (j * 6)) 0 [.int .i64 a.kind, .int .i64 a.n, .int .i64 a.p.1, .int .i64 a.p.2, .int .u32 a.set, .slice q qn qc] ∧ ActAt w (oldS w) q qn qc a) (n := n) (fun i hi => by
  obtain ⟨a, cs', m, y, ha, hc, _, hy⟩ := hel i hi
  obtain ⟨v, q, qn, qc, rfl, hv⟩ := open_act hy
  rw [show Tryz.prog.cellsOf 79 = 6 by kernel_rfl] at hc
  exact ⟨v, a, q, qn, qc, ha, by have := cellsAt_lt hc; rwa [add_block] at this, hc, hv⟩)
 exact ⟨p, n, c, l, rfl, hn, hl, hq⟩
end
end Go.Proofs.YtfcfkhbkkfpehaaGreat
end
section
/- What every row's step needs. -/
namespace Go.Proofs.YtfcfkhbkkfpehaaGreat
open Go Go.RowKit Go.X
theorem ownX : ownKnob Tryz.prog.godebug = none := by kernel_rfl
theorem laidOutX : laidOutB Tryz.prog = true := by kernel_rfl
end Go.Proofs.YtfcfkhbkkfpehaaGreat
end
