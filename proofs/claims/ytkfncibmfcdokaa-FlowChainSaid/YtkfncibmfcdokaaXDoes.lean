/- What one act answers, on both flows. -/
import Derived.Test.YtkfncibmfcdokaaXActs
set_option linter.unusedVariables false
set_option linter.unusedSimpArgs false
namespace Go.Proofs.Ytkfncibmfcdokaa
open Go Go.RowKit Go.X

theorem FlowAt.out {w : World} {b : Nat} {F : Fl} {fp : List Nat} (h : FlowAt w b F fp) (p : Int × Int) (hm : ¬ mayP F.fr F.se p) : F.g p = 0 := by
  obtain ⟨T, m, d, r, l, fpT, fpm, fpd, gm, gd, h1, h2, h3, h4, h5, h6, h7, h8, h9, _⟩ := h.there
  obtain ⟨k, n⟩ := p
  unfold mayP boundP at hm
  simp only [] at hm
  by_cases e1 : k = 10
  · subst e1; rw [h6]; exact h3.out (by simp at hm; omega)
  by_cases e2 : k = 12
  · subst e2; rw [h7]; exact h4.out (by simp at hm; omega)
  rw [h8 _ e1 e2]
  cases hk : lookK (k, n) l with
  | none => rfl
  | some v =>
    have := (h9 _ (lookK_mem hk)).2.2.1
    unfold mayP boundP at this
    simp only [] at this
    exact absurd this hm
def tame (a : ActV) : Prop := ¬ ((200 < a.n ∧ a.n ≤ 65536) ∨ broadT a.ts)
theorem stepR_shape (R : Rf) (a : ActV) : (stepR R a).fr = R.fr ∧ (stepR R a).se = R.se ∧ (stepR R a).most = R.most := by
  unfold stepR
  split
  · exact refMark_shape _ _ _ _
  · unfold refApply; split <;> exact ⟨rfl, rfl, rfl⟩
theorem stepF_shape (F : Fl) (a : ActV) : (stepF F a).fr = F.fr ∧ (stepF F a).se = F.se ∧ (stepF F a).most = F.most := by
  unfold stepF
  split
  · unfold markF; split <;> exact ⟨rfl, rfl, rfl⟩
  · unfold applyF; split <;> exact ⟨rfl, rfl, rfl⟩
theorem stepR_len {R : Rf} {a : ActV} (ha : tame a) (hne : R.sets ≠ []) : (stepR R a).pairs.length ≤ R.pairs.length + 220 ∧ (stepR R a).sets.length ≤ R.sets.length + 20 ∧ (stepR R a).sets ≠ [] := by
  unfold tame broadT at ha
  unfold stepR
  split
  · have h1 := refMark_ne hne a.p a.n a.set
    unfold refMark
    split
    · rename_i h0
      unfold refMarkE at h0
      have hn : a.n ≤ 65536 := by
        split at h0
        · omega
        split at h0
        · omega
        · omega
      have := refFill_length a.p a.set R.pairs a.n.toNat
      have h2 : (keepS R.most R.sets a.set).length ≤ R.sets.length + 1 := by
        unfold keepS; split
        · omega
        · simp
      exact ⟨by simp only []; omega, by simp only []; omega, keepS_ne hne _⟩
    · exact ⟨by omega, by omega, hne⟩
  · unfold refApply
    split
    · have h1 := keepAll_len R.most (lookPr R.pairs) a.ts R.sets
      have h2 := putAll_len (lookPr R.pairs) a.ts R.pairs
      refine ⟨?_, by simp only []; omega, h1.2 hne⟩
      simp only []
      split <;> omega
    · exact ⟨by omega, by omega, hne⟩

theorem does_ok {w : World} {b : Nat} {F : Fl} {fp : List Nat} (hF : FlowAt w b F fp) {R : Rf} {p4 p5 : Option Addr} {n4 c4 n5 c5 : Nat} (hR : RefAt w R p4 n4 c4 p5 n5 c5) (hrel : RelF F R) (hdis : ∀ i ∈ rowB p4 ++ rowB p5, i ∉ fp)
    (hn4 : R.sets.length ≤ 100000) (hn5 : R.pairs.length ≤ 90000000) (hne : R.sets ≠ []) {S : Nat → Prop} {q : Option Addr} {qn qc : Nat} {a : ActV} (hA : ActAt w S q qn qc a) (hS : ∀ i ∈ fp, ¬ S i) (ht : tame a) :
    Calls Try.prog 27 #[.pointer (some ⟨b, 0, none⟩), .agg #[.int .i64 R.fr, .int .i64 R.se, .int .i64 R.most, .slice p4 n4 c4, .slice p5 n5 c5], .agg #[.int .i64 a.kind, .int .i64 a.n, .int .i64 a.p.1, .int .i64 a.p.2, .int .u32 a.set, .slice q qn qc]] w fun e w' =>
      ∃ (r1 : Int) (r2 : Int) (r3 : Int) (r4 : Option Addr) (r4n : Nat) (r4c : Nat) (r5 : Option Addr) (r5n : Nat) (r5c : Nat) (r6 : Bool), e = .returned (.tuple #[.agg #[.int .i64 r1, .int .i64 r2, .int .i64 r3, .slice r4 r4n r4c, .slice r5 r5n r5c], .bool r6]) ∧
      (r1 = R.fr ∧ r2 = R.se ∧ r3 = R.most ∧ r6 = true ∧ RefAt w' (stepR R a) r4 r4n r4c r5 r5n r5c ∧ ∃ fp', FlowAt w' b (stepF F a) fp' ∧ Chg fp w w' ∧ (∀ i ∈ fp', i ∈ fp ∨ w.heap.size ≤ i) ∧
        (∀ i ∈ rowB r4 ++ rowB r5, i ∈ rowB p4 ++ rowB p5 ∨ w.heap.size ≤ i) ∧ ∀ i ∈ rowB r4 ++ rowB r5, i ∉ fp') := by
  have hlt := hF.lt
  have hwide := hF.wide
  have hw' : i64s (64 * R.fr) ∧ i64s (64 * R.se) := by rw [hrel.fr, hrel.se]; unfold i64s; omega
  have hw1 : 1 ≤ R.fr ∧ R.fr ≤ 32 ∧ 1 ≤ R.se ∧ R.se ≤ 32 := by rw [hrel.fr, hrel.se]; exact hwide
  have hu : ∀ q, u16 (lookPr R.pairs q) := fun q => by rw [hrel.look]; exact hF.each q
  have hrlt : ∀ i ∈ rowB p4 ++ rowB p5, i < w.heap.size := fun i hi => (List.mem_append.1 hi).elim (hR.sets.lt i) (hR.pairs.lt i)
  have hn4' := hR.n4
  have hn5' := hR.n5
  have hqn := hA.qn
  have hlen := hA.ts.length
  simp only [maxLen] at hqn
  have hin : ∀ t ∈ a.ts, t.2.length ≤ 9223372036854775807 := fun t h => by have := hA.inner t h; simp only [maxLen] at this; omega
  have htame := ht
  unfold tame broadT at htame
  refine go_pomanderlaw12_does _ _ _ _ _ _ _ _ _ _ _ _ _ _ _ _ _ _ _ _ ?_
  unfold W_pomanderlaw12_does
  intro b3 b2 b1 w3 l3 l2 l1 c3
  have hnb : ∀ {x : Nat}, w.heap.size ≤ x → x ∉ fp := fun hx hm => by have := hlt _ hm; omega
  refine ⟨fun hk => ?_, fun hk => ?_⟩
  · have hk' : a.kind = 1 := by simpa using hk
    refine (flow_mark (hF.chg c3 (by simp)) (p1 := a.p.1) (p2 := a.p.2) (n := a.n) (set := a.set) hA.p.2 hA.set.1).mono ?_
    rintro _ w4 ⟨_, rfl, rfl, fp4, hF4, d4, hf4⟩
    have s3 := c3.size
    have s4 := d4.size
    have c04 : Chg fp w w4 := c3.nil.trans d4 (fun i hi _ => hi)
    refine ⟨_, rfl, Same.of d4 (by simp; exact ⟨⟨by omega, hnb (by omega)⟩, ⟨by omega, hnb (by omega)⟩, by omega, hnb (by omega)⟩), ?_⟩
    refine (ref_mark (hR.chg c04 (fun i hi => hdis i (List.mem_append_left _ hi)) (fun i hi => hdis i (List.mem_append_right _ hi))) (by omega) (by omega) hne hw1 (p1 := a.p.1) (p2 := a.p.2) (n := a.n) (set := a.set) hA.set.1).mono ?_
    rintro _ w5 ⟨_, _, _, r4, r4n, r4c, r5, r5n, r5c, _, rfl, rfl, rfl, rfl, rfl, hR5, d5, hf5⟩
    have s5 := d5.size
    refine ⟨_, _, _, _, _, _, _, _, _, _, rfl, Same.chg d5 (by simp; omega), ?_⟩
    intro b4 w8 l4 d8
    have hlt4 := hF4.lt
    have hR5lt : ∀ i ∈ rowB r4 ++ rowB r5, i < w5.heap.size := fun i hi => (List.mem_append.1 hi).elim (hR5.sets.lt i) (hR5.pairs.lt i)
    have hb3 : ∀ i ∈ rowB r4 ++ rowB r5, i ∉ [b3] := fun i hi hm => by
      simp at hm; subst hm
      rcases hf5 _ hi with h | h
      · have := hrlt _ h; omega
      · omega
    have eR : stepR R a = refMark R (a.p.1, a.p.2) a.n a.set := by unfold stepR; rw [if_pos hk']
    have eF : stepF F a = markF F (a.p.1, a.p.2) a.n a.set := by unfold stepF; rw [if_pos hk']
    rw [eR, eF]
    have hF5 := (hF4.chg d5 (by simp)).chg d8 (f := [b3]) (fun i hi hm => by
      simp at hm; subst hm
      rcases hf4 _ hi with h | h
      · have := hlt _ h; omega
      · omega)
    refine ⟨rfl, rfl, rfl, ?_, hR5.chg d8 (fun i hi => hb3 i (List.mem_append_left _ hi)) (fun i hi => hb3 i (List.mem_append_right _ hi)), fp4, hF5, ?_, fun i hi => ?_, fun i hi => ?_, fun i hi hm => ?_⟩
    · rw [hrel.markE]; simp
    · exact (c04.trans d5 (by simp)).trans d8 (fun i hi hlt' => by simp at hi; omega)
    · rcases hf4 i hi with h | h
      · exact .inl h
      · exact .inr (by omega)
    · rcases hf5 i hi with h | h
      · exact .inl h
      · exact .inr (by omega)
    · rcases hf5 i hi with h | h
      · rcases hf4 i hm with h' | h'
        · exact hdis i h h'
        · have := hrlt i h; omega
      · have := hlt4 i hm; omega
  · have hk' : a.kind ≠ 1 := by simpa using hk
    have eR : stepR R a = refApply R a.ts := by unfold stepR; rw [if_neg hk']
    have eF : stepF F a = applyF F a.ts := by unfold stepF; rw [if_neg hk']
    have s3 := c3.size
    refine (flow_decides (c := qc) (hF.chg c3 (by simp)) (hA.ts.chg c3 (by simp)) (by omega) hin).mono ?_
    rintro _ w9 ⟨r14, r15, rfl, c9, hr9⟩
    have s9 := c9.size
    have c09 := c3.trans0 c9
    refine ⟨_, _, rfl, Same.chg c9 (by simp; omega), ?_⟩
    refine (ref_mayAll (p4 := p4) (n4 := n4) (c4 := c4) (p5 := p5) (n5 := n5) (c5 := c5) (c := qc) hw' (hA.ts.chg c09 (by simp)) (by omega) hin).mono ?_
    rintro _ w10 ⟨_, rfl, rfl, c10⟩
    have s10 := c10.size
    have c010 := c09.trans0 c10
    have hright : (∀ t ∈ a.ts, rightT F.fr F.se t) ↔ rightAll R.fr R.se a.ts := by unfold rightAll; rw [hrel.fr, hrel.se]
    refine ⟨_, rfl, Same.chg c10 (by simp; omega), fun b w' => b = false ∧ Chg [] w w' ∧ w10.heap.size ≤ w'.heap.size, ?_, ?_, ?_⟩
    · rintro _ w11 ⟨rfl, c11, s11⟩
      have hcond : (false || (!decide (rightAll R.fr R.se a.ts) && (!(r14 == 0) || !(r15 == 2)))) = false := by
        by_cases hr : rightAll R.fr R.se a.ts
        · simp [hr]
        · rw [if_neg (fun h => hr (hright.1 h))] at hr9
          rw [hr9.1, hr9.2]; simp
      refine ⟨fun h => (by rw [hcond] at h; cases h), fun _ => ?_⟩
      refine (flow_apply (c := qc) (hF.chg c11 (by simp)) (hA.ts.chg c11 (by simp)) hS (by omega) hin).mono ?_
      rintro _ w15 ⟨_, rfl, rfl, fp15, hF15, d15, hf15⟩
      have s15 := d15.size
      have c015 : Chg fp w w15 := c11.nil.trans d15 (fun i hi _ => hi)
      have hlt15 := hF15.lt
      refine ⟨_, rfl, Same.of d15 (by simp; exact ⟨⟨by omega, hnb (by omega)⟩, ⟨by omega, hnb (by omega)⟩, by omega, hnb (by omega)⟩), ?_⟩
      refine (ref_apply (c := qc) (hR.chg c015 (fun i hi => hdis i (List.mem_append_left _ hi)) (fun i hi => hdis i (List.mem_append_right _ hi))) (by omega) (by omega) hne hw' hu (hA.ts.chg c015 hS) (by omega) hin).mono ?_
      rintro _ w16 ⟨_, _, _, r4, r4n, r4c, r5, r5n, r5c, _, rfl, rfl, rfl, rfl, rfl, hR16, d16, hf16⟩
      have s16 := d16.size
      refine ⟨_, _, _, _, _, _, _, _, _, _, rfl, Same.chg d16 (by simp; omega), ?_⟩
      intro b7 w19 l7 d19
      have hb3 : ∀ i ∈ rowB r4 ++ rowB r5, i ∉ [b3] := fun i hi hm => by
        simp at hm; subst hm
        rcases hf16 _ hi with h | h
        · have := hrlt _ h; omega
        · omega
      rw [eR, eF]
      have hF19 := (hF15.chg d16 (by simp)).chg d19 (f := [b3]) (fun i hi hm => by
        simp at hm; subst hm
        rcases hf15 _ hi with h | h
        · have := hlt _ h; omega
        · omega)
      refine ⟨rfl, rfl, rfl, ?_, hR16.chg d19 (fun i hi => hb3 i (List.mem_append_left _ hi)) (fun i hi => hb3 i (List.mem_append_right _ hi)), fp15, hF19, ?_, fun i hi => ?_, fun i hi => ?_, fun i hi hm => ?_⟩
      · rw [hrel.applyE]; simp
      · exact (c015.trans d16 (by simp)).trans d19 (fun i hi hlt' => by simp at hi; omega)
      · rcases hf15 i hi with h | h
        · exact .inl h
        · exact .inr (by have := c11.size; omega)
      · rcases hf16 i hi with h | h
        · exact .inl h
        · exact .inr (by omega)
      · rcases hf16 i hi with h | h
        · rcases hf15 i hm with h' | h'
          · exact hdis i h h'
          · have := hrlt i h; have := c11.size; omega
        · have := hlt15 i hm; omega
    · intro _
      refine ⟨fun b w' => b = false ∧ Chg [] w w' ∧ w10.heap.size ≤ w'.heap.size, fun b w' h => h, fun hr => ?_, fun hr => ?_⟩
      · have hr' : rightAll R.fr R.se a.ts := by simpa using hr
        rw [if_pos (hright.2 hr')] at hr9
        refine (ref_decides (c := qc) (hR.chg c010 (by simp) (by simp)) (by omega) hu (hA.ts.chg c010 (by simp)) (by omega) hin).mono ?_
        rintro _ w13 ⟨_, rfl, rfl, c13⟩
        have s13 := c13.size
        refine ⟨_, rfl, Same.chg c13 (by simp; omega), ?_, c010.trans0 c13, by omega⟩
        rw [hr9.1, hrel.g]; simp
      · exact ⟨rfl, c010, Nat.le_refl _⟩
    · intro hh
      exfalso
      by_cases hr : rightAll R.fr R.se a.ts
      · rw [if_pos (hright.2 hr)] at hr9
        simp [hr, hr9.2] at hh
      · rw [if_neg (fun h => hr (hright.1 h))] at hr9
        simp [hr, hr9.2] at hh
end Go.Proofs.Ytkfncibmfcdokaa
