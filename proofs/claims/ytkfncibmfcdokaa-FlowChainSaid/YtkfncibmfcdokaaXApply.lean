/- Flows: Apply. -/
import Derived.Test.YtkfncibmfcdokaaXRel
import Derived.Test.YtkfncibmfcdokaaXPol1
import Derived.Test.YtkfncibmfcdokaaXIter
import Derived.Test.YtkfncibmfcdokaaXG1
set_option linter.unusedVariables false
set_option linter.unusedSimpArgs false
namespace Go.Proofs.Ytkfncibmfcdokaa
open Go Go.RowKit Go.X

theorem keepAll_now {most : Int} {g : Int × Int → Int} {sets : List Int} (ts : List Tch) : ∀ x ∈ (keepAll most g ts sets).2.1, ∃ t ∈ ts, t.1 = x.1 ∧ t.1 ≠ (0, 0) ∧ x.2 = joinP g t.2 := by
  have : ∀ (ts us : List Tch) (s : List Int × List Pr × Int), (∀ x ∈ s.2.1, ∃ t ∈ us, t.1 = x.1 ∧ t.1 ≠ (0, 0) ∧ x.2 = joinP g t.2) →
      ∀ x ∈ (ts.foldl (keepStep most g) s).2.1, ∃ t ∈ us ++ ts, t.1 = x.1 ∧ t.1 ≠ (0, 0) ∧ x.2 = joinP g t.2 := by
    intro ts
    induction ts with
    | nil => intro us s h x hx; simpa using h x hx
    | cons t ts ih =>
      intro us s h x hx
      have := ih (us ++ [t]) (keepStep most g s t) (fun x hx => by
        unfold keepStep at hx
        split at hx
        · obtain ⟨u, hu, r⟩ := h x hx
          exact ⟨u, List.mem_append_left _ hu, r⟩
        · rename_i hn
          split at hx
          · obtain ⟨u, hu, r⟩ := h x hx
            exact ⟨u, List.mem_append_left _ hu, r⟩
          · rcases mem_upd hx with rfl | hx
            · exact ⟨t, by simp, rfl, fun e => hn (.inr e), rfl⟩
            · obtain ⟨u, hu, r⟩ := h x hx
              exact ⟨u, List.mem_append_left _ hu, r⟩) x hx
      simpa using this
  exact this ts [] (sets, [], 0) (by simp)

def ApplyInv (w : World) (b b1 : Nat) (F : Fl) (fp : List Nat) (ts : List Tch) (w' : World) : Prop :=
  (keepAll F.most F.g ts F.sets).2.2 = 0 ∧ ∃ fp', FlowAt w' b { F with sets := (keepAll F.most F.g ts F.sets).1 } fp' ∧ Chg fp w w' ∧ (∀ i ∈ fp', i ∈ fp ∨ (w.heap.size ≤ i ∧ i ≠ b1)) ∧
    MapIs w' b1 encP (fun n : Int => .int .u32 n) (keepAll F.most F.g ts F.sets).2.1

theorem flow_apply {w : World} {b : Nat} {F : Fl} {fp : List Nat} (h : FlowAt w b F fp) {S : Nat → Prop} {p : Option Addr} {n c : Nat} {ts : List Tch} (hp : TouchesAt w S p n ts) (hS : ∀ i ∈ fp, ¬ S i) (hn : n ≤ 9223372036854775807) (hin : ∀ t ∈ ts, t.2.length ≤ 9223372036854775807) :
    Calls Try.prog 38 #[.pointer (some ⟨b, 0, none⟩), .slice p n c] w fun e w' => ∃ r : Int, e = .returned (.int .i64 r) ∧
      (r = applyE F ts ∧ ∃ fp', FlowAt w' b (applyF F ts) fp' ∧ Chg fp w w' ∧ ∀ i ∈ fp', i ∈ fp ∨ w.heap.size ≤ i) := by
  have hlt0 := h.lt
  refine go_flow_Flow_Apply _ _ _ _ _ _ ?_
  unfold W_flow_Flow_Apply
  refine (flow_none h).mono ?_
  rintro _ w1 ⟨_, rfl, rfl, hw⟩
  subst w1
  refine ⟨_, rfl, fun h => by simp at h, fun _ => ?_⟩
  refine (flow_right (c := c) h hp hn hin).mono ?_
  rintro _ w2 ⟨_, rfl, rfl, c2⟩
  refine ⟨_, rfl, fun hb => ?_, fun hb => ?_⟩
  · have hb' : ¬ rightAll F.fr F.se ts := by simpa [rightAll] using hb
    refine ⟨by unfold applyE; rw [if_neg hb'], fp, ?_, c2.nil, fun i hi => .inl hi⟩
    unfold applyF; rw [if_neg hb']; exact h.chg c2 (by simp)
  have hr : rightAll F.fr F.se ts := by simpa [rightAll] using hb
  refine v_alloc fun b1 w3 eb1 hb1 c3 => ?_
  have c03 := c2.trans0 c3
  have s2 := c2.size
  have hM0 : MapIs w3 b1 encP (fun n : Int => .int .u32 n) ([] : List Pr) := ⟨#[], 0, hb1, rfl, by simp, by simp, by simp⟩
  have hb1fp : b1 ∉ fp := fun hm => by have := hlt0 _ hm; omega
  refine ⟨fun _ x w' => ∃ j : Nat, x = (j : Int) ∧ j ≤ n ∧ ApplyInv w b b1 F fp (ts.take j) w', fun _ x _ => (n - x).toNat, ⟨0, rfl, by omega, rfl, fp, h.chg c03 (by simp), c03.nil, fun i hi => .inl hi, hM0⟩, ?_⟩
  rintro x1 _ w4 ⟨j, rfl, hj, h0, fp4, hF4, c4, hf4, hM4⟩
  have hlt4 := hF4.lt
  have hb14 : b1 ∉ fp4 := fun hm => by
    rcases hf4 _ hm with h | h
    · exact hb1fp h
    · exact h.2 rfl
  refine ⟨fun hlt => ?_, fun hge => ?_⟩
  · have hlt' : j < n := by simpa using hlt
    obtain ⟨t, hj'⟩ := get_of (l := ts) (j := j) (by rw [hp.length]; exact hlt')
    have hmem : t ∈ ts := List.mem_of_getElem? hj'
    obtain ⟨k1, k2, a, q, qn, qc, rfl, ha, hc, hps⟩ := (hp.chg c4 hS).each j _ hj'
    refine ⟨fun _ w' => ApplyInv w b b1 F fp (ts.take (j + 1)) w', fun x w5 h5 => ?_, a, rfl, by omega, by omega, t.1.1, t.1.2, q, qn, qc, by simpa using hc, fun b2 w7 l7 c7 => ⟨fun he => ?_, fun hne => ?_⟩⟩
    · rw [wr (by omega) (by omega)]
      exact ⟨⟨j + 1, by omega, by omega, h5⟩, by simp only []; omega⟩
    · have he' : t.1 = (0, 0) := by
        have : t.1.1 = 0 ∧ t.1.2 = 0 := by simpa using he
        exact Prod.ext this.1 this.2
      unfold ApplyInv
      rw [take_snoc hj', keepAll_snoc]
      unfold keepStep
      rw [if_pos (.inr he')]
      exact ⟨h0, fp4, hF4.chg c7 (by simp), c4.trans c7 (by simp), hf4, hM4.chg c7 (by simp)⟩
    have hne' : t.1 ≠ (0, 0) := by
      intro e; rw [e] at hne; simp at hne
    refine (flow_together (c := qc) (hF4.chg c7 (by simp)) (hps.chg c7 (by simp)) (by rw [← hps.length]; exact hin t hmem)).mono ?_
    rintro _ w8 ⟨_, rfl, rfl, c8⟩
    simp only []
    have hu := joinP_u16 (fun p => h.each p) t.2
    refine ⟨_, rfl, Same.chg c8 (by simp; omega), ?_⟩
    have s8 := c8.size
    have hF8 := (hF4.chg c7 (by simp)).chg c8 (by simp)
    refine (flow_keep hF8 hu.1).mono ?_
    rintro _ w9 ⟨r5, rfl, rfl, fp9, hF9, c9, hf9⟩
    have s4 := c4.size
    have s7 := c7.size
    have c49 : Chg fp4 w4 w9 := ((c7.trans0 c8).nil).trans c9 (fun i hi _ => hi)
    have hf49 : ∀ i ∈ fp9, i ∈ fp4 ∨ w4.heap.size ≤ i := fun i hi => by
      rcases hf9 i hi with h | h
      · exact .inl h
      · exact .inr (by omega)
    obtain ⟨c09, hf09⟩ := grow_trans (fp := fp) (fp' := fp4) c4 (fun i hi => (hf4 i hi).imp id And.left) c49 hf49
    have hl4 : b1 < w4.heap.size := hM4.lt
    have hf9' : ∀ i ∈ fp9, i ∈ fp ∨ (w.heap.size ≤ i ∧ i ≠ b1) := fun i hi => by
      rcases hf49 i hi with h | h
      · exact hf4 i h
      · exact .inr ⟨by omega, by omega⟩
    refine ⟨_, rfl, Same.of c9 (by simp; exact ⟨by omega, fun hm => by have := hlt4 _ hm; omega⟩), fun hbad => ?_, fun hz => ?_⟩
    · have hbad' : keepE F.most (keepAll F.most F.g (ts.take j) F.sets).1 (joinP F.g t.2) ≠ 0 := by simpa using hbad
      have hs : keepAll F.most F.g (ts.take (j + 1)) F.sets = ((keepAll F.most F.g (ts.take j) F.sets).1, (keepAll F.most F.g (ts.take j) F.sets).2.1, keepE F.most (keepAll F.most F.g (ts.take j) F.sets).1 (joinP F.g t.2)) := by
        rw [take_snoc hj', keepAll_snoc]; unfold keepStep
        rw [if_neg (by rintro (h | h); exact h h0; exact hne' h), if_pos hbad']
      have hall : keepAll F.most F.g ts F.sets = keepAll F.most F.g (ts.take (j + 1)) F.sets := by
        have := keepAll_bad (most := F.most) (g := F.g) (ts := ts.take (j + 1)) (us := ts.drop (j + 1)) (sets := F.sets) (by rw [hs]; exact hbad')
        rwa [List.take_append_drop] at this
      refine ⟨?_, fp9, ?_, c09, hf09⟩
      · unfold applyE; rw [if_pos hr, hall, hs]
      · unfold applyF; rw [if_pos hr, hall, hs]
        simp only [if_neg hbad']
        rw [keepS_bad hbad'] at hF9; exact hF9
    have hz' : keepE F.most (keepAll F.most F.g (ts.take j) F.sets).1 (joinP F.g t.2) = 0 := by simpa using hz
    have hM9 := ((hM4.chg c7 (by simp)).chg c8 (by simp)).chg c9 hb14
    obtain ⟨w10, hu10, c10, hs10, hM10⟩ := hM9.update (P := Try.prog) (T := 143) u143 keyPlace (t.1.1, t.1.2) (joinP F.g t.2)
    refine ⟨w10, hu10, ?_⟩
    unfold ApplyInv
    rw [take_snoc hj', keepAll_snoc]
    unfold keepStep
    rw [if_neg (by rintro (h | h); exact h h0; exact hne' h), if_neg (by rw [hz']; simp)]
    exact ⟨rfl, fp9, hF9.chg c10 (fun i hi hm => by
      simp at hm; subst hm
      rcases hf9' _ hi with h | h
      · exact hb1fp h
      · exact h.2 rfl), c09.trans c10 (fun i hi hlt => by simp at hi; omega), hf9', hM10⟩
  have hge' : ¬ j < n := by simpa using hge
  have htk : ts.take j = ts := List.take_of_length_le (by rw [hp.length]; omega)
  rw [htk] at h0 hF4 hM4
  obtain ⟨it, w11, hrg, c11, hit, hI11⟩ := iter_range (P := Try.prog) (T := 143) hM4 u143
  have s4 := c4.size
  have hl4 : b1 < w4.heap.size := hM4.lt
  have hne1 : it ≠ b1 := by omega
  have hitfp : it ∉ fp4 := fun hm => by have := hlt4 _ hm; omega
  have hE : applyE F ts = 0 := by unfold applyE; rw [if_pos hr, h0]
  refine ⟨_, w11, hrg, ?_⟩
  refine ⟨fun w' => ∃ done fp', FlowAt w' b { F with sets := (keepAll F.most F.g ts F.sets).1, g := overP F.g done } fp' ∧ IterAt w' it b1 encP (fun n : Int => .int .u32 n) (keepAll F.most F.g ts F.sets).2.1 done ∧ Chg fp w w' ∧ (∀ i ∈ fp', i ∈ fp ∨ (w.heap.size ≤ i ∧ i ≠ b1 ∧ i ≠ it)),
    fun w' => (keepAll F.most F.g ts F.sets).2.1.length - seenN w' it, ⟨[], fp4, by rw [overP_nil]; exact hF4.chg c11 (by simp), hI11, c4.trans c11 (by simp), fun i hi => ?_⟩, ?_⟩
  · rcases hf4 i hi with h | h
    · exact .inl h
    · exact .inr ⟨h.1, h.2, fun e => hitfp (e ▸ hi)⟩
  rintro w12 ⟨done, fp12, hF12, hI12, c12, hf12⟩
  have hlt12 := hF12.lt
  rcases iter_next (P := Try.prog) hI12 hne1 keyPlace.inj 0 with ⟨hnx, hall⟩ | ⟨k, v, w13, hkl, hnew, hrun, c13, hI13, hent⟩
  · refine ⟨_, false, w12, hnx, rfl, fun h => by simp at h, fun _ => ⟨hE.symm, fp12, ?_, c12, fun i hi => (hf12 i hi).imp id And.left⟩⟩
    unfold applyF
    rw [if_pos hr, if_pos h0]
    have : overP F.g done = overP F.g (keepAll F.most F.g ts F.sets).2.1 := by
      funext q; unfold overP; rw [hI12.end_look hall q]
    rw [← this]; exact hF12
  · refine ⟨_, true, w13, hrun, rfl, fun _ => ?_, fun h => by simp at h⟩
    refine ⟨k.1, k.2, v, hent, fun b3 w15 l15 c15 => ?_⟩
    obtain ⟨t, ht, e1, e2, e3⟩ := keepAll_now ts _ hkl
    simp only [] at e1 e3
    have hmay : mayP F.fr F.se k := by
      have := (hr t ht).1
      rw [e1] at this e2
      exact this.resolve_left e2
    have hu := joinP_u16 (fun p => h.each p) t.2
    rw [← e3] at hu
    have hit12 : it ∉ fp12 := fun hm => by
      rcases hf12 _ hm with h | h
      · have := hlt0 _ h; omega
      · exact h.2.2 rfl
    have hF15 := (hF12.chg c13 (fun i hi hm => by simp at hm; exact hit12 (hm ▸ hi))).chg c15 (by simp)
    refine (flow_put (p1 := k.1) (p2 := k.2) hF15 hmay hu.1 hu.2).mono ?_
    rintro _ w16 ⟨rfl, fp16, hF16, c16, hf16⟩
    have s12 := c12.size
    have s13 := c13.size
    have s15 := c15.size
    have c1216 : Chg (it :: fp12) w12 w16 := ((c13.mono (g := it :: fp12) (by simp)).trans c15 (by simp)).trans c16 (fun i hi _ => by simp [hi])
    have c016 : Chg fp w w16 := c12.trans c1216 (fun i hi hlt => by
      rcases List.mem_cons.1 hi with rfl | hi
      · omega
      · exact (hf12 i hi).resolve_right (fun h => by omega))
    have hb112 : b1 ∉ fp12 := fun hm => by
      rcases hf12 _ hm with h | h
      · exact hb1fp h
      · exact h.2.1 rfl
    have hI16 := (hI13.chg c15 (by simp) (by simp)).chg c16 hit12 hb112
    refine ⟨rfl, ⟨done ++ [(k, v)], fp16, ?_, hI16, c016, fun i hi => ?_⟩, ?_⟩
    · have : overP F.g (done ++ [(k, v)]) = putP (overP F.g done) (k.1, k.2) v := by
        rw [← overP_upd]
        funext q
        unfold overP
        have hn : lookK (k.1, k.2) done = none := lookK_none.2 (fun p hp e => hnew (List.mem_map.2 ⟨p, hp, e⟩))
        unfold upd
        rw [hn]; rfl
      rw [this]; exact hF16
    · have hl16 : it < w12.heap.size := by
        obtain ⟨es, clk, since, c0, seen, ds, h1, _⟩ := hI12
        exact lt_of_heap h1
      rcases hf16 i hi with h | h
      · exact hf12 i h
      · refine .inr ⟨by omega, by omega, by omega⟩
    · have a1 := hI12.count
      have a2 := hI16.count
      have a3 := hI12.more hkl hnew
      simp at a2
      simp only []
      omega
end Go.Proofs.Ytkfncibmfcdokaa
