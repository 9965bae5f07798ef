/- The laws' helpers: broad, made. -/
import Derived.Test.YtkfncibmfcdokaaXPol1
set_option linter.unusedVariables false
set_option linter.unusedSimpArgs false
namespace Go.Proofs.Ytkfncibmfcdokaa
open Go Go.RowKit Go.X

def broadP (m : Nat) (ts : List Tch) : Prop := 30 < m ∨ 20 < ts.length ∨ ∃ t ∈ ts, 20 < t.2.length
instance (m : Nat) (ts : List Tch) : Decidable (broadP m ts) := by unfold broadP; exact inferInstance
theorem broad_ok {w : World} {m1 : Option Addr} {mn mc : Nat} {S : Nat → Prop} {p : Option Addr} {n c : Nat} {ts : List Tch} (hp : TouchesAt w S p n ts) (hn : n ≤ maxLen) (hm : mn ≤ maxLen) :
    Calls Try.prog 17 #[.slice m1 mn mc, .slice p n c] w fun e w' => ∃ r : Bool, e = .returned (.bool r) ∧ (r = decide (broadP mn ts) ∧ w' = w) := by
  have hl := hp.length
  simp only [maxLen] at hn hm
  refine ok_pomanderlaw13_broad _ _ _ _ _ _ _ _ ?_
  unfold V_pomanderlaw13_broad
  refine ⟨fun h => ?_, fun h => ?_⟩
  · have h' : 30 < mn ∨ 20 < n := by
      simp at h; omega
    refine ⟨?_, rfl⟩
    symm; rw [decide_eq_true_eq]; unfold broadP; omega
  have h' : ¬ 30 < mn ∧ ¬ 20 < n := by
    simp at h; omega
  refine ⟨fun s w' => ∃ j : Nat, s.2 = (j : Int) ∧ j ≤ n ∧ w' = w ∧ ∀ t ∈ ts.take j, ¬ 20 < t.2.length, fun s _ => (n - s.2).toNat, ⟨0, rfl, by omega, rfl, by intro t ht; simp at ht⟩, ?_⟩
  rintro ⟨s1, s2⟩ w1 ⟨j, rfl, hj, hw, hall⟩
  subst w1
  refine ⟨fun hlt => ?_, fun hge => ?_⟩
  · have hlt' : j < n := by simpa using hlt
    obtain ⟨t, ht⟩ := get_of (l := ts) (j := j) (by omega)
    obtain ⟨_, _, a, q, qn, qc, rfl, _, hc, hps⟩ := hp.each j t ht
    refine ⟨a, rfl, by simp only []; omega, by simp only []; omega, q, qn, qc, by simpa using hc.2.2.1, fun hb => ?_, fun hb => ?_⟩
    · have hb' : 20 < qn := by
        simp at hb; omega
      refine ⟨?_, rfl⟩
      symm; rw [decide_eq_true_eq]
      exact .inr (.inr ⟨t, List.mem_of_getElem? ht, by rw [hps.length]; exact hb'⟩)
    · have hb' : ¬ 20 < qn := by
        simp at hb; omega
      simp only []
      rw [wr (by omega) (by omega)]
      refine ⟨⟨j + 1, by omega, by omega, trivial, ?_⟩, by omega⟩
      rw [take_snoc ht]
      intro x hx
      rcases List.mem_append.1 hx with hx | hx
      · exact hall x hx
      · simp at hx; rw [hx, hps.length]; exact hb'
  · have hge' : ¬ j < n := by simpa using hge
    rw [List.take_of_length_le (by omega)] at hall
    refine ⟨?_, rfl⟩
    symm; rw [decide_eq_false_iff_not]
    rintro (h1 | h1 | ⟨t, ht, h1⟩)
    · exact h'.1 h1
    · omega
    · exact hall t ht h1

def madeF (ms : List Pr) : Fl := ms.foldl (fun F m => markF F m.1 1 m.2) (flowNew 2 2 65536)
def madeR (ms : List Pr) : Rf := ms.foldl (fun R m => refMark R m.1 1 m.2) ⟨2, 2, 65536, [0], []⟩
theorem madeF_snoc (ms : List Pr) (m : Pr) : madeF (ms ++ [m]) = markF (madeF ms) m.1 1 m.2 := by simp [madeF]
theorem madeR_snoc (ms : List Pr) (m : Pr) : madeR (ms ++ [m]) = refMark (madeR ms) m.1 1 m.2 := by simp [madeR]
theorem refMark_shape (R : Rf) (p : Int × Int) (n set : Int) : (refMark R p n set).fr = R.fr ∧ (refMark R p n set).se = R.se ∧ (refMark R p n set).most = R.most := by
  unfold refMark; split <;> exact ⟨rfl, rfl, rfl⟩
theorem refMark_len (R : Rf) (p : Int × Int) (n set : Int) : (refMark R p n set).pairs.length ≤ R.pairs.length + n.toNat ∧ (refMark R p n set).sets.length ≤ R.sets.length + 1 := by
  unfold refMark
  split
  · refine ⟨refFill_length _ _ _ _, ?_⟩
    simp only [keepS]; split <;> simp
  · exact ⟨by omega, by omega⟩
theorem keepS_ne {most : Int} {sets : List Int} (h : sets ≠ []) (set : Int) : keepS most sets set ≠ [] := by
  unfold keepS; split
  · exact h
  · simp
theorem refMark_ne {R : Rf} (h : R.sets ≠ []) (p : Int × Int) (n set : Int) : (refMark R p n set).sets ≠ [] := by
  unfold refMark; split
  · exact keepS_ne h set
  · exact h
theorem madeR_ok (ms : List Pr) : (madeR ms).fr = 2 ∧ (madeR ms).se = 2 ∧ (madeR ms).most = 65536 ∧ (madeR ms).pairs.length ≤ ms.length ∧ (madeR ms).sets.length ≤ ms.length + 1 ∧ (madeR ms).sets ≠ [] := by
  unfold madeR
  have : ∀ (ms : List Pr) (R : Rf), R.fr = 2 → R.se = 2 → R.most = 65536 → R.sets ≠ [] → (ms.foldl (fun R m => refMark R m.1 1 m.2) R).fr = 2 ∧ (ms.foldl (fun R m => refMark R m.1 1 m.2) R).se = 2 ∧ (ms.foldl (fun R m => refMark R m.1 1 m.2) R).most = 65536 ∧ (ms.foldl (fun R m => refMark R m.1 1 m.2) R).pairs.length ≤ R.pairs.length + ms.length ∧ (ms.foldl (fun R m => refMark R m.1 1 m.2) R).sets.length ≤ R.sets.length + ms.length ∧ (ms.foldl (fun R m => refMark R m.1 1 m.2) R).sets ≠ [] := by
    intro ms
    induction ms with
    | nil => intro R h1 h2 h3 h4; exact ⟨h1, h2, h3, by simp, by simp, h4⟩
    | cons m ms ih =>
      intro R h1 h2 h3 h4
      simp only [List.foldl_cons, List.length_cons]
      obtain ⟨a, b, c⟩ := refMark_shape R m.1 1 m.2
      obtain ⟨k1, k2⟩ := refMark_len R m.1 1 m.2
      have := ih (refMark R m.1 1 m.2) (by rw [a, h1]) (by rw [b, h2]) (by rw [c, h3]) (refMark_ne h4 _ _ _)
      have e1 : (1 : Int).toNat = 1 := rfl
      rw [e1] at k1
      exact ⟨this.1, this.2.1, this.2.2.1, by omega, by omega, this.2.2.2.2.2⟩
  have := this ms ⟨2, 2, 65536, [0], []⟩ rfl rfl rfl (by simp)
  simp only [List.length_nil, List.length_cons] at this
  exact ⟨this.1, this.2.1, this.2.2.1, by omega, by omega, this.2.2.2.2.2⟩

/-- What made leaves: a flow, and the document's one. -/
theorem made_ok {w : World} {S : Nat → Prop} {p : Option Addr} {n c : Nat} {ms : List Pr} (hp : MarksAt w S p n ms) (hn : n ≤ 1000) :
    Calls Try.prog 19 #[.slice p n c] w fun e w' => ∃ (r1 : Option Addr) (r2 : Int) (r3 : Int) (r4 : Int) (r5 : Option Addr) (r5n : Nat) (r5c : Nat) (r6 : Option Addr) (r6n : Nat) (r6c : Nat), e = .returned (.tuple #[.pointer r1, .agg #[.int .i64 r2, .int .i64 r3, .int .i64 r4, .slice r5 r5n r5c, .slice r6 r6n r6c]]) ∧
      (∃ bf fp, r1 = some ⟨bf, 0, none⟩ ∧ FlowAt w' bf (madeF ms) fp ∧ r2 = 2 ∧ r3 = 2 ∧ r4 = 65536 ∧ RefAt w' (madeR ms) r5 r5n r5c r6 r6n r6c ∧ Chg [] w w' ∧ (∀ i ∈ fp, w.heap.size ≤ i) ∧ (∀ i ∈ rowB r5 ++ rowB r6, w.heap.size ≤ i ∧ i ∉ fp)) := by
  have hl := hp.length
  refine ok_pomanderlaw13_made _ _ _ _ _ ?_
  unfold V_pomanderlaw13_made
  refine v_alloc fun b1 w1 e1 h1 c1 => ?_
  refine v_box (by rfl) (by rfl) fun b2 w3 e3 h3 c3 => ?_
  have h13 := c3.obj (by simp) h1
  have c03 := c1.trans0 c3
  have l1 : b1 < w1.heap.size := lt_of_heap h1
  have l2 : b2 < w3.heap.size := lt_of_heap h3
  have s1 := c1.size
  have s3 := c3.size
  refine ⟨_, _, cellsAt_of h3, ?_⟩
  refine (flow_new w3 2 2 65536).mono ?_
  rintro _ w4 ⟨r7, r8, rfl, c4, hr⟩
  rw [if_pos (by decide)] at hr
  obtain ⟨rfl, bf, fp, rfl, hF, hfp⟩ := hr
  have s4 := c4.size
  refine ⟨_, _, rfl, _, _, cellsAt_of (c4.obj (by simp) h3), ?_⟩
  refine (ref_new 2 2 65536).mono ?_
  rintro _ w5 ⟨r9, r10, r11, r12, r12n, r12c, r13, r13n, r13c, rfl, rfl, rfl, rfl, hR, c5, hrf⟩
  have s5 := c5.size
  refine ⟨_, _, _, _, _, _, _, _, _, rfl, ?_⟩
  refine v_box (by rfl) (by rfl) fun b3 w7 e7 h7 c7 => ?_
  have s7 := c7.size
  have c47 := c5.trans0 c7
  have c07 := (c03.trans0 c4).trans0 c47
  have l3 : b3 < w7.heap.size := lt_of_heap h7
  have h17 := (c4.trans0 c47).obj (by simp) h13
  have hFlt := hF.lt
  have hRlt4 := hR.sets.lt
  have hRlt5 := hR.pairs.lt
  refine ⟨fun s w' => ∃ (j : Nat) (fp' : List Nat) (q4 : Option Addr) (m4 k4 : Nat) (q5 : Option Addr) (m5 k5 : Nat), s = (j : Int) ∧ j ≤ n ∧ FlowAt w' bf (madeF (ms.take j)) fp' ∧ RefAt w' (madeR (ms.take j)) q4 m4 k4 q5 m5 k5 ∧ Chg [] w w' ∧
      w'.heap[b1]? = some (.cells #[.int .i64 0, .int .i64 0, .int .i64 0, .slice none 0 0, .slice none 0 0] 36 (0, 0)) ∧ w'.heap[b3]? = some (.cells #[.int .i64 2, .int .i64 2, .int .i64 65536, .slice q4 m4 k4, .slice q5 m5 k5] 36 (0, 0)) ∧ w7.heap.size ≤ w'.heap.size ∧
      (∀ i ∈ fp', w3.heap.size ≤ i ∧ i ≠ b3) ∧ (∀ i ∈ rowB q4 ++ rowB q5, w3.heap.size ≤ i ∧ i ∉ fp' ∧ i ≠ b3),
    fun s _ => (n - s).toNat, ⟨0, fp, r12, r12n, r12c, r13, r13n, r13c, rfl, by omega, hF.chg c47 (by simp), hR.chg c7 (by simp) (by simp), c07, h17, h7, Nat.le_refl _, fun i hi => ?_, fun i hi => ?_⟩, ?_⟩
  · have := hfp i hi; have := hFlt i hi; omega
  · have h1 := hrf i hi
    have h2 : i < w5.heap.size := by
      rcases List.mem_append.1 hi with h | h
      · exact hRlt4 i h
      · exact hRlt5 i h
    exact ⟨by omega, fun hm => by have := hFlt i hm; omega, by omega⟩
  rintro _ w8 ⟨j, fp', q4, m4, k4, q5, m5, k5, rfl, hj, hF8, hR8, c8, h18, h38, s8, hfp8, hr8⟩
  refine ⟨fun hlt => ?_, fun hge => ?_⟩
  · have hlt' : j < n := by simpa using hlt
    obtain ⟨x, hx⟩ := get_of (l := ms) (j := j) (by omega)
    refine v_drew fun w9 c9 => ?_
    obtain ⟨kx, kx0, kx1, a, rfl, ha, hc⟩ := (hp.chg (c8.trans0 c9) (by simp)).each j x hx
    refine ⟨a, rfl, by omega, by omega, x.1.1, x.1.2, ⟨by simpa using hc.1, by simpa using hc.2.1, trivial⟩, a, rfl, by omega, by omega, x.2, by simpa using hc.2.2.1, ?_⟩
    have hF8lt := hF8.lt
    have hR8lt4 := hR8.sets.lt
    have hR8lt5 := hR8.pairs.lt
    have s9 := c9.size
    refine (flow_mark (p1 := x.1.1) (p2 := x.1.2) (n := 1) (set := x.2) (hF8.chg c9 (by simp)) kx kx0).mono ?_
    rintro _ w10 ⟨r14, rfl, rfl, fp10, hF10, c10, hfp10⟩
    have s10 := c10.size
    have c810 : Chg fp' w8 w10 := c9.nil.trans c10 (fun _ h _ => h)
    refine ⟨_, rfl, v_drew fun w11 c11 => ?_⟩
    have s11 := c11.size
    have c811 : Chg fp' w8 w11 := c810.trans c11.nil (fun _ h _ => h)
    have c011 : Chg [] w w11 := c8.trans c811 (fun i hi hl => by have := (hfp8 i hi).1; omega)
    have h311 := c811.obj (fun hm => (hfp8 _ hm).2 rfl) h38
    have h111 := c811.obj (fun hm => by have := (hfp8 _ hm).1; omega) h18
    obtain ⟨_, _, _, a', ha', _, hc'⟩ := (hp.chg c011 (by simp)).each j x hx
    cases ha'
    have hRok := madeR_ok (ms.take j)
    have hlen : (ms.take j).length ≤ n := by rw [List.length_take]; omega
    refine ⟨_, _, _, _, _, _, _, _, _, cellsAt_of h311, a, rfl, by omega, by omega, x.1.1, x.1.2, ⟨by simpa using hc'.1, by simpa using hc'.2.1, trivial⟩, a, rfl, by omega, by omega, x.2, by simpa using hc'.2.2.1, ?_⟩
    have hR11 := hR8.chg c811 (fun i hi => (hr8 i (List.mem_append.2 (.inl hi))).2.1) (fun i hi => (hr8 i (List.mem_append.2 (.inr hi))).2.1)
    have hm4 := hR8.n4
    have hm5 := hR8.n5
    have hmark := ref_mark (p1 := x.1.1) (p2 := x.1.2) (n := 1) (set := x.2) hR11 (by omega) (by omega) hRok.2.2.2.2.2 (by rw [hRok.1, hRok.2.1]; omega) kx0
    rw [hRok.1, hRok.2.1, hRok.2.2.1] at hmark
    refine hmark.mono ?_
    rintro _ w12 ⟨r15, r16, r17, r18, r18n, r18c, r19, r19n, r19c, r20, rfl, rfl, rfl, rfl, rfl, hR12, c12, hf12⟩
    have s12 := c12.size
    have h312 := c12.obj (by simp) h311
    obtain ⟨_, _, _, a', ha', _, hc''⟩ := (hp.chg (c011.trans0 c12) (by simp)).each j x hx
    cases ha'
    refine ⟨_, _, _, _, _, _, _, _, _, _, rfl, ⟨cellsAt_of h312, ⟨by simpa using hc''.1, by simpa using hc''.2.1, trivial⟩, by simpa using hc''.2.2.1, trivial⟩, ?_⟩
    refine v_fill h312 (by rfl) (by rfl) fun w13 h13' c13 _ => ?_
    rw [wr (by omega) (by omega)]
    have c012 := c011.trans0 c12
    have hF10lt := hF10.lt
    have hnew : ∀ i ∈ rowB r18 ++ rowB r19, w3.heap.size ≤ i ∧ i ∉ fp10 ∧ i ≠ b3 := fun i hi => by
      rcases hf12 i hi with h | h
      · obtain ⟨g1, g2, g3⟩ := hr8 i h
        refine ⟨g1, fun hm => ?_, g3⟩
        rcases hfp10 i hm with h' | h'
        · exact g2 h'
        · rcases List.mem_append.1 h with h | h
          · have := hR8lt4 i h; omega
          · have := hR8lt5 i h; omega
      · exact ⟨by omega, fun hm => by have := hF10lt i hm; omega, by omega⟩
    have hfnew : ∀ i ∈ fp10, w3.heap.size ≤ i ∧ i ≠ b3 := fun i hi => by
      rcases hfp10 i hi with h | h
      · exact hfp8 i h
      · exact ⟨by omega, by omega⟩
    refine ⟨⟨j + 1, fp10, r18, r18n, r18c, r19, r19n, r19c, by omega, by omega, ?_, ?_, ?_, ?_, h13', ?_, hfnew, hnew⟩, by simp only []; omega⟩
    · rw [take_snoc hx, madeF_snoc]
      exact ((hF10.chg c11 (by simp)).chg c12 (by simp)).chg c13 (fun i hi hm => by simp at hm; exact (hfnew i hi).2 hm)
    · rw [take_snoc hx, madeR_snoc]
      exact hR12.chg c13 (fun i hi hm => by simp at hm; exact (hnew i (List.mem_append.2 (.inl hi))).2.2 hm) (fun i hi hm => by simp at hm; exact (hnew i (List.mem_append.2 (.inr hi))).2.2 hm)
    · exact c012.trans c13 (fun i hi hl => by simp at hi; omega)
    · exact c13.obj (by simp; omega) (c12.obj (by simp) h111)
    · have := c13.size; omega
  · have hge' : ¬ j < n := by simpa using hge
    have htake : ms.take j = ms := List.take_of_length_le (by omega)
    rw [htake] at hF8 hR8
    refine v_drew fun w14 c14 => ?_
    refine ⟨_, _, _, _, _, _, _, _, _, cellsAt_of (c14.obj (by simp) h38), ?_⟩
    refine v_fill (c14.obj (by simp) h18) (by rfl) (by rfl) fun w15 h15 c15 _ => ?_
    have hc : Chg [b1] w8 w15 := c14.nil.trans c15 (fun _ h _ => h)
    exact ⟨_, _, _, _, _, _, _, _, _, cellsAt_of h15, bf, fp', rfl, hF8.chg hc (fun i hi hm => by simp at hm; have := (hfp8 i hi).1; omega), rfl, rfl, rfl,
      hR8.chg hc (fun i hi hm => by simp at hm; have := (hr8 i (List.mem_append.2 (.inl hi))).1; omega) (fun i hi hm => by simp at hm; have := (hr8 i (List.mem_append.2 (.inr hi))).1; omega),
      c8.trans hc (fun i hi hl => by simp at hi; omega), fun i hi => by have := (hfp8 i hi).1; omega, fun i hi => ⟨by have := (hr8 i hi).1; omega, (hr8 i hi).2.1⟩⟩
end Go.Proofs.Ytkfncibmfcdokaa
