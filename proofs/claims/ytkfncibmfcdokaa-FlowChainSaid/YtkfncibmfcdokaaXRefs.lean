/- The document's flows: Get, together, MayAll, Decides, Apply. -/
import Derived.Test.YtkfncibmfcdokaaXApply
import Derived.Test.YtkfncibmfcdokaaXJoin
set_option linter.unusedVariables false
set_option linter.unusedSimpArgs false
namespace Go.Proofs.Ytkfncibmfcdokaa
open Go Go.RowKit Go.X

theorem add0 (q : Addr) : q.add 0 = q := by
  unfold Addr.add
  cases q with
  | mk b o s => cases s <;> simp
theorem CellsAt.two {w : World} {q : Addr} {a b c : Value} (h : CellsAt w q 0 [a, b, c]) : CellsAt w q 0 [a, b] := ⟨h.1, h.2.1, trivial⟩
theorem CellsAt.third {w : World} {q : Addr} {a b c : Value} (h : CellsAt w q 0 [a, b, c]) : w.cell? (q.add 2) = some c := h.2.2.1

theorem ref_get {w : World} {R : Rf} {p4 p5 : Option Addr} {n4 c4 n5 c5 : Nat} (h : RefAt w R p4 n4 c4 p5 n5 c5) (hn : n5 ≤ 100000000) (p1 p2 : Int) :
    Calls Try.prog 30 #[.agg #[.int .i64 R.fr, .int .i64 R.se, .int .i64 R.most, .slice p4 n4 c4, .slice p5 n5 c5], .agg #[.int .i64 p1, .int .i64 p2]] w fun e w' => ∃ r : Int, e = .returned (.int .u32 r) ∧ (r = lookPr R.pairs (p1, p2) ∧ Chg [] w w') := by
  have hn5 := h.n5
  refine go_pomanderref12_Flow_Get _ _ _ _ _ _ _ _ _ _ _ _ _ ?_
  unfold W_pomanderref12_Flow_Get
  intro b2 b1 w2 l2 l1 c2
  refine ⟨fun _ i w' => ∃ j : Nat, i = (j : Int) ∧ j ≤ n5 ∧ lookK (p1, p2) (R.pairs.take j) = none ∧ Chg [] w w', fun _ i _ => (n5 - i).toNat, ⟨0, rfl, by omega, rfl, c2⟩, ?_⟩
  rintro x1 _ w3 ⟨j, rfl, hj, hl, c3⟩
  refine ⟨fun hlt => ?_, fun hge => ?_⟩
  · have hlt' : j < n5 := by simpa using hlt
    obtain ⟨x, hx⟩ := get_of (l := R.pairs) (j := j) (by omega)
    have hrow := h.pairs.chg c3 (by simp)
    obtain ⟨a, rfl, _⟩ := RowAt.elem (size := 3) (fun _ => rfl) hrow hx (by omega)
    refine ⟨a, rfl, by omega, by omega, fun w4 c4' => ?_⟩
    obtain ⟨a', ha', hc⟩ := RowAt.elem (size := 3) (fun _ => rfl) (hrow.chg c4' (by simp)) hx (by omega)
    obtain rfl : a = a' := by simpa using ha'
    refine ⟨x.1.1, x.1.2, by simpa [encPr] using CellsAt.two hc, fun he => ?_, fun hne => ?_⟩
    · have he' : x.1 = (p1, p2) := by
        have : x.1.1 = p1 ∧ x.1.2 = p2 := by simpa using he
        exact Prod.ext this.1 this.2
      refine ⟨x.2, by simpa using CellsAt.third hc, ?_, c3.trans0 c4'⟩
      have h1 : lookK (p1, p2) R.pairs = some x.2 := by
        rw [← List.take_append_drop j R.pairs, lookK_append, hl, List.drop_eq_getElem_cons (by omega), lookK_cons]
        have : R.pairs[j] = x := by rw [List.getElem?_eq_getElem (by omega)] at hx; simpa using hx
        rw [this, if_pos he']; rfl
      unfold lookPr; rw [h1]; rfl
    · have hne' : x.1 ≠ (p1, p2) := by
        intro e; rw [e] at hne; simp at hne
      rw [wr (by omega) (by omega)]
      refine ⟨⟨j + 1, by omega, by omega, ?_, c3.trans0 c4'⟩, by simp only []; omega⟩
      rw [take_snoc hx, lookK_append, hl, lookK_cons, if_neg hne']; rfl
  · have hge' : ¬ j < n5 := by simpa using hge
    rw [List.take_of_length_le (by omega)] at hl
    exact ⟨by unfold lookPr; rw [hl]; rfl, c3⟩

theorem ref_together {w : World} {R : Rf} {p4 p5 : Option Addr} {n4 c4 n5 c5 : Nat} (h : RefAt w R p4 n4 c4 p5 n5 c5) (hn5 : n5 ≤ 100000000) (hu : ∀ q, u16 (lookPr R.pairs q)) {S : Nat → Prop} {p : Option Addr} {n c : Nat} {ps : List (Int × Int)} (hp : PlacesAt w S p n ps) (hn : n ≤ 9223372036854775807) :
    Calls Try.prog 107 #[.agg #[.int .i64 R.fr, .int .i64 R.se, .int .i64 R.most, .slice p4 n4 c4, .slice p5 n5 c5], .slice p n c] w fun e w' => ∃ r : Int, e = .returned (.int .u32 r) ∧ (r = joinP (lookPr R.pairs) ps ∧ Chg [] w w') := by
  refine go_pomanderref12_Flow_together _ _ _ _ _ _ _ _ _ _ _ _ _ _ ?_
  unfold W_pomanderref12_Flow_together
  intro b1 w1 l1 c1
  refine ⟨fun set i w' => ∃ j : Nat, i = (j : Int) ∧ j ≤ n ∧ set = joinP (lookPr R.pairs) (ps.take j) ∧ Chg [] w w' ∧ w1.heap.size ≤ w'.heap.size, fun _ i _ => (n - i).toNat, ⟨0, rfl, by omega, rfl, c1, Nat.le_refl _⟩, ?_⟩
  rintro _ _ w2 ⟨j, rfl, hj, rfl, c2, s2⟩
  refine ⟨fun hlt => ?_, fun hge => ?_⟩
  · have hlt' : j < n := by simpa using hlt
    obtain ⟨x, hx⟩ := get_of (l := ps) (j := j) (by rw [hp.length]; exact hlt')
    intro w3 c3
    have c03 := c2.trans0 c3
    obtain ⟨k1, k2, a, rfl, ha, hc⟩ := (hp.chg c03 (by simp)).each j _ hx
    refine ⟨a, rfl, by omega, by omega, x.1, x.2, by simpa using hc, ?_⟩
    refine (ref_get (h.chg c03 (by simp) (by simp)) hn5 x.1 x.2).mono ?_
    rintro _ w4 ⟨_, rfl, rfl, c4⟩
    have s3 := c3.size
    have s4 := c4.size
    refine ⟨_, rfl, by simpa using c4.cells (by simp) hc, Same.chg c4 (by simp; omega), ?_⟩
    refine (ref_join (joinP_u16 hu _) (hu _)).mono ?_
    rintro _ w5 ⟨_, rfl, rfl, hw⟩
    subst w5
    refine ⟨_, rfl, Same.refl _ _, ?_⟩
    rw [wr (by omega) (by omega)]
    refine ⟨⟨j + 1, by omega, by omega, ?_, c03.trans0 c4, by omega⟩, by simp only []; omega⟩
    rw [take_snoc hx, joinP_snoc]
  · have hge' : ¬ j < n := by simpa using hge
    exact ⟨by rw [List.take_of_length_le (by rw [hp.length]; omega)], c2⟩

theorem ref_decides {w : World} {R : Rf} {p4 p5 : Option Addr} {n4 c4 n5 c5 : Nat} (h : RefAt w R p4 n4 c4 p5 n5 c5) (hn5 : n5 ≤ 100000000) (hu : ∀ q, u16 (lookPr R.pairs q)) {S : Nat → Prop} {p : Option Addr} {n c : Nat} {ts : List Tch} (hp : TouchesAt w S p n ts) (hn : n ≤ 9223372036854775807) (hin : ∀ t ∈ ts, t.2.length ≤ 9223372036854775807) :
    Calls Try.prog 71 #[.agg #[.int .i64 R.fr, .int .i64 R.se, .int .i64 R.most, .slice p4 n4 c4, .slice p5 n5 c5], .slice p n c] w fun e w' => ∃ r : Int, e = .returned (.int .u32 r) ∧ (r = decidesP (lookPr R.pairs) ts ∧ Chg [] w w') := by
  refine go_pomanderref12_Flow_Decides _ _ _ _ _ _ _ _ _ _ _ _ _ _ ?_
  unfold W_pomanderref12_Flow_Decides
  intro b1 w1 l1 c1
  refine ⟨fun set i w' => ∃ j : Nat, i = (j : Int) ∧ j ≤ n ∧ set = decidesP (lookPr R.pairs) (ts.take j) ∧ Chg [] w w' ∧ w1.heap.size ≤ w'.heap.size, fun _ i _ => (n - i).toNat, ⟨0, rfl, by omega, rfl, c1, Nat.le_refl _⟩, ?_⟩
  rintro _ _ w2 ⟨j, rfl, hj, rfl, c2, s2⟩
  refine ⟨fun hlt => ?_, fun hge => ?_⟩
  · have hlt' : j < n := by simpa using hlt
    obtain ⟨t, hx⟩ := get_of (l := ts) (j := j) (by rw [hp.length]; exact hlt')
    have hmem : t ∈ ts := List.mem_of_getElem? hx
    obtain ⟨k1, k2, a, q, qn, qc, rfl, ha, hc, hps⟩ := (hp.chg c2 (by simp)).each j _ hx
    refine ⟨fun set w' => set = decidesP (lookPr R.pairs) (ts.take (j + 1)) ∧ Chg [] w w' ∧ w1.heap.size ≤ w'.heap.size, ?_, a, rfl, by omega, by omega, t.1.1, t.1.2, by simpa using CellsAt.two hc, fun he w4 c4 => ?_, fun hne => ?_⟩
    · rintro _ w3 ⟨rfl, c3, s3⟩
      rw [wr (by omega) (by omega)]
      exact ⟨⟨j + 1, by omega, by omega, rfl, c3, s3⟩, by simp only []; omega⟩
    · have he' : t.1 = (0, 0) := by
        have : t.1.1 = 0 ∧ t.1.2 = 0 := by simpa using he
        exact Prod.ext this.1 this.2
      have c04 := c2.trans0 c4
      have s4 := c4.size
      refine ⟨q, qn, qc, by simpa using CellsAt.third (c4.cells (by simp) hc), ?_⟩
      refine (ref_together (c := qc) (h.chg c04 (by simp) (by simp)) hn5 hu (hps.chg c4 (by simp)) (by rw [← hps.length]; exact hin t hmem)).mono ?_
      rintro _ w5 ⟨_, rfl, rfl, c5⟩
      have s5 := c5.size
      refine ⟨_, rfl, by simpa using CellsAt.third (c5.cells (by simp) (c4.cells (by simp) hc)), Same.chg c5 (by simp; omega), ?_⟩
      refine (ref_join (decidesP_u16 hu _) (joinP_u16 hu _)).mono ?_
      rintro _ w6 ⟨_, rfl, rfl, hw⟩
      subst w6
      refine ⟨_, rfl, Same.refl _ _, ?_, c04.trans0 c5, by omega⟩
      rw [take_snoc hx, decidesP_snoc, if_pos he']
    · have hne' : t.1 ≠ (0, 0) := by
        intro e; rw [e] at hne; simp at hne
      refine ⟨?_, c2, s2⟩
      rw [take_snoc hx, decidesP_snoc, if_neg hne']
  · have hge' : ¬ j < n := by simpa using hge
    exact ⟨by rw [List.take_of_length_le (by rw [hp.length]; omega)], c2⟩

theorem ref_mayAll {w : World} {R : Rf} {p4 p5 : Option Addr} {n4 c4 n5 c5 : Nat} (hw : i64s (64 * R.fr) ∧ i64s (64 * R.se)) {S : Nat → Prop} {p : Option Addr} {n c : Nat} {ts : List Tch} (hp : TouchesAt w S p n ts) (hn : n ≤ 9223372036854775807) (hin : ∀ t ∈ ts, t.2.length ≤ 9223372036854775807) :
    Calls Try.prog 70 #[.agg #[.int .i64 R.fr, .int .i64 R.se, .int .i64 R.most, .slice p4 n4 c4, .slice p5 n5 c5], .slice p n c] w fun e w' => ∃ r : Bool, e = .returned (.bool r) ∧ (r = decide (rightAll R.fr R.se ts) ∧ Chg [] w w') := by
  refine go_pomanderref12_Flow_MayAll _ _ _ _ _ _ _ _ _ _ _ _ _ _ ?_
  unfold W_pomanderref12_Flow_MayAll
  intro b1 w1 l1 c1
  refine ⟨fun _ i w' => ∃ j : Nat, i = (j : Int) ∧ j ≤ n ∧ (∀ t ∈ ts.take j, rightT R.fr R.se t) ∧ Chg [] w w' ∧ w1.heap.size ≤ w'.heap.size, fun _ i _ => (n - i).toNat, ⟨0, rfl, by omega, by simp, c1, Nat.le_refl _⟩, ?_⟩
  rintro x1 _ w2 ⟨j, rfl, hj, hr, c2, s2⟩
  refine ⟨fun hlt => ?_, fun hge => ?_⟩
  · have hlt' : j < n := by simpa using hlt
    obtain ⟨t, hx⟩ := get_of (l := ts) (j := j) (by rw [hp.length]; exact hlt')
    have hmem : t ∈ ts := List.mem_of_getElem? hx
    obtain ⟨k1, k2, a, q, qn, qc, rfl, ha, hc, hps⟩ := (hp.chg c2 (by simp)).each j _ hx
    refine ⟨a, rfl, by omega, by omega, fun w3 c3 => ?_⟩
    have hc3 := c3.cells (by simp) hc
    have c03 := c2.trans0 c3
    have s3 := c3.size
    have hbad : ∀ w', Chg [] w w' → ¬ rightT R.fr R.se t → false = decide (rightAll R.fr R.se ts) ∧ Chg [] w w' := fun w' c hb => ⟨by symm; rw [decide_eq_false_iff_not]; exact fun h => hb (h t hmem), c⟩
    refine ⟨t.1.1, t.1.2, by simpa using CellsAt.two hc3, fun b w' => b = decide (t.1 ≠ (0, 0) ∧ ¬ mayP R.fr R.se t.1) ∧ Chg [] w w' ∧ w3.heap.size ≤ w'.heap.size, ?_, fun hne => ?_, fun he => ?_⟩
    · rintro _ w4 ⟨rfl, d4, s4⟩
      refine ⟨fun ht => ?_, fun hf => ?_⟩
      · rw [decide_eq_true_eq] at ht
        exact hbad w4 d4 (fun h => h.1.elim ht.1 ht.2)
      rw [decide_eq_false_iff_not] at hf
      have hto : t.1 = (0, 0) ∨ mayP R.fr R.se t.1 := by
        by_cases h0 : t.1 = (0, 0)
        · exact .inl h0
        · by_cases h1 : mayP R.fr R.se t.1
          · exact .inr h1
          · exact absurd ⟨h0, h1⟩ hf
      refine ⟨fun _ k w' => ∃ i : Nat, k = (i : Int) ∧ i ≤ qn ∧ (∀ p ∈ t.2.take i, mayP R.fr R.se p) ∧ Chg [] w w' ∧ w3.heap.size ≤ w'.heap.size, fun _ k _ => (qn - k).toNat, ⟨0, rfl, by omega, by simp, d4, s4⟩, ?_⟩
      rintro x2 _ w6 ⟨i, rfl, hi, hpr, c6, s6⟩
      obtain ⟨_, _, a', q', qn', qc', ea, _, hc6, hps6⟩ := (hp.chg c6 (by simp)).each j _ hx
      obtain rfl : a = a' := by simpa using ea
      have hql : qn' = t.2.length := hps6.length.symm
      have hql' : qn = t.2.length := hps.length.symm
      have hqn := hin t hmem
      refine ⟨q', qn', qc', by simpa using CellsAt.third hc6, fun hk => ?_, fun hk => ?_⟩
      · have hk' : i < qn := by have : (i : Int) < qn' := by simpa using hk
                                omega
        obtain ⟨y, hy⟩ := get_of (l := t.2) (j := i) (by omega)
        intro w7 c7
        have c07 := c6.trans0 c7
        have s7 := c7.size
        obtain ⟨_, _, a2, rfl, _, hcy⟩ := (hps6.chg c7 (by simp)).each i _ hy
        refine ⟨_, qn', qc', by simpa using CellsAt.third (c7.cells (by simp) hc6), a2, rfl, by omega, by omega, y.1, y.2, by simpa using hcy, ?_⟩
        refine (ref_may R.fr R.se R.most p4 p5 n4 c4 n5 c5 y.1 y.2 hw).mono ?_
        rintro _ w8 ⟨_, rfl, rfl, c8⟩
        have s8 := c8.size
        refine ⟨_, rfl, Same.chg c8 (by simp; omega), fun hb => ?_, fun hb => ?_⟩
        · have hb' : ¬ mayP R.fr R.se (y.1, y.2) := by simpa using hb
          exact hbad w8 (c07.trans0 c8) (fun h => hb' (h.2 y (List.mem_of_getElem? hy)))
        · have hb' : mayP R.fr R.se (y.1, y.2) := by simpa using hb
          rw [wr (by omega) (by omega)]
          refine ⟨⟨i + 1, by omega, by omega, ?_, c07.trans0 c8, by omega⟩, by simp only []; omega⟩
          rw [take_snoc hy]
          intro z hz
          rcases List.mem_append.1 hz with hz | hz
          · exact hpr z hz
          · simp at hz; subst hz; exact hb'
      · have hk' : ¬ (i : Int) < qn' := by simpa using hk
        rw [wr (by omega) (by omega)]
        refine ⟨⟨j + 1, by omega, by omega, ?_, c6, by omega⟩, by simp only []; omega⟩
        rw [take_snoc hx]
        intro z hz
        rcases List.mem_append.1 hz with hz | hz
        · exact hr z hz
        · simp at hz; subst hz
          rw [List.take_of_length_le (by omega)] at hpr
          exact ⟨hto, hpr⟩
    · have hne' : t.1 ≠ (0, 0) := by
        intro e; rw [e] at hne; simp at hne
      refine ⟨t.1.1, t.1.2, by simpa using CellsAt.two hc3, ?_⟩
      refine (ref_may R.fr R.se R.most p4 p5 n4 c4 n5 c5 t.1.1 t.1.2 hw).mono ?_
      rintro _ w5 ⟨_, rfl, rfl, d5⟩
      have s5 := d5.size
      refine ⟨_, rfl, Same.chg d5 (by simp; omega), ?_, c03.trans0 d5, by omega⟩
      rw [← decide_not]
      exact decide_eq_decide.2 ⟨fun h => ⟨hne', h⟩, fun h => h.2⟩
    · have he' : t.1 = (0, 0) := by
        have : t.1.1 = 0 ∧ t.1.2 = 0 := by simpa using he
        exact Prod.ext this.1 this.2
      exact ⟨by symm; rw [decide_eq_false_iff_not]; exact fun h => h.1 he', c03, Nat.le_refl _⟩
  · have hge' : ¬ j < n := by simpa using hge
    rw [List.take_of_length_le (by rw [hp.length]; omega)] at hr
    exact ⟨by symm; rw [decide_eq_true_eq]; exact hr, c2⟩
end Go.Proofs.Ytkfncibmfcdokaa
