/- The law ShadowFew (any number of pages, any calls, any byte and set): true. -/
import Derived.Test.YtkfncibmfcdokaaXStepS
import Derived.Test.YtkfncibmfcdokaaXCut
import Derived.Test.YtkfncibmfcdokaaXHfew
set_option linter.unusedVariables false
set_option linter.unusedSimpArgs false
set_option maxRecDepth 100000
namespace Go.Proofs.Ytkfncibmfcdokaa
open Go Go.RowKit Go.X Go.XR Go.ChangeShapes Go.WideShapes Go.ChangeAt

/-! ### The plain law: which pages were told -/
def someB (g : Int → Int) (k p : Nat) : Bool := (List.range k).any fun i => i / 64 == p && g i != 0
theorem someB_next {g : Int → Int} {k j : Nat} (hk : k ≤ j) (hz : ∀ i : Nat, k ≤ i → i < j → g i = 0) (hj : g j ≠ 0) (p : Nat) : someB g (j + 1) p = if p = j / 64 then true else someB g k p := by
  have e : ∀ k p, someB g k p = true ↔ ∃ i, i < k ∧ i / 64 = p ∧ g i ≠ 0 := fun k p => by simp [someB]
  by_cases hp : p = j / 64
  · rw [if_pos hp]
    exact (e _ _).2 ⟨j, by omega, hp.symm, hj⟩
  · rw [if_neg hp, Bool.eq_iff_iff, e, e]
    constructor
    · rintro ⟨i, h1, h2, h3⟩
      refine ⟨i, ?_, h2, h3⟩
      rcases Nat.lt_or_ge i k with h | h
      · exact h
      · rcases Nat.lt_or_ge i j with h' | h'
        · exact absurd (hz i h h') h3
        · obtain rfl : i = j := by omega
          exact absurd h2.symm hp
    · rintro ⟨i, h1, h2, h3⟩
      exact ⟨i, by omega, h2, h3⟩
theorem someB_all {g : Int → Int} {k : Nat} {pages : Int} (hz : ∀ i : Nat, k ≤ i → i < 64 * pages.toNat → g i = 0) (hk : k ≤ 64 * pages.toNat) (p : Nat) : someB g k p = privL g pages p := by
  rw [Bool.eq_iff_iff]
  unfold privL
  rw [decide_eq_true_iff, many_pos_iff]
  unfold someB pg
  rw [List.any_eq_true]
  constructor
  · rintro ⟨i, h1, h2⟩
    simp at h1 h2
    refine ⟨by omega, by omega, i % 64, by omega, ?_⟩
    rw [show 64 * (p : Int) + ((i % 64 : Nat) : Int) = (i : Int) by omega]
    exact h2.2
  · rintro ⟨_, h2, i, h3, h4⟩
    refine ⟨64 * p + i, ?_, ?_⟩
    · rw [List.mem_range]
      rcases Nat.lt_or_ge (64 * p + i) k with h | h
      · exact h
      · have := hz (64 * p + i) h (by omega)
        rw [show (((64 * p + i : Nat)) : Int) = 64 * (p : Int) + (i : Int) by omega] at this
        exact absurd this h4
    · rw [show (((64 * p + i : Nat)) : Int) = 64 * (p : Int) + (i : Int) by omega]
      simp [h4]; omega
def countB (g : Int → Int) (k : Nat) : Nat := (List.range 33).countP (someB g k)
theorem countB_next {g : Int → Int} {k j : Nat} (hk : k ≤ j) (hz : ∀ i : Nat, k ≤ i → i < j → g i = 0) (hj : g j ≠ 0) (hj3 : j / 64 < 33) : countB g (j + 1) = if someB g k (j / 64) then countB g k else countB g k + 1 := by
  have := countP_set (l := List.range 33) List.nodup_range (List.mem_range.2 hj3) (someB g k) (someB g (j + 1)) (fun q hq => by rw [someB_next hk hz hj, if_neg hq])
  rw [someB_next hk hz hj, if_pos rfl] at this
  unfold countB
  cases hb : someB g k (j / 64) <;> simp [hb] at this ⊢ <;> omega
theorem countB_le (g : Int → Int) (k : Nat) : countB g k ≤ 33 := by
  have := List.countP_le_length (p := someB g k) (l := List.range 33)
  simpa [countB] using this
theorem countB_all {g : Int → Int} {k : Nat} {pages : Int} (hp : pages ≤ 32) (hz : ∀ i : Nat, k ≤ i → i < 64 * pages.toNat → g i = 0) (hk : k ≤ 64 * pages.toNat) : countB g k = pagesL g pages pages.toNat := by
  unfold countB pagesL
  rw [show (33 : Nat) = pages.toNat + (33 - pages.toNat) by omega, List.range_add, List.countP_append, List.countP_map]
  rw [List.countP_congr (q := fun i : Nat => privL g pages i) (fun i _ => by rw [someB_all hz hk])]
  have : (List.range (33 - pages.toNat)).countP (someB g k ∘ fun x => pages.toNat + x) = 0 := List.countP_eq_zero.2 fun i _ h => by
    simp only [Function.comp] at h
    rw [someB_all hz hk] at h
    have := of_decide_eq_true h
    omega
  omega

def boolsC (f : Nat → Bool) : List Value := (List.range 33).map fun p => Value.bool (f p)
theorem boolsC_len (f : Nat → Bool) : (boolsC f).length = 33 := by simp [boolsC]
theorem boolsC_get (f : Nat → Bool) {i : Nat} (h : i < 33) : (boolsC f)[i]? = some (.bool (f i)) := by simp [boolsC, h]
theorem boolsC_set {f f' : Nat → Bool} {i : Nat} {v : Bool} (hi : i < 33) (h : ∀ j : Nat, f' j = if j = i then v else f j) : (boolsC f).set i (.bool v) = boolsC f' := by
  apply List.ext_getElem?
  intro j
  rw [List.getElem?_set]
  by_cases hj : j < 33
  · rw [boolsC_get f' hj, h j, boolsC_len]
    by_cases e : i = j
    · subst e; simp [hi]
    · simp [e, Ne.symm e, boolsC_get f hj]
  · rw [List.getElem?_eq_none (by rw [boolsC_len]; omega), List.getElem?_eq_none (by rw [boolsC_len]; omega)]
    by_cases e : i = j
    · omega
    · simp [e]

/-! ### The walk -/
theorem set_any {w w0 : World} {b : Nat} {pages : Int} {g : Int → Int} {fp : List Nat} (h : ShadowAt w b pages g fp) (c : Chg [] w0 w) (hf : ∀ i ∈ fp, w0.heap.size ≤ i) {at1 set : Int} (ha : -9223372036854775808 ≤ at1 ∧ at1 ≤ 9223372036854775807) (hs0 : 0 ≤ set) :
    Calls Try.prog 52 #[.pointer (some ⟨b, 0, none⟩), .int .i64 at1, .int .u32 set] w fun e w' => ∃ r : Int, e = .returned (.int .i64 r) ∧ Chg fp w w' ∧ ∃ g' fp', ShadowAt w' b pages g' fp' ∧ Chg [] w0 w' ∧ (∀ i ∈ fp', w0.heap.size ≤ i) ∧ (r = 0 → g' at1 = set ∧ 0 ≤ at1 ∧ at1 < 64 * pages) := by
  refine (shadow_setp h ha hs0).mono ?_
  rintro _ w' ⟨r, rfl, h'⟩
  have s := c.size
  refine ⟨r, rfl, ?_⟩
  by_cases k1 : 65536 ≤ set
  · rw [if_pos k1] at h'
    exact ⟨h'.2.nil, g, fp, h.chg h'.2 (by simp), c.trans0 h'.2, hf, fun e => by rw [h'.1] at e; omega⟩
  · rw [if_neg k1] at h'
    by_cases k2 : 0 ≤ at1 ∧ at1 < 64 * pages
    · rw [if_pos k2] at h'
      obtain ⟨_, fp', h1, h2, h3⟩ := h'
      refine ⟨h2, _, fp', h1, c.trans h2 (fun i hi hlt => by have := hf i hi; omega), fun i hi => ?_, fun _ => ⟨by unfold putG; rw [if_pos rfl], k2.1, k2.2⟩⟩
      rcases h3 i hi with k | k
      · exact hf i k
      · omega
    · rw [if_neg k2] at h'
      exact ⟨h'.2.nil, g, fp, h.chg h'.2 (by simp), c.trans0 h'.2, hf, fun e => by rw [h'.1] at e; omega⟩
theorem fill_any {w w0 : World} {b : Nat} {pages : Int} {g : Int → Int} {fp : List Nat} (h : ShadowAt w b pages g fp) (c : Chg [] w0 w) (hf : ∀ i ∈ fp, w0.heap.size ≤ i) {at1 m set : Int} (ha : -9223372036854775808 ≤ at1 ∧ at1 ≤ 9223372036854775807) (hs0 : 0 ≤ set) :
    Calls Try.prog 49 #[.pointer (some ⟨b, 0, none⟩), .int .i64 at1, .int .i64 m, .int .u32 set] w fun e w' => ∃ r : Int, e = .returned (.int .i64 r) ∧ Chg fp w w' ∧ ∃ g' fp', ShadowAt w' b pages g' fp' ∧ Chg [] w0 w' ∧ (∀ i ∈ fp', w0.heap.size ≤ i) := by
  refine (shadow_fill h ha hs0).mono ?_
  rintro _ w' ⟨r, rfl, h'⟩
  have s := c.size
  refine ⟨r, rfl, ?_⟩
  by_cases k1 : 65536 ≤ set
  · rw [if_pos k1] at h'
    exact ⟨h'.2.nil, g, fp, h.chg h'.2 (by simp), c.trans0 h'.2, hf⟩
  · rw [if_neg k1] at h'
    by_cases k2 : inShadow pages at1 m
    · rw [if_pos k2] at h'
      obtain ⟨_, fp', h1, h2, h3⟩ := h'
      refine ⟨h2, _, fp', h1, c.trans h2 (fun i hi hlt => by have := hf i hi; omega), fun i hi => ?_⟩
      rcases h3 i hi with k | k
      · exact hf i k
      · omega
    · rw [if_neg k2] at h'
      exact ⟨h'.2.nil, g, fp, h.chg h'.2 (by simp), c.trans0 h'.2, hf⟩
theorem addr_add0 (q : Addr) : q.add 0 = q := by
  unfold Addr.add
  split <;> simp_all

theorem few_walk {w : World} {pages : Int} {p : Option Addr} {n c : Nat} {acts : List Act3} {at1 set : Int} (h : Acts3At w p n acts) (hn : n ≤ maxLen) (ha : -9223372036854775808 ≤ at1 ∧ at1 ≤ 9223372036854775807) (hs0 : 0 ≤ set) :
    Calls Try.prog 15 #[.int .i64 pages, .slice p n c, .int .i64 at1, .int .u32 set] w fun e w' => ∃ r : Bool, e = .returned (.bool r) ∧ (r = true ∧ Chg [] w w') := by
  refine go_pomanderlaw03_ShadowFew _ _ _ _ _ _ _ _ ?_
  unfold W_pomanderlaw03_ShadowFew
  rintro b2 b1 w2 ⟨i2, j2⟩ ⟨i1, j1⟩ c2
  have s2 := c2.size
  refine ⟨fun b w' => (b = false → 1 ≤ pages ∧ pages ≤ 32) ∧ w' = w2, ?_, fun hp => ⟨fun h => ?_, rfl⟩, fun hp => ⟨fun h => by simp at h, rfl⟩⟩
  rotate_left
  · have h1 := of_decide_eq_false hp
    have h2 := of_decide_eq_false h
    omega
  rintro b3 w3 ⟨hp, hw⟩
  subst w3
  refine ⟨fun _ => ?_, fun hb => ?_⟩
  · refine (works_true w2).mono ?_
    rintro _ w3 ⟨_, rfl, rfl, c3⟩
    exact ⟨_, rfl, Same.chg c3 (by simp; omega), fun w4 c4 => ⟨rfl, (c2.trans0 c3).trans c4 (fun i hi hlt => by simp at hi; omega)⟩⟩
  have hb3 : b3 = false := by cases b3 <;> simp_all
  obtain ⟨hp1, hp2⟩ := hp hb3
  have hn40 : n ≤ 40 := by
    rw [hb3, Bool.false_or] at hb
    have := of_decide_eq_false hb; omega
  refine (shadow_new w2 pages).mono ?_
  rintro _ w6 ⟨r3, r4, rfl, c6, hS⟩
  rw [if_pos ⟨hp1, hp2⟩] at hS
  obtain ⟨rfl, bs, fp, rfl, hS, hf⟩ := hS
  have s6 := c6.size
  refine ⟨_, _, rfl, Same.chg c6 (by simp; omega), ?_⟩
  have hacts := h.chg c2 (by simp)
  refine ⟨fun i w' => ∃ j : Nat, i = j ∧ j ≤ n ∧ ∃ g fp, ShadowAt w' bs pages g fp ∧ Chg [] w2 w' ∧ ∀ i ∈ fp, w2.heap.size ≤ i, fun i _ => n - i.toNat, ⟨0, rfl, Nat.zero_le _, _, _, hS, c6, hf⟩, ?_⟩
  rintro _ w7 ⟨j, rfl, hj, g, fp, hS, c7, hf⟩
  have s7 := c7.size
  refine ⟨fun hlt => ?_, fun hge => ?_⟩
  · have hlt' : j < n := by have := of_decide_eq_true hlt; omega
    refine ⟨fun w' => ∃ g fp, ShadowAt w' bs pages g fp ∧ Chg [] w2 w' ∧ ∀ i ∈ fp, w2.heap.size ≤ i, ?_, ?_⟩
    · rintro w8 h8
      rw [wr (by omega) (by omega)]
      exact ⟨⟨j + 1, by omega, by omega, h8⟩, by simp only []; omega⟩
    obtain ⟨x, hx⟩ : ∃ x, acts[j]? = some x := ⟨_, List.getElem?_eq_getElem (by rw [h.length]; exact hlt')⟩
    obtain ⟨q1, q2, a, rfl, q3, q4⟩ := hacts.each j x hx
    have cells : ∀ {W : World}, Chg [] w2 W → W.cell? (a.add (j * 4)) = some (.int .i64 x.what) ∧ W.cell? ((a.add (j * 4)).add 1) = some (.int .i64 x.at1) ∧ W.cell? ((a.add (j * 4)).add 2) = some (.int .i64 x.n) ∧ W.cell? ((a.add (j * 4)).add 3) = some (.int .u32 x.set) := fun hc => by
      obtain ⟨k0, k1, k2, k3, _⟩ := hc.cells (by simp) q4
      rw [addr_add0] at k0
      exact ⟨k0, k1, k2, k3⟩
    have ej : (Int.toNat (j : Int)) = j := by omega
    rw [ej]
    refine ⟨a, rfl, by omega, by omega, x.what, (cells c7).1, fun _ w9 c9 => ?_, fun _ w9 c9 => ?_⟩
    · have c29 := c7.trans0 c9
      have s9 := c29.size
      refine ⟨x.at1, (cells c29).2.1, x.set, (cells c29).2.2.2, ?_⟩
      refine (set_any (hS.chg c9 (by simp)) c29 hf q1 q2).mono ?_
      rintro _ w10 ⟨r, rfl, c10, g', fp', k1, k2, k3, _⟩
      exact ⟨_, rfl, Same.of c10 (fun i hi => by simp at hi; exact ⟨by omega, fun hm => by have := hf i hm; omega⟩), g', fp', k1, k2, k3⟩
    · have c29 := c7.trans0 c9
      have s9 := c29.size
      refine ⟨x.at1, (cells c29).2.1, x.n, (cells c29).2.2.1, x.set, (cells c29).2.2.2, ?_⟩
      refine (fill_any (hS.chg c9 (by simp)) c29 hf q1 q2).mono ?_
      rintro _ w10 ⟨r, rfl, c10, g', fp', k1, k2, k3⟩
      exact ⟨_, rfl, Same.of c10 (fun i hi => by simp at hi; exact ⟨by omega, fun hm => by have := hf i hm; omega⟩), g', fp', k1, k2, k3⟩
  refine (set_any hS c7 hf ha hs0).mono ?_
  rintro _ w13 ⟨r7, rfl, c713, g, fp13, hS, c13, hf13, hr7⟩
  have s13 := c13.size
  refine ⟨_, rfl, Same.of c713 (fun i hi => by simp at hi; exact ⟨by omega, fun hm => by have := hf i hm; omega⟩), ?_⟩
  refine (shadow_getp hS ha).mono ?_
  rintro _ w14 ⟨r8, r9, rfl, c14, hr8, hr9⟩
  have s14 := c14.size
  refine ⟨_, _, rfl, Same.chg c14 (by simp; omega), ?_⟩
  refine (num44 w14 _).mono ?_
  rintro _ w15 ⟨r10, rfl, e10, hw⟩
  subst w15
  have hS14 := hS.chg c14 (by simp)
  have c214 := c13.trans0 c14
  refine ⟨_, rfl, Same.refl _ _, fun b w' => b = false ∧ w' = w14, ?_, fun h0 => ?_, fun h0 => ⟨rfl, rfl⟩⟩
  rotate_left
  · have h0' : r7 = 0 := by rw [← e10]; simpa using h0
    obtain ⟨k1, k2, k3⟩ := hr7 h0'
    refine ⟨fun b w' => b = false ∧ w' = w14, fun _ _ h => h, fun _ => ?_, fun hne => by rw [hr8, k1] at hne; simp at hne⟩
    refine (num44 w14 _).mono ?_
    rintro _ w18 ⟨_, rfl, rfl, hw⟩
    subst w18
    refine ⟨_, rfl, Same.refl _ _, ?_, rfl⟩
    rw [hr9, if_pos ⟨k2, k3⟩]; rfl
  rintro _ w16 ⟨rfl, hw⟩
  subst w16
  refine ⟨fun h => by simp at h, fun _ => ?_⟩
  refine v_alloc fun b6 w20 e6 hb6 c20 => ?_
  have s20 := c20.size
  have l20 := lt_of_heap hb6
  rintro b7 w22 ⟨m7, n7⟩ c22
  have s22 := c22.size
  have c1422 := c20.trans0 c22
  refine (shadow_all (hS14.chg c1422 (by simp))).mono ?_
  rintro _ w23 ⟨_, rfl, cb0, _, _, rfl, _, _, c23, _⟩
  have s23 := c23.size
  refine ⟨_, rfl, Same.chg c23 (by simp; omega), false, fun w => func_ne_nil _ _ _ _ w, fun h => by simp at h, fun _ => ?_⟩
  refine (shadow_all ((hS14.chg c1422 (by simp)).chg c23 (by simp))).mono ?_
  rintro _ w25 ⟨_, rfl, cb, b', fp', rfl, hcb, hA, c25, hnew⟩
  have s25 := c25.size
  have hlA := hA.lt
  have hlcb := lt_of_heap hcb
  have c2025 := (c22.trans0 c23).trans0 c25
  have c225 := (c214.trans0 c20).trans0 c2025
  have hr25 : RowAt w25 126 1 (some ⟨b6, 0, none⟩) 33 33 (boolsC (someB g 0)) := by
    have : z126_XHfew = boolsC (someB g 0) := rfl
    rw [this] at hb6
    exact (RowAt.of_heap hb6 (by rw [boolsC_len]) (by simp [maxLen])).chg c2025 (by simp)
  have hS25 := ((hS14.chg c1422 (by simp)).chg c23 (by simp)).chg c25 (by simp)
  have hl25 := hS25.lt
  refine ⟨_, rfl, Same.chg c25 (by simp; omega), _, _, _, isFn93 cb, iterates_shadow hcb hA, by simp; exact ⟨hlcb, hlA⟩, ?_⟩
  have hlS := hS14.lt
  refine ⟨fun c1 O pre w' => ∃ k : Nat, k ≤ 64 * pages.toNat ∧ pre = someL g k ∧ c1 = countB g k ∧ RowAt w' 126 1 (some ⟨b6, 0, none⟩) 33 33 (boolsC (someB g k)) ∧ Chg [b6, b7] w25 w' , fun _ _ _ _ _ => False, ?_, ?_, ?_, ?_, ?_, ?_⟩
  · rintro c1 pre O O' A B ⟨k, k1, k2, k3, k4, k5⟩ hO hc hO' hg
    exact ⟨k, k1, k2, k3, k4.chg hc (fun i hi hm => by simp [rowB] at hi; have := (hO _ hm).1; omega), k5.trans hc (fun i hi hlt => by have := (hO i hi).1; omega)⟩
  · rintro _ _ _ _ _ _ _ hf; exact hf.elim
  · intro O w26 c26 hO
    exact ⟨0, Nat.zero_le _, rfl, rfl, hr25.chg c26 (by simp), c26.nil⟩
  · rintro l1 O pre x1 x2 c1 w26 hO hl1 ⟨suf, hsuf⟩ ⟨k, k1, rfl, rfl, k4, k5⟩ w27 c27
    have hl1' := hO l1 hl1
    have s26 := k5.size
    have s27 := c27.size
    rw [List.append_assoc] at hsuf
    obtain ⟨j, rfl, hkj, hjn, rfl, hj0, hz, hnext⟩ := someL_next (64 * pages.toNat - k) k (by omega) hsuf
    have hr27 := k4.chg c27 (fun i hi hm => by simp [rowB] at hi hm; omega)
    have c2527 : Chg [b6, b7] w25 w27 := k5.trans c27 (fun i hi hlt => by simp at hi; omega)
    refine ⟨fun b w' => b = false ∧ w' = w27, ?_, fun _ => ⟨?_, rfl⟩, fun h => by have := of_decide_eq_true h; omega⟩
    rotate_left
    · rw [wr (by omega) (by omega)]
      exact decide_eq_false (by omega)
    rintro _ w28 ⟨rfl, hw⟩
    subst w28
    have ed : IntKind.wrap .i64 (Int.tdiv (j : Int) 64) = ((j / 64 : Nat) : Int) := by rw [Int.tdiv_eq_ediv_of_nonneg (by omega), wr (by omega) (by omega)]; omega
    rw [ed]
    have hj3 : j / 64 < 33 := by omega
    have hcell : w27.cell? ((⟨b6, 0, none⟩ : Addr).add (Int.toNat ((j / 64 : Nat) : Int) * 1)) = some (.bool (someB g k (j / 64))) := by
      obtain ⟨a, e, hc⟩ := RowAt.at hr27 (boolsC_get (someB g k) hj3)
      cases e
      rw [show Int.toNat ((j / 64 : Nat) : Int) * 1 = j / 64 by omega]; exact hc
    refine ⟨fun h => by simp [hj0] at h, fun _ => ⟨fun c4 w' => c4 = countB g (j + 1) ∧ Chg [b7] w27 w', ?_, by omega, by omega, _, hcell, fun ht w32 c32 => ⟨?_, c32⟩, fun ht => ⟨?_, Chg.refl _ _⟩⟩⟩
    · rintro _ w30 ⟨rfl, c30⟩
      have s30 := c30.size
      have hr30 := hr27.chg c30 (fun i hi hm => by simp [rowB] at hi hm; omega)
      obtain ⟨a, e, q0, q1, rest⟩ := row_put hr30 (i := ((j / 64 : Nat) : Int)) (v := .bool true) (K := fun w31 => Same w30 w31 [b1, b2, b7] ∧ (w27.heap.size ≤ w31.heap.size ∧ (∃ k : Nat, k ≤ 64 * pages.toNat ∧ someL g (j + 1) = someL g k ∧ (countB g (j + 1) : Int) = countB g k ∧ RowAt w31 126 1 (some ⟨b6, 0, none⟩) 33 33 (boolsC (someB g k)) ∧ Chg [b6, b7] w25 w31) ∧ Same w27 w31 (cb :: fp' ++ O))) (by omega) (by omega) fun w31 hr31 c31 s31 => by
        have c2731 : Chg [b6, b7] w27 w31 := (c30.mono (by simp)).trans c31 (fun i hi _ => by simp [rowB] at hi; simp [hi])
        refine ⟨Same.of c31 (fun i hi => by simp at hi; exact ⟨by omega, by simp [rowB]; omega⟩), by omega, ⟨j + 1, by omega, rfl, rfl, ?_, ?_⟩, Same.of c2731 (fun i hi => ?_)⟩
        · rw [boolsC_set (f' := someB g (j + 1)) (by omega) (fun q => ?_)] at hr31
          · exact hr31
          · rw [someB_next hkj hz hj0, Int.toNat_natCast]
        · exact c2527.trans c2731 (fun i hi _ => by simp at hi ⊢; exact hi)
        · rcases List.mem_append.1 hi with h | h
          · have h1 := hnew i h
            have h2 : i < w25.heap.size := by
              rcases List.mem_cons.1 h with e | e
              · omega
              · exact hlA i e
            exact ⟨by omega, by simp; omega⟩
          · have := hO i h
            exact ⟨by omega, by simp; omega⟩
      cases e
      rw [← hnext]
      exact ⟨q0, q1, rest⟩
    · have ht' : someB g k (j / 64) = false := by simpa using ht
      have := countB_le g k
      rw [countB_next hkj hz hj0 hj3, ht', wr (by omega) (by omega)]; simp
    · have ht' : someB g k (j / 64) = true := by simpa using ht
      rw [countB_next hkj hz hj0 hj3, ht']; simp
  · rintro d1 O xs c1 w33 hO hd hxs ⟨k, k1, hxs', rfl, k4, k5⟩
    have hd' := hO d1 hd
    have s33 := k5.size
    have hz := someL_rest (g := g) (n := 64 * pages.toNat) (64 * pages.toNat - k) k (by omega) (hxs'.symm.trans hxs)
    have hS33 := hS25.chg k5 (fun i hi hm => by have := hlS i hi; simp at hm; omega)
    have cw33 : Chg [] w2 w33 := c225.trans k5 (fun i hi hlt => by simp at hi; omega)
    have N : ∀ {A B : World}, w33.heap.size ≤ A.heap.size → Chg [] A B → Same A B [b1, b2, b7, d1] := fun h hc => Same.chg hc (by simp; omega)
    have N3 : ∀ {A B : World}, w33.heap.size ≤ A.heap.size → Chg [] A B → Same A B [b1, b2, d1] := fun h hc => Same.chg hc (by simp; omega)
    have N2 : ∀ {A B : World}, w33.heap.size ≤ A.heap.size → Chg [] A B → Same A B [b2, d1] := fun h hc => Same.chg hc (by simp; omega)
    have hr33 : ∀ {W : World}, Chg [] w33 W → RowAt W 126 1 (some ⟨b6, 0, none⟩) 33 33 (boolsC (someB g k)) := fun hc => k4.chg hc (by simp)
    refine ⟨fun p1 w' => 0 ≤ p1 ∧ p1 ≤ pages ∧ Chg [] w33 w', fun p1 _ => (pages - p1).toNat, ⟨by omega, by omega, Chg.refl _ _⟩, ?_⟩
    rintro p1 w34 ⟨m1, m2, c34⟩
    have s34 := c34.size
    refine ⟨fun hlt w35 c35 => ?_, fun hge w39 c39 => ?_⟩
    · have hlt' : p1 < pages := of_decide_eq_true hlt
      have c3335 := c34.trans0 c35
      have s35 := c35.size
      obtain ⟨a, e, hc⟩ := RowAt.at (hr33 c3335) (boolsC_get (someB g k) (i := p1.toNat) (by omega))
      cases e
      have ep : Int.toNat p1 * 1 = p1.toNat := by omega
      rw [ep]
      refine ⟨m1, by omega, _, hc, ?_⟩
      refine (shadow_private (hS33.chg c3335 (by simp)) p1).mono ?_
      rintro _ w36 ⟨_, rfl, rfl, hw⟩
      subst w36
      have epv : privL g pages p1 = someB g k p1.toNat := by
        rw [someB_all hz k1, Int.toNat_of_nonneg m1]
      refine ⟨_, rfl, hc, Same.refl _ _, fun hne => by rw [epv] at hne; simp at hne, fun _ => ?_⟩
      rw [wr (by omega) (by omega)]
      exact ⟨⟨by omega, by omega, c3335⟩, by simp only []; omega⟩
    · have c3339 := c34.trans0 c39
      have s39 := c3339.size
      have hS39 := hS33.chg c3339 (by simp)
      refine (shadow_pages hS39).mono ?_
      rintro _ w40 ⟨_, rfl, rfl, hw⟩
      subst w40
      refine ⟨_, rfl, Same.refl _ _, fun hne => by rw [countB_all hp2 hz k1] at hne; simp at hne, fun _ => ?_⟩
      refine (shadow_size hS39).mono ?_
      rintro _ w43 ⟨_, rfl, rfl, hw⟩
      subst w43
      refine ⟨_, rfl, Same.refl _ _, ?_⟩
      refine (shadow_fill hS39 (at1 := 0) (n := 64 * pages) (set := 0) (by omega) (by omega)).mono ?_
      rintro _ w44 ⟨r17, rfl, h44⟩
      rw [if_neg (by omega), if_pos (by unfold inShadow; omega)] at h44
      obtain ⟨rfl, fp44, hS44, c44, hn44⟩ := h44
      have s44 := c44.size
      have eg : fillG g 0 0 (64 * pages).toNat = fun _ => 0 := by
        funext i
        rw [fillG_at]
        by_cases hi : 0 ≤ i ∧ i < 0 + ((64 * pages).toNat : Int)
        · rw [if_pos hi]
        · rw [if_neg hi]; exact hS.out (by omega)
      rw [eg] at hS44
      have cw44 : Chg [] w2 w44 := (cw33.trans0 c3339).trans c44 (fun i hi hlt => by have := hf13 i hi; omega)
      have hlS44 := hS44.lt
      refine ⟨_, rfl, Same.of c44 (fun i hi => by simp at hi; exact ⟨by omega, fun hm => by have := hf13 i hm; have := hlS i hm; omega⟩), ?_⟩
      refine (shadow_new w44 pages).mono ?_
      rintro _ w45 ⟨r18, r19, rfl, c45, hE⟩
      rw [if_pos ⟨hp1, hp2⟩] at hE
      obtain ⟨rfl, be, fe, rfl, hE, _⟩ := hE
      have s45 := c45.size
      refine ⟨_, _, rfl, N2 (by omega) c45, ?_⟩
      refine (num44 w45 _).mono ?_
      rintro _ w46 ⟨_, rfl, rfl, hw⟩
      subst w46
      refine ⟨_, rfl, Same.refl _ _, fun b w' => b = true ∧ w' = w45, ?_, fun _ => ?_, fun hf => by simp at hf⟩
      · rintro _ w47 ⟨rfl, hw⟩
        subst w47
        refine ⟨fun b w' => b = true ∧ w' = w45, ?_, fun _ => ?_, fun hf => by simp at hf⟩
        · rintro _ w49 ⟨rfl, hw⟩
          subst w49
          refine ⟨fun b w' => b = true ∧ Chg [] w45 w', ?_, fun _ => ?_, fun hf => by simp at hf⟩
          · rintro _ w51 ⟨rfl, c51⟩
            have s51 := c51.size
            refine ⟨fun b w' => b = true ∧ Chg [] w45 w', ?_, fun _ => ?_, fun hf => by simp at hf⟩
            · rintro _ w53 ⟨rfl, c53⟩ w55 c55 w56 c56
              exact ⟨rfl, (((c2.trans0 (cw44.trans0 c45)).trans0 c53).trans c55 (fun i hi hlt => by simp at hi; omega)).trans c56 (fun i hi hlt => by simp at hi; omega)⟩
            · refine (works_true w51).mono ?_
              rintro _ w54 ⟨_, rfl, rfl, c54⟩
              exact ⟨_, rfl, N2 (by omega) c54, rfl, c51.trans0 c54⟩
          · refine (shadow_same (hS44.chg c45 (by simp)) hE).mono ?_
            rintro _ w52 ⟨r23, rfl, hr, c52⟩
            have : r23 = true := hr.2 ⟨rfl, fun _ => rfl⟩
            exact ⟨_, rfl, N2 (by omega) c52, this, c52⟩
        · refine (shadow_pages (hS44.chg c45 (by simp))).mono ?_
          rintro _ w50 ⟨_, rfl, rfl, hw⟩
          subst w50
          refine ⟨_, rfl, Same.refl _ _, ?_, rfl⟩
          rw [pagesL_zero.2 (someL_nil.2 fun _ _ => rfl)]; rfl
      · refine (num44 w45 _).mono ?_
        rintro _ w48 ⟨_, rfl, rfl, hw⟩
        subst w48
        exact ⟨_, rfl, Same.refl _ _, by simp, rfl⟩
  · rintro _ _ _ _ _ _ _ _ _ hf; exact hf.elim

theorem few_lifted (os : Os) (started : os.Started) (H : Type) (enc : TypeId × Value → H) :
    ReturnsInHanded {} Try.checked os 15 .any (Rows.shadowFewSpec.pre6 enc Try.prog Try.f15 Rows.shadowFewRow.domain false) (Rows.shadowFewSpec.post enc Try.prog Try.f15 false true false false) := by
  refine returnsInHanded_of_change (C := Try.checked) ownX started (by kernel_rfl) Try.func15
    (ChangeSpec.witness6 (enc := enc) (C := Try.checked) false ⟨#[], #[.int .i64 0, .slice none 0 0, .int .i64 0, .int .u32 0], []⟩ 8 (by kernel_rfl) (by kernel_rfl) (by kernel_rfl) (by kernel_rfl)) ?_
  intro W base args ds gs before hval0 hW hcnd _
  have hval : ∀ (j : Nat) t v, Try.f15.params[j]? = some t → args[j]? = some v → Value.okWide Try.prog W .any base t v := hval0
  have hW' := hW
  obtain ⟨p, q, hA0, hV, rfl, hfz, hnd⟩ := hW
  have hA : DataW.TrodAll enc Try.prog W 0 (fun _ => true) true Try.f15.params.toList args.toList ds p := hA0
  rw [Try.params15] at hA hval
  have hAll := hA
  obtain ⟨v0, vs0, d0, ds0, p0, q0, hargs, rfl, rfl, h0, r0⟩ := trodAll_cons hA
  obtain ⟨v1, vs1, d1, ds1, p1, q1, rfl, rfl, rfl, h1, r1⟩ := trodAll_cons r0
  obtain ⟨v2, vs2, d2, ds2, p2, q2, rfl, rfl, rfl, h2, r2⟩ := trodAll_cons r1
  obtain ⟨v3, vs3, d3, ds3, p3, q3, rfl, rfl, rfl, h3, r3⟩ := trodAll_cons r2
  obtain ⟨rfl, rfl, rfl⟩ := trodAll_nil r3
  obtain rfl : args = #[v0, v1, v2, v3] := by cases args; simp_all
  obtain ⟨rfl, rfl⟩ := trodVars_none hV
  have hblt : ∀ x ∈ p0 ++ (p1 ++ (p2 ++ (p3 ++ []))), x.block < W.heap.size := fun x hx => hW'.lt x (by simpa using hx)
  obtain ⟨a0, rfl, rfl, rfl, w0⟩ := open_int un3 (hval 0 3 v0 rfl rfl) h0
  obtain ⟨b1, n1, k1, rfl⟩ := okWide_slice Try.underlying95 (hval 1 95 v1 rfl rfl)
  obtain ⟨f1, g1⟩ := h1
  obtain ⟨q1, m1, c1, acts, hms, hm1, hM⟩ := open_acts3 g1
  simp [Value.cells] at hms
  obtain ⟨rfl, rfl, rfl⟩ := hms
  obtain ⟨a2, rfl, rfl, rfl, w2⟩ := open_int un3 (hval 2 3 v2 rfl rfl) h2
  obtain ⟨a3, rfl, rfl, rfl, w3⟩ := open_int un22 (hval 3 22 v3 rfl rfl) h3
  clear hA0 hval0
  refine (few_walk hM hm1 (wf_i64 w2) (wf_u32 w3).1).mono fun e W' ⟨r, he, hr, hc⟩ => ?_
  subst he hr
  have bel := hc.below
  exact ⟨_, rfl, _, _, _, [], _, [], hW', trodAll_mk1 (shut_bool (by kernel_rfl) _), all_below laidOutX bel _ _ _ _ (fun t ht => by
    simp at ht
    rcases ht with rfl | rfl | rfl | rfl <;> exact ⟨by kernel_rfl, of_decide_eq_true (by kernel_rfl)⟩) hAll (fun x hx => hblt x (by simpa using hx)), rfl, bel.frame _, fun h => by cases h⟩

theorem few_over : Rows.shadowFewRow.holds Try.pinned (OpenSpec.ofChange Rows.shadowFewSpec) :=
  OpenClaim.holds_of_wide 15 Try.f15 rfl rfl rfl rfl rfl rfl rfl ⟨rfl, rfl, rfl, rfl, rfl⟩ rfl rfl rfl rfl rfl (by kernel_rfl) Try.func15 (by kernel_rfl)
    (of_decide_eq_true (by kernel_rfl)) (by unfold Func.isWrapper; first | (rw [if_pos (by decide +kernel)]; kernel_rfl) | (rw [if_neg (by decide +kernel)]; exact ⟨rfl, rfl⟩))
    (fun os started H enc _ => few_lifted os started H enc)

theorem shadowFew_proved : Rows.ShadowFewSaid := few_over
#print axioms shadowFew_proved
end Go.Proofs.Ytkfncibmfcdokaa
