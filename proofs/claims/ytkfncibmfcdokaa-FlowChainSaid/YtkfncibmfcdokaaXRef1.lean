/- The document's flows: New, May, Keep, Put, Mark. -/
import Derived.Test.YtkfncibmfcdokaaXFlow3
set_option linter.unusedVariables false
set_option linter.unusedSimpArgs false
namespace Go.Proofs.Ytkfncibmfcdokaa
open Go Go.RowKit Go.X

/-! ### Rows of equal elements -/
theorem flat_get {α : Type} (enc : α → List Value) {size : Nat} (hs : ∀ x, (enc x).length = size) : ∀ (l : List α) (j : Nat) (x : α), l[j]? = some x → ∀ k, k < size → (l.flatMap enc)[j * size + k]? = (enc x)[k]?
  | [], _, _, h, _, _ => by simp at h
  | a :: l, 0, x, h, k, hk => by
    simp at h; subst h
    simp only [List.flatMap_cons, Nat.zero_mul, Nat.zero_add]
    rw [List.getElem?_append_left (by rw [hs]; exact hk)]
  | a :: l, j + 1, x, h, k, hk => by
    simp only [List.flatMap_cons]
    rw [List.getElem?_append_right (by rw [hs, Nat.add_mul]; omega), hs]
    have : (j + 1) * size + k - size = j * size + k := by rw [Nat.add_mul]; omega
    rw [this]
    exact flat_get enc hs l j x (by simpa using h) k hk
theorem cellsAt_iff {w : World} {q : Addr} : ∀ {i : Nat} {vs : List Value}, CellsAt w q i vs ↔ ∀ k v, vs[k]? = some v → w.cell? (q.add (i + k)) = some v
  | i, [] => by simp [CellsAt]
  | i, v :: vs => by
    simp only [CellsAt]
    rw [cellsAt_iff (i := i + 1) (vs := vs)]
    constructor
    · rintro ⟨h1, h2⟩ k u hk
      cases k with
      | zero => simp at hk; subst hk; simpa using h1
      | succ k => simp at hk; have := h2 k u hk; rw [show i + (k + 1) = i + 1 + k by omega]; exact this
    · intro h
      exact ⟨by simpa using h 0 v rfl, fun k u hk => by have := h (k + 1) u (by simpa using hk); rw [show i + 1 + k = i + (k + 1) by omega]; exact this⟩
theorem RowAt.elem {w : World} {e : TypeId} {size n c : Nat} {p : Option Addr} {α : Type} {enc : α → List Value} {l : List α} (hs : ∀ x, (enc x).length = size) (h : RowAt w e size p n c (l.flatMap enc)) {j : Nat} {x : α} (hj : l[j]? = some x) (h0 : 0 < size) :
    ∃ a, p = some a ∧ CellsAt w (a.add (j * size)) 0 (enc x) := by
  have hget := flat_get enc hs l j x hj
  have hex : ∃ a, p = some a := by
    have h1 := hget 0 h0
    obtain ⟨v, hv⟩ : ∃ v, (enc x)[0]? = some v := ⟨_, List.getElem?_eq_getElem (by rw [hs]; exact h0)⟩
    rw [hv] at h1
    obtain ⟨a, ha, _⟩ := RowAt.at h h1
    exact ⟨a, ha⟩
  obtain ⟨a, rfl⟩ := hex
  refine ⟨a, rfl, cellsAt_iff.2 fun k v hk => ?_⟩
  have hk' : k < size := by rw [← hs x]; exact (List.getElem?_eq_some_iff.1 hk).1
  have h1 := hget k hk'
  rw [hk] at h1
  obtain ⟨a', ha', hc⟩ := RowAt.at h h1
  cases ha'
  have hadd : (a.add (j * size)).add (0 + k) = a.add (j * size + k) := by
    unfold Addr.add; split <;> split <;> simp_all [Nat.add_assoc]
    all_goals omega
  rw [hadd]; exact hc
theorem flat_length {α : Type} {enc : α → List Value} {size : Nat} (hs : ∀ x, (enc x).length = size) (l : List α) : (l.flatMap enc).length = l.length * size := by
  induction l with
  | nil => simp
  | cons a l ih => simp only [List.flatMap_cons, List.length_append, hs, ih, List.length_cons]; rw [Nat.add_mul]; omega

abbrev Pr := (Int × Int) × Int
def encPr (x : Pr) : List Value := [.int .i64 x.1.1, .int .i64 x.1.2, .int .u32 x.2]
def encU (n : Int) : List Value := [.int .u32 n]
theorem encU_map (l : List Int) : l.map (Value.int .u32) = l.flatMap encU := by induction l with | nil => rfl | cons a l ih => simp [List.flatMap_cons, encU, ih]

structure Rf where
  fr : Int
  se : Int
  most : Int
  sets : List Int
  pairs : List Pr

/-- The document's flow as a value, of two rows. -/
structure RefAt (w : World) (R : Rf) (p4 : Option Addr) (n4 c4 : Nat) (p5 : Option Addr) (n5 c5 : Nat) : Prop where
  sets : RowAt w 22 1 p4 n4 c4 (R.sets.map (.int .u32))
  pairs : RowAt w 149 3 p5 n5 c5 (R.pairs.flatMap encPr)
theorem RefAt.chg {w w' : World} {R : Rf} {p4 p5 : Option Addr} {n4 c4 n5 c5 : Nat} {f : List Nat} (h : RefAt w R p4 n4 c4 p5 n5 c5) (hc : Chg f w w') (h4 : ∀ i ∈ rowB p4, i ∉ f) (h5 : ∀ i ∈ rowB p5, i ∉ f) : RefAt w' R p4 n4 c4 p5 n5 c5 :=
  ⟨h.sets.chg hc h4, h.pairs.chg hc h5⟩
theorem RefAt.n4 {w : World} {R : Rf} {p4 p5 : Option Addr} {n4 c4 n5 c5 : Nat} (h : RefAt w R p4 n4 c4 p5 n5 c5) : n4 = R.sets.length := by have := h.sets.length; simp at this; omega
theorem RefAt.n5 {w : World} {R : Rf} {p4 p5 : Option Addr} {n4 c4 n5 c5 : Nat} (h : RefAt w R p4 n4 c4 p5 n5 c5) : n5 = R.pairs.length := by
  have := h.pairs.length; rw [flat_length (size := 3) (fun _ => rfl)] at this; omega

theorem ref_may {w : World} (fr se f3 : Int) (p4 p5 : Option Addr) (n4 c4 n5 c5 : Nat) (p1 p2 : Int) (hw : i64s (64 * fr) ∧ i64s (64 * se)) :
    Calls Try.prog 29 #[.agg #[.int .i64 fr, .int .i64 se, .int .i64 f3, .slice p4 n4 c4, .slice p5 n5 c5], .agg #[.int .i64 p1, .int .i64 p2]] w fun e w' => ∃ r : Bool, e = .returned (.bool r) ∧ (r = decide (mayP fr se (p1, p2)) ∧ Chg [] w w') := by
  obtain ⟨⟨hw1, hw2⟩, hw3, hw4⟩ := hw
  refine ok_pomanderref12_Flow_May _ _ _ _ _ _ _ _ _ _ _ _ _ ?_
  unfold V_pomanderref12_Flow_May
  refine v_alloc fun b1 w1 e1 h1 c1 => ?_
  refine v_alloc fun b2 w2 e2 h2 c2 => ?_
  have h12 := c2.obj (by simp) h1
  have c02 := c1.trans0 c2
  refine ⟨p1, by rw [cell_of h2]; rfl, fun s w3 => w3 = w2 ∧ 1 ≤ p1 ∧ p1 ≤ 17 ∧ s.2 = boundP fr se p1, ?_, fun hb => ?_, fun hb => ?_⟩
  · rintro ⟨s1, s2⟩ w3 ⟨hw, k1, k2, rfl⟩
    subst w3
    refine ⟨p2, by rw [cell_of h2]; rfl, _, fun b w h => h, fun hb => ⟨p2, by rw [cell_of h2]; rfl, ?_, c02⟩, fun hb => ⟨?_, c02⟩⟩
    · have : 0 ≤ p2 := by simpa using hb
      exact decide_eq_decide.2 (by unfold mayP; simp only []; omega)
    · have : ¬ 0 ≤ p2 := by simpa using hb
      symm; rw [decide_eq_false_iff_not]; unfold mayP; simp only []; omega
  · have : p1 < 1 ∨ 17 < p1 := by simpa using hb
    refine ⟨?_, c02⟩
    symm; rw [decide_eq_false_iff_not]; unfold mayP; simp only []; omega
  have hk : 1 ≤ p1 ∧ p1 ≤ 17 := by simpa using hb
  have hbd : ∀ v, v = boundP fr se p1 → (w2 = w2 ∧ 1 ≤ p1 ∧ p1 ≤ 17 ∧ v = boundP fr se p1) := fun v hv => ⟨rfl, hk.1, hk.2, hv⟩
  refine ⟨fun e => hbd _ ?_, fun n1 => ⟨fun e => ?_, fun n10 => ⟨fun e => hbd _ ?_, fun n11 => ⟨fun e => ?_, fun n12 => ⟨fun e => hbd _ ?_, fun n13 => ⟨fun e => hbd _ ?_, fun n17 => hbd _ ?_⟩⟩⟩⟩⟩⟩
  · have : p1 = 1 := by simpa using e
    unfold boundP; rw [if_pos this]
  · have : p1 = 10 := by simpa using e
    refine ⟨fr, by rw [cell_of h12]; rfl, hbd _ ?_⟩
    simp only []
    rw [wr hw1 hw2]; unfold boundP; rw [if_neg (by omega), if_pos this]
  · have : p1 = 11 := by simpa using e
    unfold boundP; rw [if_neg (by omega), if_neg (by omega), if_pos this]
  · have : p1 = 12 := by simpa using e
    refine ⟨se, by rw [cell_of h12]; rfl, hbd _ ?_⟩
    simp only []
    rw [wr hw3 hw4]; unfold boundP; rw [if_neg (by omega), if_neg (by omega), if_neg (by omega), if_pos this]
  · have : 13 ≤ p1 ∧ p1 ≤ 16 := by simpa using e
    unfold boundP; rw [if_neg (by omega), if_neg (by omega), if_neg (by omega), if_neg (by omega), if_neg (by omega), if_pos (by omega)]
  · have : p1 = 17 := by simpa using e
    unfold boundP; rw [if_neg (by omega), if_neg (by omega), if_neg (by omega), if_neg (by omega), if_pos this]
  · simp at n1 n10 n11 n12 n13 n17
    unfold boundP; rw [if_neg n1, if_neg n10, if_neg n11, if_neg n12, if_neg n17, if_neg (by omega)]

theorem ref_has {w : World} {t1 : Int} {p4 : Option Addr} {n4 c4 : Nat} {sets : List Int} (h : RowAt w 22 1 p4 n4 c4 (sets.map (.int .u32))) (hn : n4 ≤ 1000000000) (set : Int) :
    Calls Try.prog 124 #[.agg #[.int .i64 t1, .slice p4 n4 c4], .int .u32 set] w fun e w' => ∃ r : Int, e = .returned (.int .i64 r) ∧ ((if set ∈ sets then 0 ≤ r ∧ r < n4 else r = -1) ∧ Chg [] w w') := by
  have hl : n4 = sets.length := by have := h.length; simp at this; omega
  refine ok_pomanderref02_Table_Has _ _ _ _ _ _ _ ?_
  unfold V_pomanderref02_Table_Has
  refine v_alloc fun b1 w1 e1 h1 c1 => ?_
  refine ⟨fun s w' => ∃ j : Nat, s.2 = (j : Int) ∧ j ≤ n4 ∧ (∀ x ∈ sets.take j, x ≠ set) ∧ w' = w1, fun s _ => (n4 - s.2).toNat, ⟨0, rfl, by omega, by intro x hx; simp at hx, rfl⟩, ?_⟩
  rintro ⟨s1, s2⟩ w2 ⟨j, rfl, hj, hno, hw⟩
  subst w2
  refine ⟨p4, n4, c4, by rw [cell_of h1]; rfl, fun hlt => ?_, fun hge => ?_⟩
  · have hlt' : j < n4 := by simpa using hlt
    obtain ⟨x, hx⟩ := get_of (l := sets) (j := j) (by omega)
    obtain ⟨a, rfl, hc⟩ := RowAt.at (h.chg c1 (by simp)) (j := j) (u := .int .u32 x) (by rw [List.getElem?_map, hx]; rfl)
    refine ⟨_, n4, c4, by rw [cell_of h1]; rfl, a, rfl, by simp only []; omega, by simp only []; omega, x, by simpa using hc, fun he => ?_, fun hne => ?_⟩
    · have he' : x = set := by simpa using he
      refine ⟨?_, c1⟩
      rw [if_pos (he' ▸ List.mem_of_getElem? hx)]
      simp only []; omega
    · have hne' : x ≠ set := by simpa using hne
      simp only []
      rw [wr (by omega) (by omega)]
      refine ⟨⟨j + 1, by omega, by omega, ?_, trivial⟩, by omega⟩
      rw [take_snoc hx]
      intro y hy
      rcases List.mem_append.1 hy with hy | hy
      · exact hno y hy
      · simp at hy; rw [hy]; exact hne'
  · have hge' : ¬ j < n4 := by simpa using hge
    rw [List.take_of_length_le (by omega)] at hno
    refine ⟨?_, c1⟩
    rw [if_neg (fun hm => hno set hm rfl)]
end Go.Proofs.Ytkfncibmfcdokaa
