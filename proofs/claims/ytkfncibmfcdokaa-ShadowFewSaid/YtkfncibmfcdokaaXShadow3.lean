/- Shadows: Pages, Private; All. -/
import Derived.Test.YtkfncibmfcdokaaXAll
import Derived.Test.YtkfncibmfcdokaaXR03
set_option linter.unusedVariables false
set_option linter.unusedSimpArgs false
namespace Go.Proofs.Ytkfncibmfcdokaa
open Go Go.RowKit Go.X Go.XR

theorem priv_look {w : World} {g : Int → Int} {pages : Int} {l : List (Int × Nat)} (h3 : ∀ x ∈ l, 0 ≤ x.1 ∧ x.1 < pages ∧ PageC w x.2 (many (pg g x.1)) (pg g x.1) ∧ 0 < many (pg g x.1)) (h4 : ∀ n, lookK n l = none → ∀ i, i < 64 → pg g n i = 0) (n : Int) :
    (lookK n l).isSome = privL g pages n := by
  cases h : lookK n l with
  | none => exact (decide_eq_false (by rw [many_none (h4 n h)]; omega)).symm
  | some q =>
    obtain ⟨a1, a2, _, a3⟩ := h3 _ (lookK_mem h)
    exact (decide_eq_true ⟨a1, a2, a3⟩).symm

theorem shadow_private {w : World} {b : Nat} {pages : Int} {g : Int → Int} {fp : List Nat} (h : ShadowAt w b pages g fp) (n : Int) :
    Calls Try.prog 56 #[.pointer (some ⟨b, 0, none⟩), .int .i64 n] w fun e w' => ∃ r : Bool, e = .returned (.bool r) ∧ (r = privL g pages n ∧ w' = w) := by
  obtain ⟨r, l, h1, h2, h3, h4, rfl⟩ := h.there
  refine go_shadow_Shadow_Private _ _ _ _ ?_
  unfold W_shadow_Shadow_Private
  refine (shadow_none h).mono ?_
  rintro _ w1 ⟨_, rfl, rfl, hw⟩
  subst w1
  refine ⟨_, rfl, fun h => by simp at h, fun _ => ⟨_, rfl, some r, by rw [add_at, cell_of h1]; rfl, ?_⟩⟩
  have := h2.lookup (P := Try.prog) (T := 173) u173 keyInt (z := .pointer none) (fun _ => by kernel_rfl) n true
  refine ⟨(lookK n l).map fun q => ⟨q, 0, none⟩, (lookK n l).isSome, ?_, priv_look h3 h4 n, rfl⟩
  rw [this]
  cases lookK n l <;> rfl

theorem map_len {w : World} {r : Nat} {l : List (Int × Nat)} (h : MapIs w r (fun n : Int => .int .i64 n) encPg l) (T : TypeId) : (Builtin.len_ #[173] T #[.map (some r)]).run Try.prog w = .ok (.int .i64 (l.length : Int)) w := by
  obtain ⟨es, clk, hb, he, _⟩ := h
  have : es.size = l.length := by
    have := congrArg List.length he
    simpa using this
  simp [Builtin.len_, run_underlying u173, MapKept.run_getObj_map hb, Result.andThen, this, go_sem]

theorem pages_len {w : World} {g : Int → Int} {pages : Int} {l : List (Int × Nat)} (hn : (l.map Prod.fst).Nodup) (h3 : ∀ x ∈ l, 0 ≤ x.1 ∧ x.1 < pages ∧ PageC w x.2 (many (pg g x.1)) (pg g x.1) ∧ 0 < many (pg g x.1)) (h4 : ∀ n, lookK n l = none → ∀ i, i < 64 → pg g n i = 0) :
    l.length = pagesL g pages pages.toNat := by
  have hmem : ∀ n : Int, n ∈ l.map Prod.fst ↔ (lookK n l).isSome = true := fun n => by
    constructor
    · intro h
      obtain ⟨x, hx, rfl⟩ := List.mem_map.1 h
      cases hl : lookK x.1 l with
      | none => exact absurd rfl (lookK_none.1 hl x hx)
      | some v => rfl
    · intro h
      obtain ⟨v, hv⟩ := Option.isSome_iff_exists.1 h
      exact List.mem_map.2 ⟨(n, v), lookK_mem hv, rfl⟩
  have e1 : (l.map Prod.fst).mergeSort (fun x y => decide (x ≤ y)) = ((List.range pages.toNat).map (fun i : Nat => (i : Int))).filter fun n => (lookK n l).isSome := by
    refine sorted_ext (sort_strict hn) (List.Pairwise.filter _ ?_) fun n => ?_
    · rw [List.pairwise_map]
      exact List.pairwise_lt_range.imp fun {a b} h => by omega
    · rw [(List.mergeSort_perm _ _).mem_iff, hmem, List.mem_filter]
      constructor
      · intro h
        obtain ⟨v, hv⟩ := Option.isSome_iff_exists.1 h
        have := h3 _ (lookK_mem hv)
        exact ⟨List.mem_map.2 ⟨n.toNat, List.mem_range.2 (by simp at this; omega), by simp at this; omega⟩, h⟩
      · exact fun h => h.2
  have e2 := congrArg List.length e1
  rw [List.length_mergeSort, List.length_map, ← List.countP_eq_length_filter, List.countP_map] at e2
  rw [e2]
  unfold pagesL
  exact List.countP_congr fun i hi => by simp [priv_look h3 h4]

theorem shadow_pages {w : World} {b : Nat} {pages : Int} {g : Int → Int} {fp : List Nat} (h : ShadowAt w b pages g fp) :
    Calls Try.prog 55 #[.pointer (some ⟨b, 0, none⟩)] w fun e w' => ∃ r : Int, e = .returned (.int .i64 r) ∧ (r = pagesL g pages pages.toNat ∧ w' = w) := by
  obtain ⟨r, l, h1, h2, h3, h4, rfl⟩ := h.there
  refine go_shadow_Shadow_Pages _ _ _ ?_
  unfold W_shadow_Shadow_Pages
  refine (shadow_none h).mono ?_
  rintro _ w1 ⟨_, rfl, rfl, hw⟩
  subst w1
  refine ⟨_, rfl, fun h => by simp at h, fun _ => ⟨_, rfl, some r, by rw [add_at, cell_of h1]; rfl, _, map_len h2 _, ?_, rfl⟩⟩
  obtain ⟨_, _, _, _, hnd, _⟩ := h2
  rw [pages_len hnd h3 h4]

theorem shadow_all {w : World} {b : Nat} {pages : Int} {g : Int → Int} {fp : List Nat} (h : ShadowAt w b pages g fp) :
    Calls Try.prog 50 #[.pointer (some ⟨b, 0, none⟩)] w fun e w' => ∃ r : Value, e = .returned r ∧ ∃ cb b' fp', r = .func (.func 93) #[] #[.pointer (some ⟨cb, 0, none⟩)] ∧ w'.heap[cb]? = some (.cells #[.pointer (some ⟨b', 0, none⟩)] 90 (0, 0)) ∧ ShadowAt w' b' pages g fp' ∧ Chg [] w w' ∧ ∀ i ∈ cb :: fp', w.heap.size ≤ i := by
  refine go_shadow_Shadow_All _ _ _ ?_
  unfold W_shadow_Shadow_All
  refine v_alloc fun b1 w1 e1 hb1 c1 => ?_
  have s1 := c1.size
  have hl1 := lt_of_heap hb1
  refine ⟨_, by rw [cell_of hb1]; rfl, ?_⟩
  refine (shadow_copy (h.chg c1 (by simp))).mono ?_
  rintro _ w2 ⟨_, rfl, b', fp', rfl, hS, c2, hn⟩
  refine ⟨_, rfl, ?_⟩
  refine v_set0 (c2.obj (by simp) hb1) (by simp) fun w3 hb3 c3 s3 => ?_
  refine ⟨b1, b', fp', rfl, hb3, hS.chg c3 (fun i hi hm => by simp at hm; subst hm; have := hn _ hi; omega), (c1.trans0 c2).trans c3 (fun i hi hlt => by simp at hi; omega), ?_⟩
  intro i hi
  rcases List.mem_cons.1 hi with h | h
  · omega
  · have := hn i h; omega
end Go.Proofs.Ytkfncibmfcdokaa
