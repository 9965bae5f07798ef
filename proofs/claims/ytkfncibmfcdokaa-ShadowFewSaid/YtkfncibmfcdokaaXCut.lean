/- The first bytes of a shadow alone. -/
import Derived.Test.YtkfncibmfcdokaaXSame
import Derived.Test.YtkfncibmfcdokaaXIs
set_option linter.unusedVariables false
set_option linter.unusedSimpArgs false
namespace Go.Proofs.Ytkfncibmfcdokaa
open Go Go.RowKit Go.X Go.XR

def cutG (g : Int → Int) (k : Nat) : Int → Int := fun i => if 0 ≤ i ∧ i < k then g i else 0
theorem cutG_next {g : Int → Int} {k j : Nat} (hk : k ≤ j) (hz : ∀ i : Nat, k ≤ i → i < j → g i = 0) : putG (cutG g k) j (g j) = cutG g (j + 1) := by
  funext i
  unfold putG cutG
  by_cases e : i = j
  · subst e; rw [if_pos rfl, if_pos (by omega)]
  · rw [if_neg e]
    by_cases h : 0 ≤ i ∧ i < k
    · rw [if_pos h, if_pos (by omega)]
    · rw [if_neg h]
      by_cases h' : 0 ≤ i ∧ i < ((j + 1 : Nat) : Int)
      · rw [if_pos h']
        have := hz i.toNat (by omega) (by omega)
        rw [Int.toNat_of_nonneg h'.1] at this; exact this.symm
      · rw [if_neg h']
theorem cutG_all {g : Int → Int} {k n : Nat} (hk : k ≤ n) (hz : ∀ i : Nat, k ≤ i → i < n → g i = 0) (ho : ∀ i : Int, i < 0 ∨ (n : Int) ≤ i → g i = 0) : cutG g k = g := by
  funext i
  unfold cutG
  by_cases h : 0 ≤ i ∧ i < k
  · rw [if_pos h]
  · rw [if_neg h]
    by_cases h' : 0 ≤ i ∧ i < (n : Int)
    · have := hz i.toNat (by omega) (by omega)
      rw [Int.toNat_of_nonneg h'.1] at this; exact this.symm
    · exact (ho i (by omega)).symm
theorem cutG_zero (g : Int → Int) : cutG g 0 = fun _ => 0 := by
  funext i; unfold cutG; rw [if_neg (by omega)]

theorem someL_nil {g : Int → Int} {n : Nat} : someL g n = [] ↔ ∀ i : Nat, i < n → g i = 0 := by
  unfold someL
  rw [List.flatMap_eq_nil_iff]
  constructor
  · intro h i hi
    have := h i (List.mem_range.2 hi)
    by_cases e : g i = 0
    · exact e
    · rw [if_neg e] at this; simp at this
  · intro h i hi
    rw [if_pos (h i (List.mem_range.1 hi))]
theorem pagesL_zero {g : Int → Int} {pages : Int} : pagesL g pages pages.toNat = 0 ↔ someL g (64 * pages.toNat) = [] := by
  rw [someL_nil]
  unfold pagesL
  rw [List.countP_eq_zero]
  constructor
  · intro h i hi
    have h1 := h (i / 64) (List.mem_range.2 (by omega))
    by_cases e : g i = 0
    · exact e
    · refine absurd ?_ h1
      refine decide_eq_true ⟨by omega, by omega, many_pos_iff.2 ⟨i % 64, by omega, ?_⟩⟩
      unfold pg
      rwa [show 64 * ((i / 64 : Nat) : Int) + ((i % 64 : Nat) : Int) = (i : Int) by omega]
  · intro h p hp hpr
    have hp' := List.mem_range.1 hp
    obtain ⟨_, _, hm⟩ := of_decide_eq_true hpr
    obtain ⟨i, hi, hne⟩ := many_pos_iff.1 hm
    apply hne
    unfold pg
    have := h (64 * p + i) (by omega)
    rwa [show (((64 * p + i : Nat)) : Int) = 64 * (p : Int) + (i : Int) by omega] at this
end Go.Proofs.Ytkfncibmfcdokaa
