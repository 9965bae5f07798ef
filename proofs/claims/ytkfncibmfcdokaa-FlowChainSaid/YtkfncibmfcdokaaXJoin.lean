/- The document's sets: Bit, Join. -/
import Derived.Test.YtkfncibmfcdokaaXPol1
import Derived.Test.YtkfncibmfcdokaaXG1
set_option linter.unusedVariables false
set_option linter.unusedSimpArgs false
namespace Go.Proofs.Ytkfncibmfcdokaa
open Go Go.RowKit Go.X

theorem wru {n : Int} (h1 : 0 ≤ n) (h2 : n < 4294967296) : IntKind.wrap .u32 n = n := by rw [IntKind.wrap_u32']; omega

theorem ref_bit {w : World} {set n : Int} (h0 : 0 ≤ set) (h1 : set < 4294967296) (hn : 0 ≤ n) (hn1 : n ≤ 1000) :
    Calls Try.prog 126 #[.int .u32 set, .int .i64 n] w fun e w' => ∃ r : Bool, e = .returned (.bool r) ∧ (r = set.toNat.testBit n.toNat ∧ w' = w) := by
  refine go_pomanderref02_Bit _ _ _ _ ?_
  unfold W_pomanderref02_Bit
  refine ⟨fun s i w' => ∃ j : Nat, i = (j : Int) ∧ (j : Int) ≤ n ∧ s = ((set.toNat / 2 ^ j : Nat) : Int) ∧ w' = w, fun _ i _ => (n - i).toNat, ⟨0, rfl, by omega, by simp; omega, rfl⟩, ?_⟩
  rintro s _ w1 ⟨j, rfl, hj, rfl, hw⟩
  subst w1
  have hle : set.toNat / 2 ^ j ≤ set.toNat := Nat.div_le_self _ _
  refine ⟨fun hlt => ?_, fun hge => ?_⟩
  · have hlt' : (j : Int) < n := by simpa using hlt
    rw [wr (by omega) (by omega)]
    have e1 : IntKind.wrap .u32 (Int.tdiv ((set.toNat / 2 ^ j : Nat) : Int) 2) = ((set.toNat / 2 ^ (j + 1) : Nat) : Int) := by
      rw [Nat.pow_succ, ← Nat.div_div_eq_div_mul]
      generalize set.toNat / 2 ^ j = X at hle
      rw [Int.tdiv_eq_ediv_of_nonneg (by omega)]
      rw [wru (by omega) (by omega)]
      omega
    rw [e1]
    exact ⟨⟨j + 1, by omega, by omega, rfl, rfl⟩, by simp only []; omega⟩
  · have hge' : ¬ (j : Int) < n := by simpa using hge
    have hnj : n.toNat = j := by omega
    refine ⟨?_, rfl⟩
    rw [hnj, Nat.testBit_eq_decide_div_mod_eq]
    have : Int.tmod ((set.toNat / 2 ^ j : Nat) : Int) 2 = ((set.toNat / 2 ^ j % 2 : Nat) : Int) := by
      generalize set.toNat / 2 ^ j = X
      rw [Int.tmod_eq_emod_of_nonneg (by omega)]; omega
    rw [this]
    by_cases hb : set.toNat / 2 ^ j % 2 = 1
    · simp [hb]
    · have hb0 : set.toNat / 2 ^ j % 2 = 0 := by omega
      simp [hb0]

theorem mod_succ (x j : Nat) : x % 2 ^ (j + 1) = x % 2 ^ j + 2 ^ j * (x.testBit j).toNat := by
  rw [Nat.testBit_eq_decide_div_mod_eq, Nat.pow_succ, Nat.mod_mul]
  by_cases hb : x / 2 ^ j % 2 = 1
  · simp [hb]
  · have hb0 : x / 2 ^ j % 2 = 0 := by omega
    simp [hb0]

theorem ref_join {w : World} {a b : Int} (ha : u16 a) (hb : u16 b) :
    Calls Try.prog 106 #[.int .u32 a, .int .u32 b] w fun e w' => ∃ r : Int, e = .returned (.int .u32 r) ∧ (r = bits .or .u32 a b ∧ w' = w) := by
  obtain ⟨ha0, ha1⟩ := ha
  obtain ⟨hb0, hb1⟩ := hb
  refine go_pomanderref02_Join _ _ _ _ ?_
  unfold W_pomanderref02_Join
  have hx : a.toNat ||| b.toNat < 2 ^ 16 := Nat.or_lt_two_pow (by omega) (by omega)
  generalize hX : a.toNat ||| b.toNat = X at hx
  have hR : bits .or .u32 a b = (X : Int) := by rw [u32_or a b ha0 (by omega) hb0 (by omega), hX]
  have hbit : ∀ j, X.testBit j = (a.toNat.testBit j || b.toNat.testBit j) := fun j => by rw [← hX, Nat.testBit_or]
  refine ⟨fun out p i w' => ∃ j : Nat, i = (j : Int) ∧ j ≤ 16 ∧ out = ((X % 2 ^ j : Nat) : Int) ∧ p = ((2 ^ j : Nat) : Int) ∧ w' = w, fun _ _ i _ => (16 - i).toNat, ⟨0, rfl, by omega, by simp [Nat.mod_one], rfl, rfl⟩, ?_⟩
  rintro _ _ _ w1 ⟨j, rfl, hj, rfl, rfl, hw⟩
  subst w1
  have hp : 2 ^ j ≤ 2 ^ 16 := Nat.pow_le_pow_right (by omega) hj
  have hm : X % 2 ^ (j + 1) ≤ X := Nat.mod_le _ _
  refine ⟨fun hlt => ?_, fun hge => ?_⟩
  · have hlt' : j < 16 := by
      have : (j : Int) < 16 := by simpa using hlt
      omega
    have hm' := mod_succ X j
    refine ⟨fun out w' => out = ((X % 2 ^ (j + 1) : Nat) : Int) ∧ w' = w, ?_, ?_⟩
    · rintro _ w2 ⟨rfl, hw⟩
      subst w2
      rw [wr (by omega) (by omega)]
      refine ⟨⟨j + 1, by omega, by omega, rfl, ?_, rfl⟩, by simp only []; omega⟩
      rw [wru (by omega) (by omega), Nat.pow_succ]; omega
    refine (ref_bit ha0 (by omega) (by omega) (by omega)).mono ?_
    rintro _ w3 ⟨_, rfl, rfl, hw⟩
    subst w3
    refine ⟨_, rfl, fun b2 w' => b2 = X.testBit j ∧ w' = w, ?_, fun hA => ?_, fun hA => ?_⟩
    · rintro b2 w4 ⟨rfl, hw⟩
      subst w4
      refine ⟨fun ht => ⟨?_, rfl⟩, fun hf => ⟨?_, rfl⟩⟩
      · rw [ht] at hm'
        simp at hm'
        rw [wru (by omega) (by omega), hm']; omega
      · rw [hf] at hm'
        simp at hm'
        rw [hm']
    · refine (ref_bit hb0 (by omega) (by omega) (by omega)).mono ?_
      rintro _ w5 ⟨_, rfl, rfl, hw⟩
      subst w5
      refine ⟨_, rfl, ?_, rfl⟩
      simp at hA
      simp [hbit, hA]
    · simp at hA
      exact ⟨by simp [hbit, hA], rfl⟩
  · have hge' : ¬ (j : Int) < 16 := by simpa using hge
    have : j = 16 := by omega
    subst this
    exact ⟨by rw [hR, Nat.mod_eq_of_lt hx], rfl⟩
end Go.Proofs.Ytkfncibmfcdokaa
