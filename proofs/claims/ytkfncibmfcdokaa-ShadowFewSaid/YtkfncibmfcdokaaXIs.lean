/- pomanderlaw03: is. -/
import Derived.Test.YtkfncibmfcdokaaXShadow3
import Derived.Test.YtkfncibmfcdokaaXG9
set_option linter.unusedVariables false
set_option linter.unusedSimpArgs false
namespace Go.Proofs.Ytkfncibmfcdokaa
open Go Go.RowKit Go.X Go.XR

theorem someL_succ (g : Int → Int) (k : Nat) : someL g (k + 1) = someL g k ++ if g k = 0 then [] else [((k : Int), g k)] := by
  unfold someL
  rw [List.range_succ, List.flatMap_append]
  simp
theorem someL_le (g : Int → Int) (k m : Nat) : ∃ s, someL g (k + m) = someL g k ++ s := ⟨_, someL_add g k m⟩
/-- The next byte that has a set. -/
theorem someL_next {g : Int → Int} {n : Nat} {x s : Int} {suf : List (Int × Int)} : ∀ (m k : Nat), k + m = n → someL g k ++ (x, s) :: suf = someL g n →
    ∃ j : Nat, x = j ∧ k ≤ j ∧ j < n ∧ s = g j ∧ g j ≠ 0 ∧ (∀ i : Nat, k ≤ i → i < j → g i = 0) ∧ someL g (j + 1) = someL g k ++ [(x, s)]
  | 0, k, hk, h => by
    obtain rfl : k = n := by omega
    have := congrArg List.length h
    simp at this
  | m + 1, k, hk, h => by
    by_cases hz : g k = 0
    · have e := someL_succ g k
      rw [if_pos hz, List.append_nil] at e
      rw [← e] at h
      obtain ⟨j, h1, h2, h3, h4, h5, h6, h7⟩ := someL_next m (k + 1) (by omega) h
      refine ⟨j, h1, by omega, h3, h4, h5, fun i hi hj => ?_, by rw [h7, e]⟩
      rcases Nat.lt_or_ge k i with h | h
      · exact h6 i h hj
      · obtain rfl : i = k := by omega
        exact hz
    · have e := someL_succ g k
      rw [if_neg hz] at e
      obtain ⟨s', hs⟩ := someL_le g (k + 1) m
      rw [show k + 1 + m = n by omega, e, List.append_assoc] at hs
      rw [hs] at h
      have h' := List.append_cancel_left h
      simp at h'
      obtain ⟨⟨rfl, rfl⟩, rfl⟩ := h'
      exact ⟨k, rfl, Nat.le_refl _, by omega, rfl, hz, fun i hi hj => by omega, e⟩
theorem someL_rest {g : Int → Int} {n : Nat} : ∀ (m k : Nat), k + m = n → someL g k = someL g n → ∀ i : Nat, k ≤ i → i < n → g i = 0
  | 0, k, hk, h => by intro i h1 h2; omega
  | m + 1, k, hk, h => by
    have e := someL_succ g k
    by_cases hz : g k = 0
    · rw [if_pos hz, List.append_nil] at e
      intro i h1 h2
      rcases Nat.lt_or_ge k i with h' | h'
      · exact someL_rest m (k + 1) (by omega) (e.trans h) i h' h2
      · obtain rfl : i = k := by omega
        exact hz
    · rw [if_neg hz] at e
      obtain ⟨s', hs⟩ := someL_le g (k + 1) m
      rw [show k + 1 + m = n by omega, e, ← h] at hs
      have := congrArg List.length hs
      simp at this

theorem func_ne_nil (f : Nat) (lb : Array Value) (x y : Operand) (w : World) : ((do eqGuard .eql 111 x y (.func (.func f) #[] lb) .nilFunc; binOp .eql 111 (.func (.func f) #[] lb) .nilFunc : Sem Value)).run Try.prog w = .ok (.bool false) w := by
  simp only [binOp]
  have e : (Op.equalIn Op.maxDepth 111 (.func (.func f) #[] lb) .nilFunc).run Try.prog w = .ok false w := by
    rw [show Op.maxDepth = 9999 + 1 from rfl]
    unfold Op.equalIn
    simp [run_underlying Try.underlying111, Result.andThen, go_sem]
  simp [eqGuard, Op.equal, e, run_underlying Try.underlying111, Result.andThen, go_sem]

theorem is_true {w : World} {b : Nat} {pages : Int} {g : Int → Int} {fp : List Nat} {p : Option Addr} {n c : Nat} (h : ShadowAt w b pages g fp) (hr : RowAt w 22 1 p n c (row03 g n)) (hn : (n : Int) = 64 * pages) :
    Calls Try.prog 45 #[.pointer (some ⟨b, 0, none⟩), .slice p n c] w fun e w' => ∃ r : Bool, e = .returned (.bool r) ∧ (r = true ∧ Chg [] w w') := by
  have hp1 := h.pages1
  have hp2 := h.pages2
  refine go_pomanderlaw03_is _ _ _ _ _ _ ?_
  unfold W_pomanderlaw03_is
  rintro b4 b3 b2 b1 w6 ⟨i1, j1⟩ ⟨i2, j2⟩ ⟨i3, j3⟩ ⟨i4, j4⟩ c6
  refine (shadow_all (h.chg c6 (by simp))).mono ?_
  rintro _ w7 ⟨_, rfl, cb, _, _, rfl, _, _, c7, _⟩
  have s7 := c7.size
  refine ⟨_, rfl, Same.chg c7 (by simp; omega), false, fun w => func_ne_nil _ _ _ _ w, fun h => by simp at h, fun _ => ?_⟩
  have c07 := c6.trans0 c7
  refine (shadow_all (h.chg c07 (by simp))).mono ?_
  rintro _ w9 ⟨_, rfl, cb, b', fp', rfl, hcb, hS, c9, hnew⟩
  have s9 := c9.size
  have c09 := c07.trans0 c9
  have hlS := hS.lt
  have hlcb := lt_of_heap hcb
  refine ⟨_, rfl, Same.chg c9 (by simp; omega), _, _, _, isFn93 cb, iterates_shadow hcb hS, by simp; exact ⟨hlcb, hlS⟩, ?_⟩
  have en : 64 * pages.toNat = n := by omega
  rw [en]
  have hge : ∀ {O : List Nat} {A : World}, InO w9 O A → ∀ x ∈ O, w9.heap.size ≤ x := fun hO x hx => (hO x hx).1
  refine ⟨fun c1 c2 O pre w' => (∃ k : Nat, c1 = k ∧ k ≤ n ∧ pre = someL g k) ∧ c2 = true ∧ Chg [] w w' ∧ w9.heap.size ≤ w'.heap.size, fun _ _ _ _ _ _ => False, ?_, ?_, ?_, ?_, ?_, ?_⟩
  · rintro c1 c2 pre O O' A B ⟨k1, k2, k3, k4⟩ hO hc hO' hg
    have := hc.size
    exact ⟨k1, k2, k3.trans hc (fun i hi hlt => by have := hge hO i hi; have := c09.size; omega), by omega⟩
  · rintro _ _ _ _ _ _ _ _ hf; exact hf.elim
  · intro O w10 c10 hO
    exact ⟨⟨0, rfl, Nat.zero_le _, rfl⟩, rfl, c09.trans0 c10, c10.size⟩
  · rintro l2 O pre x1 x2 c1 c2 w10 hO hl2 ⟨suf, hsuf⟩ ⟨⟨k, rfl, hk, rfl⟩, rfl, k3, k4⟩ w11 c11
    have hl2' := hO l2 hl2
    have s11 := c11.size
    have c011 : Chg [] w w11 := k3.trans c11 (fun i hi hlt => by simp at hi; have := c09.size; omega)
    rw [List.append_assoc] at hsuf
    obtain ⟨j, rfl, hkj, hjn, rfl, hj0, hz, hnext⟩ := someL_next (n - k) k (by omega) hsuf
    have sz09 := c09.size
    refine ⟨fun c6 w' => ∃ i : Nat, c6 = i ∧ k ≤ i ∧ i ≤ j ∧ Chg [b3] w11 w', fun c6 _ => j - c6.toNat, ⟨k, rfl, Nat.le_refl _, hkj, Chg.refl _ _⟩, ?_⟩
    rintro _ w12 ⟨i, rfl, hki, hij, c12⟩
    have hold : ∀ {A : World}, Chg [b3, b4, b2] w11 A → Chg [] w A := fun hc => c011.trans hc (fun i hi hlt => by simp at hi; omega)
    have c012 : Chg [] w w12 := hold (c12.mono (by simp))
    obtain ⟨a, rfl, q0, q1, t, ht, rfl⟩ := row_cell (hr.chg c012 (by simp)) (i := (i : Int)) (by omega) (by omega)
    refine ⟨fun b5 w' => b5 = (g i == 0) ∧ w' = w12, ?_, fun _ => ⟨a, rfl, q0, q1, _, ht, rfl, rfl⟩, fun hf => ?_⟩
    · rintro _ w13 ⟨rfl, hw⟩
      subst w13
      refine ⟨fun ht w14 c14 => ?_, fun hf => ?_⟩
      · have h0 : g i = 0 := by simpa using ht
        have hne : i ≠ j := fun e => hj0 (e ▸ h0)
        rw [wr (by omega) (by omega)]
        exact ⟨⟨i + 1, by omega, by omega, by omega, c12.trans c14 (fun _ h _ => h)⟩, by simp only []; omega⟩
      · have h0 : g i ≠ 0 := by simpa using hf
        have hij' : i = j := by
          rcases Nat.lt_or_ge i j with h' | h'
          · exact absurd (hz i hki h') h0
          · omega
        subst hij'
        refine ⟨fun b6 w' => b6 = true ∧ w' = w12, ?_, fun _ => ⟨decide_eq_true (by omega), rfl⟩, fun hf => by simp at hf⟩
        rintro _ w15 ⟨rfl, hw⟩
        subst w15
        refine ⟨fun b7 w' => b7 = true ∧ w' = w12, ?_, fun _ => ⟨by simp, rfl⟩, fun hf => by simp at hf⟩
        rintro _ w16 ⟨rfl, hw⟩
        subst w16
        refine ⟨fun b8 w' => b8 = true ∧ w' = w12, ?_, fun _ => ?_, fun hf => by simp at hf⟩
        · rintro _ w17 ⟨rfl, hw⟩ w19 c19
          subst w17
          have s12 := c12.size
          have s19 := c19.size
          rw [wr (by omega) (by omega)]
          have c1119 : Chg [b3, b4, b2] w11 w19 := (c12.mono (by simp)).trans c19 (fun i hi hlt => by simp at hi ⊢; omega)
          refine ⟨fun hgt => by have := of_decide_eq_true hgt; omega, fun _ => ⟨by omega, ⟨⟨i + 1, by omega, by omega, hnext.symm⟩, rfl, hold c1119, by omega⟩, ?_⟩⟩
          refine Same.of c1119 (fun x hx => ?_)
          rcases List.mem_append.1 hx with hx | hx
          · have := hnew x hx
            have : x < w9.heap.size := by
              rcases List.mem_cons.1 hx with e | e
              · omega
              · exact hlS x e
            exact ⟨by omega, by simp; omega⟩
          · have := hO x hx
            exact ⟨by omega, by simp; omega⟩
        · have e1 : IntKind.wrap .i64 ((n : Int) - 1) = n - 1 := wr (by omega) (by omega)
          rw [e1, if_neg (by omega)]
          exact ⟨a, rfl, q0, q1, _, ht, by simp, rfl⟩
    · have := of_decide_eq_false hf; omega
  · rintro d1 O xs c1 c2 w21 hO hd hxs ⟨⟨k, rfl, hk, hxs'⟩, rfl, k3, k4⟩
    have hz := someL_rest (g := g) (n := n) (n - k) k (by omega) (hxs'.symm.trans hxs)
    have sz09 := c09.size
    have hd' := hO d1 hd
    have hold : ∀ {A : World}, Chg [b1, b2, b3, b4, d1] w21 A → Chg [] w A := fun hc => k3.trans hc (fun i hi hlt => by simp at hi; omega)
    have hb : ∀ x ∈ [b1, b2, b3, b4, d1], x < w21.heap.size := by simp; omega
    refine ⟨fun c7 w' => ∃ i : Nat, c7 = i ∧ k ≤ i ∧ i ≤ n ∧ Chg [b1, b2, b3, b4, d1] w21 w', fun c7 _ => n - c7.toNat, ⟨k, rfl, Nat.le_refl _, hk, Chg.refl _ _⟩, ?_⟩
    rintro _ w22 ⟨i, rfl, hki, hin, c22⟩
    have s22 := c22.size
    have c022 := hold c22
    refine ⟨fun b5 w' => b5 = decide (i < n) ∧ w' = w22, ?_, fun hlt => ?_, fun hf => ⟨?_, rfl⟩⟩
    rotate_left
    · have hlt' : i < n := by have := of_decide_eq_true hlt; omega
      obtain ⟨a, rfl, q0, q1, t, ht, rfl⟩ := row_cell (hr.chg c022 (by simp)) (i := (i : Int)) (by omega) (by omega)
      exact ⟨a, rfl, q0, q1, _, ht, by rw [hz i hki hlt']; simp [hlt'], rfl⟩
    · have := of_decide_eq_false hf
      exact (decide_eq_false (by omega)).symm
    rintro _ w23 ⟨rfl, hw⟩
    subst w23
    refine ⟨fun ht w24 c24 => ?_, fun hf => ?_⟩
    · have hlt' : i < n := of_decide_eq_true ht
      rw [wr (by omega) (by omega)]
      exact ⟨⟨i + 1, by omega, by omega, by omega, c22.trans c24 (fun x hx _ => by simp at hx ⊢; omega)⟩, by simp only []; omega⟩
    have hin' : i = n := by have := of_decide_eq_false hf; omega
    subst hin'
    have e1 : IntKind.wrap .i64 (Int.tdiv (i : Int) 64) = pages := by rw [Int.tdiv_eq_ediv_of_nonneg (by omega), wr (by omega) (by omega)]; omega
    rw [e1]
    refine ⟨fun p1 c8 w' => -1 ≤ p1 ∧ p1 ≤ pages + 1 ∧ c8 = true ∧ Chg [b1, b2, b3, b4, d1] w21 w', fun p1 _ _ => (pages + 1 - p1).toNat, ⟨by omega, by omega, rfl, c22⟩, ?_⟩
    rintro p1 _ w25 ⟨m1, m2, rfl, c25⟩
    have s25 := c25.size
    refine ⟨fun hle w26 c26 => ?_, fun hgt w31 c31 => ?_⟩
    · have hle' : p1 ≤ pages := of_decide_eq_true hle
      have c026 : Chg [b1, b2, b3, b4, d1] w21 w26 := c25.trans c26 (by simp)
      have s26 := c26.size
      refine ⟨fun b10 w' => b10 = true ∧ w' = w26, ?_, fun _ => ?_, fun hf => by simp at hf⟩
      · rintro _ w27 ⟨rfl, hw⟩ w30 c30
        subst w27
        rw [wr (by omega) (by omega)]
        exact ⟨⟨by omega, by omega, rfl, c026.trans c30 (fun x hx _ => by simp at hx ⊢; omega)⟩, by simp only []; omega⟩
      · refine (shadow_private (h.chg (hold c026) (by simp)) p1).mono ?_
        rintro _ w28 ⟨_, rfl, rfl, hw⟩
        subst w28
        refine ⟨_, rfl, Same.refl _ _, ?_⟩
        refine (r3_private (hr.chg (hold c026) (by simp)) hn (by omega) hp2 p1).mono ?_
        rintro _ w29 ⟨_, rfl, rfl, hw⟩
        subst w29
        exact ⟨_, rfl, Same.refl _ _, by simp, rfl⟩
    · have c031 : Chg [b1, b2, b3, b4, d1] w21 w31 := c25.trans c31 (by simp)
      refine ⟨fun b11 w' => b11 = true ∧ w' = w31, ?_, fun _ => ⟨by simp, rfl⟩, fun hf => by simp at hf⟩
      rintro _ w32 ⟨rfl, hw⟩
      subst w32
      refine ⟨fun b12 w' => b12 = true ∧ w' = w31, ?_, fun _ => ?_, fun hf => by simp at hf⟩
      · rintro _ w33 ⟨rfl, hw⟩
        subst w33
        refine ⟨fun b13 w' => b13 = true ∧ w' = w31, ?_, fun _ => ?_, fun hf => by simp at hf⟩
        · rintro _ w36 ⟨rfl, hw⟩ w38 c38 w39 c39
          subst w36
          have : Chg [b1, b2, b3, b4, d1] w21 w39 := (c031.trans c38 (fun x hx _ => by simp at hx ⊢; omega)).trans c39 (fun x hx _ => by simp at hx ⊢; omega)
          exact ⟨rfl, hold this⟩
        · refine (shadow_size (h.chg (hold c031) (by simp))).mono ?_
          rintro _ w37 ⟨_, rfl, rfl, hw⟩
          subst w37
          exact ⟨_, rfl, Same.refl _ _, by simp; omega, rfl⟩
      · refine (shadow_pages (h.chg (hold c031) (by simp))).mono ?_
        rintro _ w34 ⟨_, rfl, rfl, hw⟩
        subst w34
        refine ⟨_, rfl, Same.refl _ _, ?_⟩
        refine (r3_pages (hr.chg (hold c031) (by simp)) hn (by omega) hp2).mono ?_
        rintro _ w35 ⟨_, rfl, rfl, hw⟩
        subst w35
        exact ⟨_, rfl, Same.refl _ _, by simp, rfl⟩
  · rintro _ _ _ _ _ _ _ _ _ _ hf; exact hf.elim
end Go.Proofs.Ytkfncibmfcdokaa
