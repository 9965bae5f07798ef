/- Shadows: New, through, Union, Fill, Get, Set. -/
import Derived.Test.YtkfncibmfcdokaaXShadow
import Derived.Laws.BitsAllLaws
set_option linter.unusedVariables false
set_option linter.unusedSimpArgs false
namespace Go.Proofs.Ytkfncibmfcdokaa
open Go Go.RowKit Go.X

theorem shadow_new (w : World) (pages : Int) :
    Calls Try.prog 51 #[.int .i64 pages] w fun e w' => ∃ (r1 : Option Addr) (r2 : Int), e = .returned (.tuple #[.pointer r1, .int .i64 r2]) ∧
      (Chg [] w w' ∧ if 1 ≤ pages ∧ pages ≤ 32 then r2 = 0 ∧ ∃ b fp, r1 = some ⟨b, 0, none⟩ ∧ ShadowAt w' b pages (fun _ => 0) fp ∧ ∀ i ∈ fp, w.heap.size ≤ i else r1 = none ∧ r2 = 2) := by
  refine ok_shadow_New _ _ _ ?_
  unfold V_shadow_New
  refine ⟨fun h => ?_, fun h => ?_⟩
  · simp at h
    exact ⟨Chg.refl _ _, by rw [if_neg (by omega)]; simp⟩
  simp at h
  refine v_alloc fun b1 w1 e1 h1 c1 => ?_
  refine v_alloc fun b2 w2 e2 h2 c2 => ?_
  refine ⟨c1.trans0 c2, ?_⟩
  rw [if_pos (by omega)]
  have l1 : b1 < w1.heap.size := lt_of_heap h1
  have s1 := c1.size
  have hm : MapIs w1 b1 (fun n : Int => .int .i64 n) encPg [] := ⟨#[], 0, h1, rfl, by simp, by simp, by simp⟩
  exact ⟨rfl, b2, [b2, b1], rfl, ⟨⟨b1, [], h2, hm.chg c2 (by simp), by simp, fun n _ i _ => rfl, rfl⟩, by simp; omega, by omega, by omega, by simp⟩, by simp; omega⟩

/-- Bytes at .. at + n of a shadow of so many pages. -/
def inShadow (pages at1 n : Int) : Prop := 0 ≤ at1 ∧ 0 ≤ n ∧ at1 ≤ 64 * pages ∧ n ≤ 64 * pages - at1
instance (pages at1 n : Int) : Decidable (inShadow pages at1 n) := by unfold inShadow; exact inferInstance

theorem shadow_through {w : World} {b : Nat} {pages : Int} {g : Int → Int} {fp : List Nat} (h : ShadowAt w b pages g fp) {at1 n : Int} (ha : -9223372036854775808 ≤ at1 ∧ at1 ≤ 9223372036854775807) {on : Value} (Inv : Nat → World → Prop) (hI : Inv 0 w)
    (hstep : ∀ (i : Nat) w1, inShadow pages at1 n → (i : Int) < n → Inv i w1 → CallsV Try.prog on #[.int .i64 (at1 + i)] w1 fun e w' => e = .returned (.tuple #[]) ∧ Inv (i + 1) w') :
    Calls Try.prog 85 #[.pointer (some ⟨b, 0, none⟩), .int .i64 at1, .int .i64 n, on] w fun e w' => ∃ r : Int, e = .returned (.int .i64 r) ∧
      (if inShadow pages at1 n then r = 0 ∧ Inv n.toNat w' else r = 4 ∧ w' = w) := by
  have hp1 := h.pages1
  have hp2 := h.pages2
  refine ok_shadow_Shadow_through _ _ _ _ _ _ ?_
  unfold V_shadow_Shadow_through
  refine (shadow_none h).mono ?_
  rintro _ w1 ⟨_, rfl, rfl, hw⟩
  subst w1
  refine ⟨_, rfl, fun h => by simp at h, fun _ => ?_⟩
  refine ⟨fun b1 w2 => w2 = w ∧ (b1 = false → 0 ≤ at1 ∧ 0 ≤ n ∧ at1 ≤ 64 * pages) ∧ (b1 = true → ¬ inShadow pages at1 n), ?_, fun hf => ?_, fun ht => ?_⟩
  rotate_left
  · simp only [Bool.or_eq_false_iff, decide_eq_false_iff_not] at hf
    refine (shadow_size h).mono ?_
    rintro _ w3 ⟨_, rfl, rfl, hw⟩
    subst w3
    refine ⟨_, rfl, rfl, fun hb => ?_, fun hb => ?_⟩
    · simp only [decide_eq_false_iff_not] at hb; omega
    · simp only [decide_eq_true_eq] at hb; unfold inShadow; omega
  · simp only [Bool.or_eq_true, decide_eq_true_eq] at ht
    exact ⟨rfl, fun h => by simp at h, fun _ => by unfold inShadow; omega⟩
  rintro b1 w2 ⟨hw, hb1, hb2⟩
  subst w2
  refine ⟨fun b2 w4 => w4 = w ∧ (b2 = false → inShadow pages at1 n) ∧ (b2 = true → ¬ inShadow pages at1 n), ?_, fun hf => ?_, fun ht => ?_⟩
  rotate_left
  · have := hb1 hf
    refine (shadow_size h).mono ?_
    rintro _ w3 ⟨_, rfl, rfl, hw⟩
    subst w3
    refine ⟨_, rfl, rfl, fun hb => ?_, fun hb => ?_⟩
    · rw [wr (by omega) (by omega)] at hb
      simp only [decide_eq_false_iff_not] at hb
      unfold inShadow; omega
    · rw [wr (by omega) (by omega)] at hb
      simp only [decide_eq_true_eq] at hb
      unfold inShadow; omega
  · exact ⟨rfl, fun h => by simp at h, fun _ => hb2 ht⟩
  rintro b2 w4 ⟨hw, hc1, hc2⟩
  subst w4
  refine ⟨fun ht => ?_, fun hf => ?_⟩
  · simp only [if_neg (hc2 ht)]; exact ⟨trivial, trivial⟩
  have hin := hc1 hf
  simp only [if_pos hin]
  have hin' := hin
  unfold inShadow at hin'
  refine ⟨fun s w => ∃ i : Nat, s = (i : Int) ∧ (i : Int) ≤ n ∧ Inv i w, fun s _ => (n - s).toNat, ⟨0, rfl, by omega, hI⟩, ?_⟩
  rintro _ w6 ⟨i, rfl, hi, hinv⟩
  refine ⟨fun hlt => ?_, fun hge => ?_⟩
  · simp only [decide_eq_true_eq] at hlt
    rw [wr (n := at1 + i) (by omega) (by omega)]
    have := hstep i w6 hin hlt hinv
    obtain ⟨f, cap, fn, h1, h2, h3, h4, h5⟩ := this
    refine ⟨f, cap, fn, h1, h2, h3, h4, h5.mono ?_⟩
    rintro e w7 ⟨he, hi7⟩
    rw [wr (by omega) (by omega)]
    exact ⟨he, ⟨i + 1, by omega, by omega, hi7⟩, by simp only []; omega⟩
  · simp only [decide_eq_false_iff_not] at hge
    have : n.toNat = i := by omega
    rw [this]; exact ⟨trivial, hinv⟩

/-- What n bytes at one place have together. -/
def unionG (g : Int → Int) (at1 : Int) : Nat → Int
  | 0 => 0
  | n + 1 => bits .or .u32 (unionG g at1 n) (g (at1 + n))
theorem shadow_union {w : World} {b : Nat} {pages : Int} {g : Int → Int} {fp : List Nat} (h : ShadowAt w b pages g fp) {at1 n : Int} (ha : -9223372036854775808 ≤ at1 ∧ at1 ≤ 9223372036854775807) :
    Calls Try.prog 46 #[.pointer (some ⟨b, 0, none⟩), .int .i64 at1, .int .i64 n] w fun e w' => ∃ (r1 : Int) (r2 : Int), e = .returned (.tuple #[.int .u32 r1, .int .i64 r2]) ∧
      (Chg [] w w' ∧ if inShadow pages at1 n then r1 = unionG g at1 n.toNat ∧ r2 = 0 else r1 = 0 ∧ r2 = 4) := by
  refine ok_shadow_Shadow_Union _ _ _ _ _ ?_
  unfold V_shadow_Shadow_Union
  refine v_alloc fun b1 w1 e1 h1 c1 => ?_
  refine v_alloc fun b2 w2 e2 h2 c2 => ?_
  refine v_set0 h2 (by simp) fun w3 h3 c3 hs3 => ?_
  have l1 : b1 < w1.heap.size := lt_of_heap h1
  have l2 : b2 < w2.heap.size := lt_of_heap h2
  have s1 := c1.size
  have s2 := c2.size
  have h13 := c3.obj (by simp; omega) (c2.obj (by simp) h1)
  have c03 : Chg [] w w3 := (c1.trans0 c2).trans c3 (fun i hi hlt => by simp at hi; omega)
  refine ⟨_, by rw [cell_of h13]; rfl, ?_⟩
  have hS3 := h.chg c03 (by simp)
  refine (shadow_through (n := n) hS3 ha (fun i w' => Chg [b2] w3 w' ∧ w'.heap[b2]? = some (.cells #[.int .u32 (unionG g at1 i)] 22 (0, 0))) ⟨Chg.refl _ _, by simpa [unionG] using h3⟩ ?_).mono ?_
  · rintro i w4 hin hi ⟨c4, h4⟩
    unfold inShadow at hin
    have hfp2 : ∀ j ∈ fp, j ∉ [b2] := fun j hj hm => by simp at hm; have := h.lt j hj; omega
    refine ⟨86, _, Try.f86, rfl, Try.func86, by kernel_rfl, by kernel_rfl, ?_⟩
    refine ok_shadow_Shadow_Union_1 _ _ _ _ _ ?_
    unfold V_shadow_Shadow_Union_1
    refine v_drew fun w5 c5 => ?_
    have c35 : Chg [b2] w3 w5 := c4.trans c5.nil (fun _ h _ => h)
    have h5 := c5.obj (by simp) h4
    have h15 := c35.obj (by simp; omega) h13
    refine ⟨_, by rw [cell_of h5]; rfl, _, by rw [cell_of h15]; rfl, ?_⟩
    refine (shadow_get (hS3.chg c35 hfp2) (by omega) (by omega)).mono ?_
    rintro _ w7 ⟨_, rfl, rfl, hw⟩
    subst w7
    refine ⟨_, rfl, ⟨by rw [cell_of h5]; rfl, by rw [cell_of h15]; rfl, trivial⟩, ?_⟩
    refine v_set0 h5 (by simp) fun w6 h6 c6 _ => ⟨c35.trans c6 (fun _ h _ => h), ?_⟩
    simpa [unionG] using h6
  · rintro _ w4 ⟨r, rfl, hr⟩
    refine ⟨_, rfl, ?_⟩
    by_cases hin : inShadow pages at1 n
    · rw [if_pos hin] at hr
      obtain ⟨rfl, c4, h4⟩ := hr
      refine ⟨_, by rw [cell_of h4]; rfl, c03.trans c4 (fun i hi hlt => by simp at hi; omega), ?_⟩
      rw [if_pos hin]; exact ⟨rfl, rfl⟩
    · rw [if_neg hin] at hr
      obtain ⟨rfl, rfl⟩ := hr
      refine ⟨_, by rw [cell_of h3]; rfl, c03, ?_⟩
      rw [if_neg hin]; exact ⟨rfl, rfl⟩

def fillG (g : Int → Int) (at1 : Int) (set : Int) : Nat → Int → Int
  | 0 => g
  | n + 1 => putG (fillG g at1 set n) (at1 + n) set
theorem fillG_at (g : Int → Int) (at1 set : Int) (n : Nat) (i : Int) : fillG g at1 set n i = if at1 ≤ i ∧ i < at1 + n then set else g i := by
  induction n with
  | zero => simp [fillG]; omega
  | succ n ih =>
    simp only [fillG, putG, ih]
    by_cases h1 : i = at1 + n
    · rw [if_pos h1, if_pos (by omega)]
    · rw [if_neg h1]
      by_cases h2 : at1 ≤ i ∧ i < at1 + n
      · rw [if_pos h2, if_pos (by omega)]
      · rw [if_neg h2, if_neg (by omega)]

theorem shadow_fill {w : World} {b : Nat} {pages : Int} {g : Int → Int} {fp : List Nat} (h : ShadowAt w b pages g fp) {at1 n set : Int} (ha : -9223372036854775808 ≤ at1 ∧ at1 ≤ 9223372036854775807) (hs0 : 0 ≤ set) :
    Calls Try.prog 49 #[.pointer (some ⟨b, 0, none⟩), .int .i64 at1, .int .i64 n, .int .u32 set] w fun e w' => ∃ r : Int, e = .returned (.int .i64 r) ∧
      (if 65536 ≤ set then r = 2 ∧ Chg [] w w' else if inShadow pages at1 n then r = 0 ∧ ∃ fp', ShadowAt w' b pages (fillG g at1 set n.toNat) fp' ∧ Chg fp w w' ∧ ∀ i ∈ fp', i ∈ fp ∨ w.heap.size ≤ i else r = 4 ∧ Chg [] w w') := by
  refine ok_shadow_Shadow_Fill _ _ _ _ _ _ ?_
  unfold V_shadow_Shadow_Fill
  refine v_alloc fun b1 w1 e1 h1 c1 => ?_
  refine v_alloc fun b2 w2 e2 h2 c2 => ?_
  have l1 : b1 < w1.heap.size := lt_of_heap h1
  have l2 : b2 < w2.heap.size := lt_of_heap h2
  have s1 := c1.size
  have s2 := c2.size
  have h12 := c2.obj (by simp) h1
  have c02 : Chg [] w w2 := c1.trans0 c2
  have hS2 := h.chg c02 (by simp)
  refine ⟨_, by rw [cell_of h12]; rfl, ?_⟩
  refine (shadow_none hS2).mono ?_
  rintro _ w3 ⟨_, rfl, rfl, hw⟩
  subst w3
  have hdiv : (Int.fdiv set 65536 == 0) = decide (set < 65536) := by
    rw [Int.fdiv_eq_ediv_of_nonneg _ (by omega)]
    by_cases hlt : set < 65536
    · have : set / 65536 = 0 := by omega
      simp [this, hlt]
    · have : set / 65536 ≠ 0 := by omega
      simp [this, hlt]
  refine ⟨_, rfl, fun b3 w4 => w4 = w2 ∧ b3 = decide (65536 ≤ set), ?_, fun _ => ⟨_, by rw [cell_of h2]; rfl, rfl, by rw [hdiv]; exact Bool.eq_iff_iff.2 (by simp)⟩, fun h => by simp at h⟩
  rintro b3 w4 ⟨hw, rfl⟩
  subst w4
  refine ⟨fun ht => ?_, fun hf => ?_⟩
  · simp only [decide_eq_true_eq] at ht
    simp only [if_pos ht]; exact ⟨trivial, c02⟩
  simp only [decide_eq_false_iff_not] at hf
  simp only [if_neg hf]
  refine ⟨_, by rw [cell_of h12]; rfl, ?_⟩
  have hb1 : ∀ {fp' : List Nat}, (∀ i ∈ fp', i ∈ fp ∨ w2.heap.size ≤ i) → b1 ∉ fp' ∧ b2 ∉ fp' := fun hfp => ⟨fun hm => by
      rcases hfp _ hm with h' | h'
      · have := h.lt _ h'; omega
      · omega, fun hm => by
      rcases hfp _ hm with h' | h'
      · have := h.lt _ h'; omega
      · omega⟩
  refine (shadow_through (n := n) hS2 ha (fun i w' => ∃ fp', ShadowAt w' b pages (fillG g at1 set i) fp' ∧ Chg fp w2 w' ∧ ∀ i ∈ fp', i ∈ fp ∨ w2.heap.size ≤ i) ⟨fp, hS2, Chg.refl _ _, fun i hi => .inl hi⟩ ?_).mono ?_
  · rintro i w4 hin hi ⟨fp', hS4, c4, hfp'⟩
    unfold inShadow at hin
    refine ⟨91, _, Try.f91, rfl, Try.func91, by kernel_rfl, by kernel_rfl, ?_⟩
    refine ok_shadow_Shadow_Fill_1 _ _ _ _ _ ?_
    unfold V_shadow_Shadow_Fill_1
    have hnb := hb1 (fp' := fp) (fun i hi => .inl hi)
    refine ⟨_, by rw [cell_of (c4.obj hnb.1 h12)]; rfl, _, by rw [cell_of (c4.obj hnb.2 h2)]; rfl, ?_⟩
    refine (shadow_put hS4 (by omega) (by omega) hs0 (by omega)).mono ?_
    rintro _ w5 ⟨rfl, fp'', hS5, c5, hfp''⟩
    refine ⟨rfl, fp'', hS5, ?_, fun j hj => ?_⟩
    · exact c4.trans c5 (fun j hj hlt => by
        rcases hfp' j hj with h' | h'
        · exact h'
        · omega)
    · rcases hfp'' j hj with h' | h'
      · exact hfp' j h'
      · exact .inr (Nat.le_trans c4.size h')
  · rintro _ w4 ⟨r, rfl, hr⟩
    refine ⟨_, rfl, ?_⟩
    by_cases hin : inShadow pages at1 n
    · rw [if_pos hin] at hr
      simp only [if_pos hin]
      obtain ⟨rfl, fp', hS4, c4, hfp'⟩ := hr
      refine ⟨rfl, fp', hS4, c02.nil.trans c4 (fun i hi _ => hi), fun i hi => ?_⟩
      rcases hfp' i hi with h' | h'
      · exact .inl h'
      · exact .inr (Nat.le_trans c02.size h')
    · rw [if_neg hin] at hr
      simp only [if_neg hin]
      obtain ⟨rfl, rfl⟩ := hr
      exact ⟨rfl, c02⟩
theorem or0 (x : Int) (h0 : 0 ≤ x) (h1 : x < 4294967296) : bits .or .u32 0 x = x := by
  rw [u32_or 0 x (by omega) (by omega) h0 h1]
  simp; omega
theorem shadow_getp {w : World} {b : Nat} {pages : Int} {g : Int → Int} {fp : List Nat} (h : ShadowAt w b pages g fp) {at1 : Int} (ha : -9223372036854775808 ≤ at1 ∧ at1 ≤ 9223372036854775807) :
    Calls Try.prog 42 #[.pointer (some ⟨b, 0, none⟩), .int .i64 at1] w fun e w' => ∃ (r1 : Int) (r2 : Int), e = .returned (.tuple #[.int .u32 r1, .int .i64 r2]) ∧
      (Chg [] w w' ∧ r1 = g at1 ∧ r2 = if 0 ≤ at1 ∧ at1 < 64 * pages then 0 else 4) := by
  refine ok_shadow_Shadow_Get _ _ _ _ ?_
  unfold V_shadow_Shadow_Get
  refine (shadow_union h ha).mono ?_
  rintro _ w' ⟨r1, r2, rfl, hc, hr⟩
  refine ⟨_, _, rfl, hc, ?_⟩
  by_cases hin : inShadow pages at1 1
  · rw [if_pos hin] at hr
    have hin' := hin
    unfold inShadow at hin'
    have := h.each at1
    rw [if_pos (by omega)]
    refine ⟨?_, hr.2⟩
    rw [hr.1]
    show bits .or .u32 0 (g (at1 + (0 : Nat))) = g at1
    rw [show at1 + ((0 : Nat) : Int) = at1 by omega]
    exact or0 _ this.1 (by omega)
  · rw [if_neg hin] at hr
    unfold inShadow at hin
    rw [if_neg (by omega)]
    exact ⟨by rw [hr.1]; exact (h.out (by omega)).symm, hr.2⟩
theorem shadow_setp {w : World} {b : Nat} {pages : Int} {g : Int → Int} {fp : List Nat} (h : ShadowAt w b pages g fp) {at1 set : Int} (ha : -9223372036854775808 ≤ at1 ∧ at1 ≤ 9223372036854775807) (hs0 : 0 ≤ set) :
    Calls Try.prog 52 #[.pointer (some ⟨b, 0, none⟩), .int .i64 at1, .int .u32 set] w fun e w' => ∃ r : Int, e = .returned (.int .i64 r) ∧
      (if 65536 ≤ set then r = 2 ∧ Chg [] w w' else if 0 ≤ at1 ∧ at1 < 64 * pages then r = 0 ∧ ∃ fp', ShadowAt w' b pages (putG g at1 set) fp' ∧ Chg fp w w' ∧ ∀ i ∈ fp', i ∈ fp ∨ w.heap.size ≤ i else r = 4 ∧ Chg [] w w') := by
  refine ok_shadow_Shadow_Set _ _ _ _ _ ?_
  unfold V_shadow_Shadow_Set
  refine (shadow_fill h ha hs0).mono ?_
  rintro _ w' ⟨r, rfl, hr⟩
  refine ⟨_, rfl, ?_⟩
  by_cases hs : 65536 ≤ set
  · rw [if_pos hs] at hr ⊢; exact hr
  rw [if_neg hs] at hr ⊢
  have e : inShadow pages at1 1 ↔ 0 ≤ at1 ∧ at1 < 64 * pages := by unfold inShadow; omega
  by_cases hin : inShadow pages at1 1
  · rw [if_pos hin] at hr
    rw [if_pos (e.1 hin)]
    have e1 : fillG g at1 set (1 : Int).toNat = putG g at1 set := by
      show putG g (at1 + ((0 : Nat) : Int)) set = _
      rw [show at1 + ((0 : Nat) : Int) = at1 by omega]
    rw [e1] at hr; exact hr
  · rw [if_neg hin] at hr
    rw [if_neg (fun h => hin (e.2 h))]; exact hr
end Go.Proofs.Ytkfncibmfcdokaa
