/- The document's shadow (pomanderref03): a list of sets. -/
import Derived.Test.YtkfncibmfcdokaaXShadow2
import Derived.Test.YtkfncibmfcdokaaXG7
import Derived.Laws.OwnMore
set_option linter.unusedVariables false
set_option linter.unusedSimpArgs false
namespace Go.Proofs.Ytkfncibmfcdokaa
open Go Go.RowKit Go.X

def row03 (g : Int → Int) (k : Nat) : List Value := (List.range k).map fun i : Nat => Value.int .u32 (g i)
theorem row03_get (g : Int → Int) {k i : Nat} (h : i < k) : (row03 g k)[i]? = some (.int .u32 (g i)) := by simp [row03, h]
theorem row03_len (g : Int → Int) (k : Nat) : (row03 g k).length = k := by simp [row03]
theorem row03_ext {g g' : Int → Int} {k : Nat} (h : ∀ i : Nat, i < k → g i = g' i) : row03 g k = row03 g' k := List.map_congr_left fun i hi => by rw [h i (List.mem_range.1 hi)]
theorem row03_set {g g' : Int → Int} {k i : Nat} {v : Int} (hi : i < k) (h : ∀ j : Nat, j < k → g' j = if j = i then v else g j) : (row03 g k).set i (.int .u32 v) = row03 g' k := by
  apply List.ext_getElem?
  intro j
  rw [List.getElem?_set]
  by_cases hj : j < k
  · rw [row03_get g' hj, h j hj, row03_len]
    by_cases e : i = j
    · subst e; simp [hi]
    · simp [e, Ne.symm e, row03_get g hj]
  · rw [List.getElem?_eq_none (by rw [row03_len]; omega), List.getElem?_eq_none (by rw [row03_len]; omega)]
    by_cases e : i = j
    · omega
    · simp [e]

theorem wru' {n : Int} (h1 : 0 ≤ n) (h2 : n < 4294967296) : IntKind.wrap .u32 n = n := by rw [IntKind.wrap_u32']; omega
theorem mod_succ' (x j : Nat) : x % 2 ^ (j + 1) = x % 2 ^ j + 2 ^ j * (x.testBit j).toNat := by
  rw [Nat.testBit_eq_decide_div_mod_eq, Nat.pow_succ, Nat.mod_mul]
  by_cases hb : x / 2 ^ j % 2 = 1
  · simp [hb]
  · have hb0 : x / 2 ^ j % 2 = 0 := by omega
    simp [hb0]
theorem row_put {w : World} {e : TypeId} {p : Option Addr} {n c : Nat} {xs : List Value} (h : RowAt w e 1 p n c xs) {i : Int} (h0 : 0 ≤ i) (h1 : i < n) {v : Value} {K : World → Prop}
    (hk : ∀ w', RowAt w' e 1 p n c (xs.set i.toNat v) → Chg (rowB p) w w' → w'.heap.size = w.heap.size → K w') :
    ∃ a, p = some a ∧ 0 ≤ i ∧ i < (n : Int) ∧ (∃ o : Value, w.cell? (a.add (Int.toNat i * 1)) = some o) ∧ w.frozen? (a.add (Int.toNat i * 1)) = false ∧ ∀ w', w' = World.setCell w (a.add (Int.toNat i * 1)) v → K w' := by
  have hlt : i.toNat < xs.length := by rw [h.length]; omega
  obtain ⟨a, rfl, hc⟩ := RowAt.at h (List.getElem?_eq_getElem hlt)
  have ha : ∃ g, a = ⟨g, 0, none⟩ := by
    rcases h.2 with ⟨hv, _⟩ | ⟨g, cap, cur, hv, _⟩
    · cases hv
    · cases hv; exact ⟨g, rfl⟩
  obtain ⟨g, rfl⟩ := ha
  rw [Nat.mul_one]
  refine ⟨_, rfl, h0, h1, ⟨_, hc⟩, by rw [add_at, Nat.zero_add]; exact World.ownsRow.frozenAt h _, ?_⟩
  rintro w' rfl
  rw [add_at, Nat.zero_add]
  obtain ⟨k1, k2⟩ := World.ownsRow.stored h i.toNat v
  exact hk _ k1 (by simpa [rowB] using Chg.setCell w ⟨g, i.toNat, none⟩ v) (by simp [World.setCell])

section
variable {w : World} {p : Option Addr} {n c : Nat} {g : Int → Int} {pages : Int}
theorem row_cell (h : RowAt w 22 1 p n c (row03 g n)) {i : Int} (h0 : 0 ≤ i) (h1 : i < n) : ∃ a, p = some a ∧ 0 ≤ i ∧ i < (n : Int) ∧ ∃ t : Int, w.cell? (a.add (Int.toNat i * 1)) = some (.int .u32 t) ∧ t = g i := by
  obtain ⟨a, rfl, hc⟩ := RowAt.at h (row03_get g (i := i.toNat) (k := n) (by omega))
  exact ⟨a, rfl, h0, h1, _, by rw [Nat.mul_one]; exact hc, by rw [Int.toNat_of_nonneg h0]⟩

theorem r3_get (h : RowAt w 22 1 p n c (row03 g n)) (at1 : Int) : Calls Try.prog 43 #[.slice p n c, .int .i64 at1] w fun e w' => ∃ (r1 : Int) (r2 : Int), e = .returned (.tuple #[.int .u32 r1, .int .i64 r2]) ∧
    (w' = w ∧ if 0 ≤ at1 ∧ at1 < n then r1 = g at1 ∧ r2 = 0 else r1 = 0 ∧ r2 = 4) := by
  refine go_pomanderref03_Get _ _ _ _ _ _ ?_
  unfold W_pomanderref03_Get
  refine ⟨fun hb => ?_, fun hb => ?_⟩
  · simp at hb
    rw [if_neg (by omega)]; exact ⟨rfl, rfl, rfl⟩
  · simp at hb
    obtain ⟨a, rfl, i0, i1, t, ht, rfl⟩ := row_cell h (i := at1) (by omega) (by omega)
    exact ⟨a, rfl, i0, i1, _, ht, rfl, by rw [if_pos (by omega)]; exact ⟨rfl, rfl⟩⟩

theorem r3_inside {at1 m : Int} (ha : -9223372036854775808 ≤ at1 ∧ at1 ≤ 9223372036854775807) (hn : (n : Int) = 64 * pages) (h1 : 0 ≤ pages) (h2 : pages ≤ 32) :
    Calls Try.prog 88 #[.slice p n c, .int .i64 at1, .int .i64 m] w fun e w' => ∃ r : Bool, e = .returned (.bool r) ∧ (r = decide (inShadow pages at1 m) ∧ w' = w) := by
  refine go_pomanderref03_inside _ _ _ _ _ _ _ ?_
  unfold W_pomanderref03_inside
  refine ⟨?_, rfl⟩
  unfold inShadow
  by_cases h : 0 ≤ at1 ∧ at1 ≤ (n : Int)
  · rw [wr (by omega) (by omega), hn]
    simp only [← Bool.decide_and]
    exact decide_eq_decide.2 (by constructor <;> intro h' <;> omega)
  · have e1 : decide (0 ≤ at1 ∧ 0 ≤ m ∧ at1 ≤ 64 * pages ∧ m ≤ 64 * pages - at1) = false := by simp only [decide_eq_false_iff_not]; omega
    have e2 : ((decide (at1 ≥ 0) && decide (m ≥ 0)) && decide (at1 ≤ (n : Int))) = false := by
      simp only [← Bool.decide_and, decide_eq_false_iff_not]; omega
    rw [e1, e2]; rfl

theorem r3_new (w : World) (pages : Int) : Calls Try.prog 58 #[.int .i64 pages] w fun e w' => ∃ (p : Option Addr) (n c : Nat), e = .returned (.slice p n c) ∧
    (Chg [] w w' ∧ if 1 ≤ pages ∧ pages ≤ 32 then (n : Int) = 64 * pages ∧ RowAt w' 22 1 p n c (row03 (fun _ => 0) n) ∧ ∀ b ∈ rowB p, w.heap.size ≤ b else p = none ∧ n = 0 ∧ c = 0) := by
  refine go_pomanderref03_New _ _ _ ?_
  unfold W_pomanderref03_New
  refine ⟨fun hb => ?_, fun hb => ?_⟩
  · simp at hb
    rw [if_neg (by omega)]; exact ⟨Chg.refl _ _, rfl, rfl, rfl⟩
  · simp at hb
    rw [wr (by omega) (by omega)]
    obtain ⟨w1, h1, h2, h3⟩ := run_makeSlice_full (P := Try.prog) w 0 31 22 Try.t22 (.int .u32 0) 1 (by kernel_rfl) (by kernel_rfl) (by kernel_rfl) (by kernel_rfl) .i64 .i64 (64 * pages).toNat (by omega) (by rw [show Try.t22.bytes = 4 by kernel_rfl]; omega) (by simp only [maxLen]; omega) (Nat.zero_le _)
    rw [Int.toNat_of_nonneg (by omega)] at h1
    refine ⟨_, _, _, w1, h1, ⟨h3.os, h3.tape, h3.output, h3.size, fun k hk _ => h3.block k hk (by simp)⟩, ?_⟩
    rw [if_pos (by omega)]
    refine ⟨by omega, ?_, by simp [rowB]⟩
    have e : (madeCells (Value.int .u32 0).cells ((64 * pages).toNat * 1)).toList = row03 (fun _ => 0) (64 * pages).toNat := by
      rw [show (Value.int .u32 0).cells = #[Value.int .u32 0] from rfl, toList_madeCells_one, Nat.mul_one]
      apply List.ext_getElem?
      intro j
      by_cases hj : j < (64 * pages).toNat
      · simp [row03, hj]
      · simp [row03, hj]
    rw [e] at h2; exact h2

theorem r3_join {a b : Int} (ha0 : 0 ≤ a) (ha1 : a < 65536) (hb0 : 0 ≤ b) (hb1 : b < 65536) :
    Calls Try.prog 89 #[.int .u32 a, .int .u32 b] w fun e w' => ∃ r : Int, e = .returned (.int .u32 r) ∧ (r = bits .or .u32 a b ∧ w' = w) := by
  refine go_pomanderref03_Join _ _ _ _ ?_
  unfold W_pomanderref03_Join
  have hx : a.toNat ||| b.toNat < 2 ^ 16 := Nat.or_lt_two_pow (by omega) (by omega)
  generalize hX : a.toNat ||| b.toNat = X at hx
  have hR : bits .or .u32 a b = (X : Int) := by rw [u32_or a b ha0 (by omega) hb0 (by omega), hX]
  have hbit : ∀ j, X.testBit j = (a.toNat.testBit j || b.toNat.testBit j) := fun j => by rw [← hX, Nat.testBit_or]
  have hdiv : ∀ (x : Int) (j : Nat), 0 ≤ x → x < 65536 → (Int.tmod (IntKind.wrap .u32 (Int.tdiv x ((2 ^ j : Nat) : Int))) 2 == 1) = x.toNat.testBit j := fun x j h0 h1 => by
    have e1 : Int.tdiv x ((2 ^ j : Nat) : Int) = ((x.toNat / 2 ^ j : Nat) : Int) := by
      rw [Int.tdiv_eq_ediv_of_nonneg h0]
      conv => lhs; rw [← Int.toNat_of_nonneg h0]
      exact (Int.natCast_ediv _ _).symm
    have e2 : x.toNat / 2 ^ j ≤ x.toNat := Nat.div_le_self _ _
    rw [e1, Nat.testBit_eq_decide_div_mod_eq]
    generalize x.toNat / 2 ^ j = y at e2
    rw [wru' (by omega) (by omega), Int.tmod_eq_emod_of_nonneg (by omega)]
    by_cases h : y % 2 = 1
    · simp only [h, decide_true, beq_iff_eq]; omega
    · simp only [h, decide_false, beq_eq_false_iff_ne, ne_eq]; omega
  refine ⟨fun out p w' => ∃ j : Nat, j ≤ 16 ∧ out = ((X % 2 ^ j : Nat) : Int) ∧ p = ((2 ^ j : Nat) : Int) ∧ w' = w, fun _ p _ => 131072 - p.toNat, ⟨0, by omega, by simp [Nat.mod_one], rfl, rfl⟩, ?_⟩
  rintro _ _ w1 ⟨j, hj, rfl, rfl, hw⟩
  subst w1
  have hp : 2 ^ j ≤ 2 ^ 16 := Nat.pow_le_pow_right (by omega) hj
  have hp0 : 0 < 2 ^ j := Nat.two_pow_pos j
  have hm : X % 2 ^ (j + 1) ≤ X := Nat.mod_le _ _
  refine ⟨fun hlt => ?_, fun hge => ?_⟩
  · have hlt0 : 2 ^ j ≤ 32768 := by have := of_decide_eq_true hlt; omega
    have hlt' : j < 16 := by
      rcases Nat.lt_or_ge j 16 with h | h
      · exact h
      · obtain rfl : j = 16 := by omega
        omega
    have hm' := mod_succ' X j
    refine ⟨fun out w' => out = ((X % 2 ^ (j + 1) : Nat) : Int) ∧ w' = w, ?_, by omega, fun b2 w' => b2 = X.testBit j ∧ w' = w, ?_, fun hA => ⟨by omega, ?_, rfl⟩, fun hA => ⟨?_, rfl⟩⟩
    · rintro _ w2 ⟨rfl, hw⟩
      subst w2
      have e2 : IntKind.wrap .u32 (((2 ^ j : Nat) : Int) * 2) = ((2 ^ (j + 1) : Nat) : Int) := by rw [wru' (by omega) (by omega), Nat.pow_succ]; omega
      rw [e2]
      refine ⟨⟨j + 1, by omega, rfl, rfl, rfl⟩, ?_⟩
      simp only [Int.toNat_natCast, Nat.pow_succ]
      omega
    · rintro b2 w4 ⟨rfl, hw⟩
      subst w4
      refine ⟨fun ht => ⟨?_, rfl⟩, fun hf => ⟨?_, rfl⟩⟩
      · rw [ht] at hm'
        simp at hm'
        rw [wru' (by omega) (by omega), hm']; omega
      · rw [hf] at hm'
        simp at hm'
        rw [hm']
    · rw [hdiv a j ha0 ha1] at hA
      rw [hdiv b j hb0 hb1, hbit, hA]; rfl
    · rw [hdiv a j ha0 ha1] at hA
      rw [hbit, hA]; rfl
  · have hge0 : ¬ 2 ^ j ≤ 32768 := by have := of_decide_eq_false hge; omega
    have : j = 16 := by
      rcases Nat.lt_or_ge j 16 with h | h
      · have : 2 ^ j ≤ 2 ^ 15 := Nat.pow_le_pow_right (by omega) (by omega)
        omega
      · omega
    subst this
    exact ⟨by rw [hR, Nat.mod_eq_of_lt hx], rfl⟩

theorem unionG_lt {g : Int → Int} (hg : ∀ i, 0 ≤ g i ∧ g i < 65536) (at1 : Int) (m : Nat) : 0 ≤ unionG g at1 m ∧ unionG g at1 m < 65536 := by
  induction m with
  | zero => simp [unionG]
  | succ m ih =>
    unfold unionG
    have := hg (at1 + m)
    rw [u32_or _ _ ih.1 (by omega) this.1 (by omega)]
    have : (unionG g at1 m).toNat ||| (g (at1 + m)).toNat < 2 ^ 16 := Nat.or_lt_two_pow (by omega) (by omega)
    omega

theorem r3_union (h : RowAt w 22 1 p n c (row03 g n)) (hg : ∀ i, 0 ≤ g i ∧ g i < 65536) {at1 m : Int} (ha : -9223372036854775808 ≤ at1 ∧ at1 ≤ 9223372036854775807) (hn : (n : Int) = 64 * pages) (h1 : 0 ≤ pages) (h2 : pages ≤ 32) :
    Calls Try.prog 47 #[.slice p n c, .int .i64 at1, .int .i64 m] w fun e w' => ∃ (r1 : Int) (r2 : Int), e = .returned (.tuple #[.int .u32 r1, .int .i64 r2]) ∧
      (w' = w ∧ if inShadow pages at1 m then r1 = unionG g at1 m.toNat ∧ r2 = 0 else r1 = 0 ∧ r2 = 4) := by
  refine go_pomanderref03_Union _ _ _ _ _ _ _ ?_
  unfold W_pomanderref03_Union
  refine (r3_inside ha hn h1 h2).mono ?_
  rintro _ w1 ⟨_, rfl, rfl, hw⟩
  subst w1
  refine ⟨_, rfl, fun hb => ?_, fun hb => ?_⟩
  · have hb' : ¬ inShadow pages at1 m := by simpa using hb
    exact ⟨rfl, by rw [if_neg hb']; exact ⟨rfl, rfl⟩⟩
  · have hb' : inShadow pages at1 m := by simpa using hb
    have hb'' := hb'
    obtain ⟨k1, k2, k3, k4⟩ := hb'
    refine ⟨fun out i w' => ∃ j : Nat, i = at1 + j ∧ (j : Int) ≤ m ∧ out = unionG g at1 j ∧ w' = w, fun _ i _ => (at1 + m - i).toNat, ⟨0, by simp, by omega, rfl, rfl⟩, ?_⟩
    rintro _ _ w1 ⟨j, rfl, hj, rfl, hw⟩
    subst w1
    rw [wr (n := at1 + m) (by omega) (by omega)]
    refine ⟨fun hlt => ?_, fun hge => ?_⟩
    · have hlt' : (j : Int) < m := by simp at hlt; omega
      obtain ⟨a, rfl, i0, i1, t, ht, rfl⟩ := row_cell h (i := at1 + j) (by omega) (by omega)
      refine ⟨a, rfl, i0, i1, _, ht, ?_⟩
      have hu := unionG_lt hg at1 j
      refine (r3_join hu.1 hu.2 (hg _).1 (hg _).2).mono ?_
      rintro _ w2 ⟨_, rfl, rfl, hw⟩
      subst w2
      rw [wr (by omega) (by omega)]
      exact ⟨_, rfl, ⟨j + 1, by omega, by omega, rfl, rfl⟩, by simp only []; omega⟩
    · have : (j : Int) = m := by simp at hge; omega
      exact ⟨rfl, by rw [if_pos hb'']; exact ⟨by congr 1; omega, rfl⟩⟩

theorem many_pos_iff {s : Nat → Int} : 0 < many s ↔ ∃ i, i < 64 ∧ s i ≠ 0 := by
  constructor
  · intro h
    obtain ⟨i, hi, h⟩ := List.countP_pos_iff.1 h
    exact ⟨i, List.mem_range.1 hi, by simpa using h⟩
  · rintro ⟨i, hi, h⟩
    exact many_pos hi h

def privL (g : Int → Int) (pages page : Int) : Bool := decide (0 ≤ page ∧ page < pages ∧ 0 < many (pg g page))
theorem r3_private (h : RowAt w 22 1 p n c (row03 g n)) (hn : (n : Int) = 64 * pages) (h1 : 0 ≤ pages) (h2 : pages ≤ 32) (page : Int) :
    Calls Try.prog 84 #[.slice p n c, .int .i64 page] w fun e w' => ∃ r : Bool, e = .returned (.bool r) ∧ (r = privL g pages page ∧ w' = w) := by
  refine go_pomanderref03_Private _ _ _ _ _ _ ?_
  unfold W_pomanderref03_Private
  have e1 : IntKind.wrap .i64 (Int.tdiv (n : Int) 64) = pages := by rw [Int.tdiv_eq_ediv_of_nonneg (by omega), wr (by omega) (by omega)]; omega
  rw [e1]
  refine ⟨fun hb => ?_, fun hb => ?_⟩
  · simp at hb
    exact ⟨(decide_eq_false (by omega)).symm, rfl⟩
  · simp at hb
    rw [wr (n := 64 * page) (by omega) (by omega), wr (n := 64 * page + 64) (by omega) (by omega)]
    refine ⟨fun x i w' => x = false ∧ (∃ j : Nat, i = 64 * page + j ∧ j ≤ 64 ∧ ∀ k, k < j → pg g page k = 0) ∧ w' = w, fun _ i _ => (64 * page + 64 - i).toNat, ⟨rfl, ⟨0, by simp, by omega, by simp⟩, rfl⟩, ?_⟩
    rintro _ _ w1 ⟨rfl, ⟨j, rfl, hj, hz⟩, hw⟩
    subst w1
    refine ⟨fun hlt => ?_, fun hge => ?_⟩
    · have hlt' : j < 64 := by have := of_decide_eq_true hlt; omega
      obtain ⟨a, rfl, i0, i1, t, ht, rfl⟩ := row_cell h (i := 64 * page + j) (by omega) (by omega)
      refine ⟨a, rfl, i0, i1, _, ht, fun hne => ?_, fun he => ?_⟩
      · have hne' : pg g page j ≠ 0 := by simpa [pg] using hne
        exact ⟨(decide_eq_true ⟨by omega, by omega, many_pos hlt' hne'⟩).symm, rfl⟩
      · have he' : pg g page j = 0 := by simpa [pg] using he
        rw [wr (by omega) (by omega)]
        refine ⟨⟨rfl, ⟨j + 1, by omega, by omega, fun k hk => ?_⟩, rfl⟩, by simp only []; omega⟩
        rcases Nat.lt_or_ge k j with h | h
        · exact hz k h
        · obtain rfl : k = j := by omega
          exact he'
    · have hj' : j = 64 := by have := of_decide_eq_false hge; omega
      subst hj'
      exact ⟨(decide_eq_false (by rw [many_none hz]; omega)).symm, rfl⟩

def pagesL (g : Int → Int) (pages : Int) (k : Nat) : Nat := (List.range k).countP fun i : Nat => privL g pages i
theorem r3_pages (h : RowAt w 22 1 p n c (row03 g n)) (hn : (n : Int) = 64 * pages) (h1 : 0 ≤ pages) (h2 : pages ≤ 32) :
    Calls Try.prog 61 #[.slice p n c] w fun e w' => ∃ r : Int, e = .returned (.int .i64 r) ∧ (r = pagesL g pages pages.toNat ∧ w' = w) := by
  refine go_pomanderref03_Pages _ _ _ _ _ ?_
  unfold W_pomanderref03_Pages
  have e1 : IntKind.wrap .i64 (Int.tdiv (n : Int) 64) = pages := by rw [Int.tdiv_eq_ediv_of_nonneg (by omega), wr (by omega) (by omega)]; omega
  rw [e1]
  refine ⟨fun m i w' => ∃ j : Nat, i = j ∧ (j : Int) ≤ pages ∧ m = pagesL g pages j ∧ w' = w, fun _ i _ => (pages - i).toNat, ⟨0, rfl, by omega, rfl, rfl⟩, ?_⟩
  rintro _ _ w1 ⟨j, rfl, hj, rfl, hw⟩
  subst w1
  have hle : pagesL g pages j ≤ j := by
    have := List.countP_le_length (p := fun i : Nat => privL g pages i) (l := List.range j)
    simpa [pagesL] using this
  have hs : pagesL g pages (j + 1) = pagesL g pages j + if privL g pages j then 1 else 0 := by
    unfold pagesL
    rw [List.range_succ, List.countP_append]
    simp [List.countP_cons]
  refine ⟨fun hlt => ?_, fun hge => ?_⟩
  · have hlt' : (j : Int) < pages := of_decide_eq_true hlt
    refine ⟨fun m w' => m = (pagesL g pages (j + 1) : Int) ∧ w' = w, ?_, ?_⟩
    · rintro _ w2 ⟨rfl, hw⟩
      subst w2
      rw [wr (by omega) (by omega)]
      exact ⟨⟨j + 1, by omega, by omega, rfl, rfl⟩, by simp only []; omega⟩
    · refine (r3_private h hn h1 h2 j).mono ?_
      rintro _ w2 ⟨_, rfl, rfl, hw⟩
      subst w2
      refine ⟨_, rfl, fun ht => ⟨?_, rfl⟩, fun hf => ⟨?_, rfl⟩⟩
      · rw [hs, ht, wr (by omega) (by omega)]; simp
      · rw [hs, hf]; simp
  · have : (j : Int) = pages := by have := of_decide_eq_false hge; omega
    exact ⟨by congr 1; congr 1; omega, rfl⟩

theorem r3_same {p' : Option Addr} {n' c' : Nat} {g' : Int → Int} (h : RowAt w 22 1 p n c (row03 g n)) (h' : RowAt w 22 1 p' n' c' (row03 g' n')) (hn : n ≤ 1000000) :
    Calls Try.prog 60 #[.slice p n c, .slice p' n' c'] w fun e w' => ∃ r : Bool, e = .returned (.bool r) ∧ (r = decide (n = n' ∧ ∀ i : Nat, i < n → g i = g' i) ∧ Chg [] w w') := by
  refine go_pomanderref03_Same _ _ _ _ _ _ _ _ ?_
  unfold W_pomanderref03_Same
  refine ⟨fun hb => ?_, fun hb => ?_⟩
  · have hne : ¬ n = n' := by simp at hb; omega
    exact ⟨(decide_eq_false fun h => hne h.1).symm, Chg.refl _ _⟩
  · have hne : n = n' := by simp at hb; omega
    subst hne
    refine ⟨fun x i w' => x = false ∧ (∃ j : Nat, i = j ∧ j ≤ n ∧ ∀ k : Nat, k < j → g k = g' k) ∧ Chg [] w w', fun _ i _ => n - i.toNat, ⟨rfl, ⟨0, rfl, by omega, by simp⟩, Chg.refl _ _⟩, ?_⟩
    rintro _ _ w1 ⟨rfl, ⟨j, rfl, hj, hz⟩, c1⟩
    refine ⟨fun hlt => ?_, fun hge => ?_⟩
    · have hlt' : j < n := by have := of_decide_eq_true hlt; omega
      obtain ⟨a, rfl, i0, i1, _⟩ := row_cell h (i := (j : Int)) (by omega) (by omega)
      refine ⟨a, rfl, i0, i1, fun w2 c2 => ?_⟩
      have c02 := c1.trans0 c2
      obtain ⟨a', e, _, _, t, ht, rfl⟩ := row_cell (h.chg c02 (by simp)) (i := (j : Int)) (by omega) (by omega)
      cases e
      obtain ⟨a', rfl, _, _, t', ht', rfl⟩ := row_cell (h'.chg c02 (by simp)) (i := (j : Int)) (by omega) (by omega)
      refine ⟨_, ht, a', rfl, i0, i1, _, ht', fun hne => ?_, fun he => ?_⟩
      · exact ⟨(decide_eq_false fun h => by simp [h.2 j hlt'] at hne).symm, c02⟩
      · have he' : g j = g' j := by simpa using he
        rw [wr (by omega) (by omega)]
        refine ⟨⟨rfl, ⟨j + 1, by omega, by omega, fun k hk => ?_⟩, c02⟩, by simp only []; omega⟩
        rcases Nat.lt_or_ge k j with h | h
        · exact hz k h
        · obtain rfl : k = j := by omega
          exact he'
    · have : j = n := by have := of_decide_eq_false hge; omega
      subst this
      exact ⟨(decide_eq_true ⟨rfl, hz⟩).symm, c1⟩

theorem r3_fill (h : RowAt w 22 1 p n c (row03 g n)) {at1 m set : Int} (ha : -9223372036854775808 ≤ at1 ∧ at1 ≤ 9223372036854775807) (hn : (n : Int) = 64 * pages) (h1 : 1 ≤ pages) (h2 : pages ≤ 32) :
    Calls Try.prog 48 #[.slice p n c, .int .i64 at1, .int .i64 m, .int .u32 set] w fun e w' => ∃ (r1 : Option Addr) (r1n : Nat) (r1c : Nat) (r2 : Int), e = .returned (.tuple #[.slice r1 r1n r1c, .int .i64 r2]) ∧
      (Chg [] w w' ∧ r1n = n ∧ (∀ b ∈ rowB r1, b ∈ rowB p ∨ w.heap.size ≤ b) ∧ if 65536 ≤ set then r2 = 2 ∧ RowAt w' 22 1 r1 r1n r1c (row03 g n) else if inShadow pages at1 m then r2 = 0 ∧ RowAt w' 22 1 r1 r1n r1c (row03 (fillG g at1 set m.toNat) n) else r2 = 4 ∧ RowAt w' 22 1 r1 r1n r1c (row03 g n)) := by
  refine go_pomanderref03_Fill _ _ _ _ _ _ _ _ ?_
  unfold W_pomanderref03_Fill
  refine ⟨fun hb => ?_, fun hb => ?_⟩
  · have hb' : 65536 ≤ set := of_decide_eq_true hb
    exact ⟨Chg.refl _ _, rfl, fun b hb => .inl hb, by rw [if_pos hb']; exact ⟨rfl, h⟩⟩
  have hb' : ¬ 65536 ≤ set := of_decide_eq_false hb
  refine (r3_inside ha hn (by omega) h2).mono ?_
  rintro _ w1 ⟨_, rfl, rfl, hw⟩
  subst w1
  refine ⟨_, rfl, fun hb => ?_, fun hb => ?_⟩
  · have hi : ¬ inShadow pages at1 m := by simpa using hb
    exact ⟨Chg.refl _ _, rfl, fun b hb => .inl hb, by rw [if_neg hb', if_neg hi]; exact ⟨rfl, h⟩⟩
  have hi : inShadow pages at1 m := by simpa using hb
  have hi' := hi
  obtain ⟨k1, k2, k3, k4⟩ := hi'
  refine v_alloc fun b1 w1 e1 hb1 c1 => ?_
  have h0 : RowAt w1 22 1 (some ⟨b1, 0, none⟩) 0 0 [] := RowAt.of_heap (n := 0) (cs := []) hb1 rfl (Nat.zero_le _)
  obtain ⟨a, rfl, _⟩ := row_cell h (i := 0) (by omega) (by omega)
  obtain ⟨p', c', w2, happ, hrow, hc, hf⟩ := h0.append (P := Try.prog) (t := 31) (ty := 31) (i := _) (z := .int .u32 0) (bytes := 4) (by kernel_rfl) (show Try.prog.info? 22 = some Try.t22 by kernel_rfl) (by kernel_rfl) (by kernel_rfl) (by kernel_rfl) rfl (by omega)
    (a := a) (m := n) (mc := c) (news := row03 g n) (by rw [row03_len]; omega) (fun i u hi => by
      obtain ⟨a', ea, hc⟩ := (h.chg c1 (by simp)).at hi
      obtain rfl : a = a' := by simpa using ea
      exact hc) (fun u hu => by obtain ⟨x, _, rfl⟩ := List.mem_map.1 hu; rfl) (by simp only [maxLen]; omega) (by omega)
  rw [Nat.zero_add, List.nil_append] at *
  have c02 : Chg [] w w2 := c1.trans hc (fun i hi hlt => by simp [rowB] at hi; omega)
  have hf' : ∀ b ∈ rowB p', w.heap.size ≤ b := fun b hb => by
    have s1 := c1.size
    rcases hf b hb with h | h
    · simp [rowB] at h; omega
    · omega
  refine ⟨p', n, c', w2, happ, fun i w' => ∃ j : Nat, i = at1 + j ∧ (j : Int) ≤ m ∧ RowAt w' 22 1 p' n c' (row03 (fillG g at1 set j) n) ∧ Chg [] w w', fun i _ => (at1 + m - i).toNat, ⟨0, by simp, by omega, hrow, c02⟩, ?_⟩
  rintro _ w3 ⟨j, rfl, hj, hr3, c3⟩
  rw [wr (n := at1 + m) (by omega) (by omega)]
  refine ⟨fun hlt => ?_, fun hge => ?_⟩
  · have hlt' : (j : Int) < m := by have := of_decide_eq_true hlt; omega
    refine row_put hr3 (i := at1 + j) (by omega) (by omega) fun w4 hr4 c4 s4 => ?_
    rw [wr (by omega) (by omega)]
    refine ⟨⟨j + 1, by omega, by omega, ?_, c3.trans c4 (fun i hi hlt => by have := hf' i hi; omega)⟩, by simp only []; omega⟩
    rw [row03_set (g' := fillG g at1 set (j + 1)) (by omega) (fun k hk => ?_)] at hr4
    · exact hr4
    · show putG (fillG g at1 set j) (at1 + j) set k = _
      unfold putG
      by_cases e : (k : Int) = at1 + j
      · rw [if_pos e, if_pos (by omega)]
      · rw [if_neg e, if_neg (by omega)]
  · have : (j : Int) = m := by have := of_decide_eq_false hge; omega
    obtain rfl : j = m.toNat := by omega
    exact ⟨c3, rfl, fun b hb => .inr (hf' b hb), by rw [if_neg hb', if_pos hi]; exact ⟨rfl, hr3⟩⟩

theorem r3_set (h : RowAt w 22 1 p n c (row03 g n)) {at1 set : Int} (ha : -9223372036854775808 ≤ at1 ∧ at1 ≤ 9223372036854775807) (hn : (n : Int) = 64 * pages) (h1 : 1 ≤ pages) (h2 : pages ≤ 32) :
    Calls Try.prog 59 #[.slice p n c, .int .i64 at1, .int .u32 set] w fun e w' => ∃ (r1 : Option Addr) (r1n : Nat) (r1c : Nat) (r2 : Int), e = .returned (.tuple #[.slice r1 r1n r1c, .int .i64 r2]) ∧
      (Chg [] w w' ∧ r1n = n ∧ (∀ b ∈ rowB r1, b ∈ rowB p ∨ w.heap.size ≤ b) ∧ if 65536 ≤ set then r2 = 2 ∧ RowAt w' 22 1 r1 r1n r1c (row03 g n) else if 0 ≤ at1 ∧ at1 < 64 * pages then r2 = 0 ∧ RowAt w' 22 1 r1 r1n r1c (row03 (putG g at1 set) n) else r2 = 4 ∧ RowAt w' 22 1 r1 r1n r1c (row03 g n)) := by
  refine go_pomanderref03_Set _ _ _ _ _ _ _ ?_
  unfold W_pomanderref03_Set
  refine ⟨fun hb => ?_, fun hb => ?_⟩
  · simp at hb
    exact ⟨Chg.refl _ _, rfl, fun b hb => .inl hb, by rw [if_neg (by omega), if_neg (by omega)]; exact ⟨rfl, h⟩⟩
  · simp at hb
    refine (r3_fill h (m := 1) ha hn h1 h2).mono ?_
    rintro _ w1 ⟨r1, r1n, r1c, r2, rfl, k1, k2, k3, k4⟩
    refine ⟨_, _, _, _, rfl, k1, k2, k3, ?_⟩
    by_cases hs : 65536 ≤ set
    · rw [if_pos hs] at k4 ⊢; exact k4
    · have : inShadow pages at1 1 := ⟨by omega, by omega, by omega, by omega⟩
      rw [if_neg hs, if_pos this] at k4
      rw [if_neg hs, if_pos (by omega)]
      have e : fillG g at1 set (1 : Int).toNat = putG g at1 set := by
        show putG g (at1 + (0 : Nat)) set = _
        simp
      rw [e] at k4; exact k4
end
end Go.Proofs.Ytkfncibmfcdokaa
