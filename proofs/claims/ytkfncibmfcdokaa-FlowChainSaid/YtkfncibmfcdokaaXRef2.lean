/- The document's flows: Keep, ahead, Put. -/
import Derived.Test.YtkfncibmfcdokaaXRef1
set_option linter.unusedVariables false
set_option linter.unusedSimpArgs false
namespace Go.Proofs.Ytkfncibmfcdokaa
open Go Go.RowKit Go.X

theorem ref_keep {w : World} {most : Int} {p4 : Option Addr} {n4 cc : Nat} {sets : List Int} (h : RowAt w 22 1 p4 n4 cc (sets.map (.int .u32))) (hn : n4 ≤ 1000000) (hne : sets ≠ []) {set : Int} (hs0 : 0 ≤ set) :
    Calls Try.prog 104 #[.agg #[.int .i64 most, .slice p4 n4 cc], .int .u32 set] w fun e w' => ∃ (r1 : Int) (r2 : Option Addr) (r2n : Nat) (r2c : Nat) (r3 : Int) (r4 : Int), e = .returned (.tuple #[.agg #[.int .i64 r1, .slice r2 r2n r2c], .int .i64 r3, .int .i64 r4]) ∧
      (r1 = most ∧ r4 = keepE most sets set ∧ RowAt w' 22 1 r2 r2n r2c ((keepS most sets set).map (.int .u32)) ∧ Chg [] w w' ∧ ∀ i ∈ rowB r2, i ∈ rowB p4 ∨ w.heap.size ≤ i) := by
  have hl : n4 = sets.length := by have := h.length; simp at this; omega
  refine ok_pomanderref02_Table_Keep _ _ _ _ _ _ _ ?_
  unfold V_pomanderref02_Table_Keep
  refine v_alloc fun b1 w1 e1 h1 c1 => ?_
  refine v_alloc fun b2 w2 e2 h2 c2 => ?_
  have l1 : b1 < w1.heap.size := lt_of_heap h1
  have l2 : b2 < w2.heap.size := lt_of_heap h2
  have s1 := c1.size
  have s2 := c2.size
  have h12 := c2.obj (by simp) h1
  have c02 := c1.trans0 c2
  have hlt := h.lt
  refine ⟨fun hb => ?_, fun hb => ?_⟩
  · have hb' : 65536 ≤ set := by simpa using hb
    refine ⟨most, p4, n4, cc, cellsAt_of h12, v_fill h2 (by rfl) (by rfl) fun w3 h3 c3 _ => ?_⟩
    have c03 : Chg [] w w3 := c02.trans c3 (fun i hi hlt => by simp at hi; omega)
    refine ⟨most, p4, n4, cc, cellsAt_of h3, rfl, by simp [keepE, hb'], ?_, c03, fun i hi => .inl hi⟩
    rw [show keepS most sets set = sets by simp [keepS, hb']]
    exact h.chg c03 (by simp)
  have hb' : ¬ 65536 ≤ set := by simpa using hb
  refine ⟨most, p4, n4, cc, cellsAt_of h12, ?_⟩
  refine (ref_has (h.chg c02 (by simp)) (by omega) set).mono ?_
  rintro _ w4 ⟨r7, rfl, hr, c4⟩
  have h14 := c4.obj (by simp) h12
  have h24 := c4.obj (by simp) h2
  have c04 := c02.trans0 c4
  refine ⟨_, rfl, fun hin => ?_, fun hnin => ?_⟩
  · have hin' : 0 ≤ r7 := by simpa using hin
    have hm : set ∈ sets := Classical.byContradiction fun hm => by rw [if_neg hm] at hr; omega
    refine ⟨most, p4, n4, cc, cellsAt_of h14, v_fill h24 (by rfl) (by rfl) fun w3 h3 c3 _ => ?_⟩
    have c03 : Chg [] w w3 := c04.trans c3 (fun i hi hlt => by simp at hi; omega)
    refine ⟨most, p4, n4, cc, cellsAt_of h3, rfl, by simp [keepE, hb', hm], ?_, c03, fun i hi => .inl hi⟩
    rw [show keepS most sets set = sets by simp [keepS, hm]]
    exact h.chg c03 (by simp)
  have hnin' : ¬ 0 ≤ r7 := by simpa using hnin
  have hm : set ∉ sets := fun hm => by rw [if_pos hm] at hr; omega
  refine ⟨p4, n4, cc, by rw [cell_of h14]; rfl, most, by rw [cell_of h14]; rfl, fun hfull => ?_, fun hroom => ?_⟩
  · have hfull' : most ≤ (n4 : Int) := by simpa using hfull
    refine ⟨most, p4, n4, cc, cellsAt_of h14, v_fill h24 (by rfl) (by rfl) fun w3 h3 c3 _ => ?_⟩
    have c03 : Chg [] w w3 := c04.trans c3 (fun i hi hlt => by simp at hi; omega)
    refine ⟨most, p4, n4, cc, cellsAt_of h3, rfl, by simp [keepE, hb', hm]; omega, ?_, c03, fun i hi => .inl hi⟩
    rw [show keepS most sets set = sets by simp [keepS]; intro h; omega]
    exact h.chg c03 (by simp)
  have hroom' : ¬ most ≤ (n4 : Int) := by simpa using hroom
  -- the row as the source of an append
  obtain ⟨x0, hx0⟩ := get_of (l := sets) (j := 0) (by cases sets with | nil => exact absurd rfl hne | cons a l => simp)
  obtain ⟨a, rfl, _⟩ := RowAt.at h (j := 0) (u := .int .u32 x0) (by rw [List.getElem?_map, hx0]; rfl)
  have h4 := h.chg c04 (by simp)
  refine ⟨some a, n4, cc, by rw [cell_of h14]; rfl, ?_⟩
  obtain ⟨p', c', w7, happ, hrow7, c7, hf7⟩ := (RowAt.nil (w := w4) (e := 22) (size := 1)).append (P := Try.prog) (t := 31) (ty := 31) (i := Try.t22) (z := .int .u32 0) (bytes := 4) (by kernel_rfl) (by kernel_rfl) (by kernel_rfl) (by kernel_rfl) (by kernel_rfl) rfl (by omega)
    (a := a) (m := n4) (mc := cc) (news := sets.map (.int .u32)) (by simpa using hl.symm) (fun j u hu => by
      obtain ⟨a', ha', hc'⟩ := RowAt.at h4 hu
      cases ha'; exact hc') (by simp [Value.oneCell']) (by simp only [maxLen]; omega) (by omega)
  rw [Nat.zero_add] at happ hrow7
  simp only [rowB, Option.toList_none, List.map_nil] at c7
  refine ⟨p', n4, c', w7, happ, ?_⟩
  refine v_alloc fun b3 w8 e3 h3 c8 => ?_
  obtain ⟨p'', c'', w9, happ2, hrow9, c9, hf9⟩ := (hrow7.chg c8 (by simp)).append (P := Try.prog) (t := 31) (ty := 31) (i := Try.t22) (z := .int .u32 0) (bytes := 4) (by kernel_rfl) (by kernel_rfl) (by kernel_rfl) (by kernel_rfl) (by kernel_rfl) rfl (by omega)
    (a := ⟨b3, 0, none⟩) (m := 1) (mc := 1) (news := [.int .u32 set]) rfl (fun i u hi => by
      cases i with
      | zero => simp at hi; subst hi; rw [add_at, cell_of h3]; rfl
      | succ i => simp at hi) (by simp [Value.oneCell']) (by simp only [maxLen]; omega) (by omega)
  refine ⟨p'', n4 + 1, c'', w9, happ2, ?_⟩
  have s4 := c4.size
  have s7 := c7.size
  have s8 := c8.size
  have s9 := c9.size
  have hf7' : ∀ i ∈ rowB p', w4.heap.size ≤ i := fun i hi => (hf7 i hi).resolve_left (by simp [rowB])
  have hf9' : ∀ i ∈ rowB p'', w4.heap.size ≤ i := fun i hi => by
    rcases hf9 i hi with h | h
    · exact hf7' i h
    · omega
  have c49 : Chg [] w4 w9 := (c7.trans0 c8).trans c9 (fun i hi hlt => by have := hf7' i hi; omega)
  have h19 := c49.obj (by simp) h14
  have h29 := c49.obj (by simp) h24
  have c09 := c04.trans0 c49
  refine v_set0 (v := .slice p'' (n4 + 1) c'') h19 (by simp) fun w10 h10 c10 hs10 => ?_
  refine v_drew fun w11 c11 => ?_
  have h11 : w11.heap[b1]? = some (.cells #[.int .i64 most, .slice p'' (n4 + 1) c''] 33 (0, 0)) := c11.obj (by simp) (by simpa using h10)
  have h211 : w11.heap[b2]? = some (.cells #[.int .i64 0, .slice none 0 0] 33 (0, 0)) := c11.obj (by simp) (c10.obj (by simp; omega) h29)
  refine ⟨most, p'', n4 + 1, c'', cellsAt_of h11, p'', n4 + 1, c'', by rw [cell_of h11]; rfl, v_fill h211 (by rfl) (by rfl) fun w12 h212 c1112 _ => ?_⟩
  have c012 : Chg [] w w11 := (c09.trans c10 (fun i hi hlt => by simp at hi; omega)).trans0 c11
  have c12 : Chg [] w w12 := c012.trans c1112 (fun i hi hlt => by simp at hi; omega)
  have h112 := c1112.obj (by simp; omega) h11
  refine ⟨⟨cellsAt_of h112, by rw [cell_of h112]; rfl, trivial⟩, most, p'', n4 + 1, c'', cellsAt_of h212, rfl, by simp [keepE, hb', hm]; omega, ?_, c12, fun i hi => .inr (by have := hf9' i hi; omega)⟩
  have hS : keepS most sets set = sets ++ [set] := by unfold keepS; rw [if_neg (fun h => h.elim hb' fun h => h.elim hm fun h => hroom' (by omega))]
  rw [hS, List.map_append]
  have := ((hrow9.chg c10 (fun i hi hmm => by simp at hmm; have := hf9' i hi; omega)).chg c11 (by simp)).chg c1112 (fun i hi hmm => by simp at hmm; have := hf9' i hi; omega)
  simpa using this

/-- Which place is ahead. -/
def aheadP (a b : Int × Int) : Prop := a.1 < b.1 ∨ a.1 = b.1 ∧ a.2 < b.2
instance (a b : Int × Int) : Decidable (aheadP a b) := by unfold aheadP; exact inferInstance
theorem ref_ahead {w : World} (a1 a2 b1 b2 : Int) :
    Calls Try.prog 125 #[.agg #[.int .i64 a1, .int .i64 a2], .agg #[.int .i64 b1, .int .i64 b2]] w fun e w' => ∃ r : Bool, e = .returned (.bool r) ∧ (r = decide (aheadP (a1, a2) (b1, b2)) ∧ Chg [] w w') := by
  refine ok_pomanderref12_ahead _ _ _ _ _ _ ?_
  unfold V_pomanderref12_ahead
  refine v_alloc fun x1 w1 e1 h1 c1 => ?_
  refine v_alloc fun x2 w2 e2 h2 c2 => ?_
  have h12 := c2.obj (by simp) h1
  have c02 := c1.trans0 c2
  refine ⟨a1, by rw [cell_of h12]; rfl, b1, by rw [cell_of h2]; rfl, _, fun b w h => h, fun hb => ?_, fun hb => ?_⟩
  · have hb' : ¬ a1 < b1 := by simpa using hb
    refine ⟨a1, by rw [cell_of h12]; rfl, b1, by rw [cell_of h2]; rfl, _, fun b w h => h, fun he => ?_, fun he => ?_⟩
    · have he' : a1 = b1 := by simpa using he
      refine ⟨a2, by rw [cell_of h12]; rfl, b2, by rw [cell_of h2]; rfl, ?_, c02⟩
      exact decide_eq_decide.2 (by unfold aheadP; simp only []; omega)
    · have he' : a1 ≠ b1 := by simpa using he
      refine ⟨?_, c02⟩
      symm; rw [decide_eq_false_iff_not]; unfold aheadP; simp only []; omega
  · have hb' : a1 < b1 := by simpa using hb
    refine ⟨?_, c02⟩
    symm; rw [decide_eq_true_eq]; exact .inl hb'

def stepPut (p : Int × Int) (set : Int) (s : List Pr × Bool) (x : Pr) : List Pr × Bool :=
  let s1 := if !s.2 && decide (aheadP p x.1) then (s.1 ++ [(p, set)], true) else s
  let o2 := if x.1 = p then s1.1 else s1.1 ++ [x]
  if x.1 = p ∧ s1.2 = false then (o2 ++ [(p, set)], true) else (o2, s1.2)
def foldPut (p : Int × Int) (set : Int) (l : List Pr) : List Pr × Bool := l.foldl (stepPut p set) ([], set == 0)
def refPut (p : Int × Int) (set : Int) (l : List Pr) : List Pr := let s := foldPut p set l; if s.2 then s.1 else s.1 ++ [(p, set)]
theorem foldPut_snoc (p : Int × Int) (set : Int) (l : List Pr) (x : Pr) : foldPut p set (l ++ [x]) = stepPut p set (foldPut p set l) x := by simp [foldPut]
theorem stepPut_length (p : Int × Int) (set : Int) (s : List Pr × Bool) (x : Pr) : (stepPut p set s x).1.length ≤ s.1.length + 2 := by
  unfold stepPut
  simp only []
  split <;> split <;> split <;> simp_all
theorem foldPut_length (p : Int × Int) (set : Int) (l : List Pr) : (foldPut p set l).1.length ≤ 2 * l.length := by
  unfold foldPut
  have : ∀ (l : List Pr) (s : List Pr × Bool), (l.foldl (stepPut p set) s).1.length ≤ s.1.length + 2 * l.length := by
    intro l
    induction l with
    | nil => intro s; simp
    | cons x l ih => intro s; simp only [List.foldl_cons, List.length_cons]; have := ih (stepPut p set s x); have := stepPut_length p set s x; omega
  have := this l ([], set == 0)
  simpa using this
end Go.Proofs.Ytkfncibmfcdokaa
