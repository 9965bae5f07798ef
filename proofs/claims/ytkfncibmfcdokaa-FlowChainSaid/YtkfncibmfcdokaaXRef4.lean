/- The document's flows: New, Mark. -/
import Derived.Test.YtkfncibmfcdokaaXRef3
set_option linter.unusedVariables false
set_option linter.unusedSimpArgs false
namespace Go.Proofs.Ytkfncibmfcdokaa
open Go Go.RowKit Go.X

def muP (s : List Pr × Bool) : Nat := s.1.length + (if s.2 then 0 else 1)
theorem stepPut_mu (p : Int × Int) (set : Int) (s : List Pr × Bool) (x : Pr) : muP (stepPut p set s x) ≤ muP s + 1 := by
  obtain ⟨o, put⟩ := s
  unfold stepPut muP
  generalize decide (aheadP p x.1) = A
  by_cases h2 : x.1 = p <;> cases put <;> cases A <;> simp [h2]
theorem refPut_length (p : Int × Int) (set : Int) (l : List Pr) : (refPut p set l).length ≤ l.length + 1 := by
  have : ∀ (l : List Pr) (s : List Pr × Bool), muP (l.foldl (stepPut p set) s) ≤ muP s + l.length := by
    intro l
    induction l with
    | nil => intro s; exact Nat.le_refl _
    | cons x l ih => intro s; simp only [List.foldl_cons, List.length_cons]; have := ih (stepPut p set s x); have := stepPut_mu p set s x; omega
  have h := this l ([], set == 0)
  have h0 : muP (([], set == 0) : List Pr × Bool) ≤ 1 := by unfold muP; simp only []; split <;> simp
  have he : (refPut p set l).length = muP (l.foldl (stepPut p set) ([], set == 0)) := by
    unfold refPut foldPut muP
    simp only []
    split <;> simp
  omega
def refFill (p : Int × Int) (set : Int) (l : List Pr) : Nat → List Pr
  | 0 => l
  | n + 1 => refPut (p.1, p.2 + n) set (refFill p set l n)
theorem refFill_length (p : Int × Int) (set : Int) (l : List Pr) (n : Nat) : (refFill p set l n).length ≤ l.length + n := by
  induction n with
  | zero => exact Nat.le_refl _
  | succ n ih => have := refPut_length (p.1, p.2 + n) set (refFill p set l n); simp only [refFill]; omega
def refMarkE (R : Rf) (p : Int × Int) (n set : Int) : Int :=
  if ¬ mayP R.fr R.se p ∨ 65536 ≤ set then 2 else if n < 0 ∨ 65536 < n ∨ (0 < n ∧ ¬ mayP R.fr R.se (p.1, p.2 + n - 1)) then 4 else keepE R.most R.sets set
def refMark (R : Rf) (p : Int × Int) (n set : Int) : Rf := if refMarkE R p n set = 0 then { R with sets := keepS R.most R.sets set, pairs := refFill p set R.pairs n.toNat } else R

theorem ref_new {w : World} (fr se most : Int) :
    Calls Try.prog 26 #[.agg #[.int .i64 fr, .int .i64 se], .int .i64 most] w fun e w' => ∃ (r1 : Int) (r2 : Int) (r3 : Int) (r4 : Option Addr) (r4n : Nat) (r4c : Nat) (r5 : Option Addr) (r5n : Nat) (r5c : Nat), e = .returned (.agg #[.int .i64 r1, .int .i64 r2, .int .i64 r3, .slice r4 r4n r4c, .slice r5 r5n r5c]) ∧
      (r1 = fr ∧ r2 = se ∧ r3 = most ∧ RefAt w' ⟨fr, se, most, [0], []⟩ r4 r4n r4c r5 r5n r5c ∧ Chg [] w w' ∧ ∀ i ∈ rowB r4 ++ rowB r5, w.heap.size ≤ i) := by
  refine ok_pomanderref12_New _ _ _ _ _ ?_
  unfold V_pomanderref12_New
  refine v_alloc fun b1 w1 e1 h1 c1 => ?_
  refine v_alloc fun b2 w2 e2 h2 c2 => ?_
  refine v_drew fun w3 c3 => ?_
  have h13 := (c2.trans0 c3).obj (by simp) h1
  have h23 := c3.obj (by simp) h2
  have l1 : b1 < w1.heap.size := lt_of_heap h1
  have l2 : b2 < w2.heap.size := lt_of_heap h2
  have s1 := c1.size
  have s2 := c2.size
  have s3 := c3.size
  refine ⟨fr, se, cellsAt_of h13, ?_⟩
  have hnew : Calls Try.prog 69 #[.int .i64 most] w3 fun e w' => ∃ (r1 : Int) (r2 : Option Addr) (r2n : Nat) (r2c : Nat), e = .returned (.agg #[.int .i64 r1, .slice r2 r2n r2c]) ∧ (r1 = most ∧ RowAt w' 22 1 r2 r2n r2c ([0].map (.int .u32)) ∧ Chg [] w3 w' ∧ ∀ i ∈ rowB r2, w3.heap.size ≤ i) := by
    refine ok_pomanderref02_New _ _ _ ?_
    unfold V_pomanderref02_New
    refine v_alloc fun x1 v1 f1 g1 d1 => ?_
    refine v_alloc fun x2 v2 f2 g2 d2 => ?_
    have := d1.size
    have := lt_of_heap g1
    have := lt_of_heap g2
    refine v_fill (d2.obj (by simp) g1) (by rfl) (by rfl) fun v3 g3 d3 _ => ?_
    refine ⟨_, _, _, _, cellsAt_of g3, rfl, ?_, (d1.trans0 d2).trans d3 (fun i hi hlt => by simp at hi; omega), by simp [rowB]; omega⟩
    exact RowAt.of_heap (cs := [.int .u32 0]) (d3.obj (by simp; omega) g2) rfl (by simp [maxLen])
  refine hnew.mono ?_
  rintro _ w4 ⟨r6, r7, r7n, r7c, rfl, rfl, hrow, c4, hf⟩
  refine ⟨_, _, _, _, rfl, ⟨cellsAt_of (c4.obj (by simp) h13), trivial⟩, ?_⟩
  have s4 := c4.size
  refine v_fill (c4.obj (by simp) h23) (by rfl) (by rfl) fun w5 h5 c5 _ => ?_
  have c05 : Chg [] w w5 := (((c1.trans0 c2).trans0 c3).trans0 c4).trans c5 (fun i hi hlt => by simp at hi; omega)
  refine ⟨_, _, _, _, _, _, _, _, _, cellsAt_of h5, rfl, rfl, rfl, ⟨hrow.chg c5 (fun i hi hm => by have := hf i hi; simp at hm; omega), RowAt.nil⟩, c05, fun i hi => ?_⟩
  simp [rowB] at hi
  have := hf i (by simpa [rowB] using hi)
  omega

theorem ref_mark {w : World} {R : Rf} {p4 p5 : Option Addr} {n4 c4 n5 c5 : Nat} (h : RefAt w R p4 n4 c4 p5 n5 c5) (hn4 : n4 ≤ 1000000) (hn5 : n5 ≤ 90000000) (hne : R.sets ≠ []) (hw : 1 ≤ R.fr ∧ R.fr ≤ 32 ∧ 1 ≤ R.se ∧ R.se ≤ 32) {p1 p2 n set : Int} (hs0 : 0 ≤ set) :
    Calls Try.prog 63 #[.agg #[.int .i64 R.fr, .int .i64 R.se, .int .i64 R.most, .slice p4 n4 c4, .slice p5 n5 c5], .agg #[.int .i64 p1, .int .i64 p2], .int .i64 n, .int .u32 set] w fun e w' =>
      ∃ (r1 : Int) (r2 : Int) (r3 : Int) (r4 : Option Addr) (r4n : Nat) (r4c : Nat) (r5 : Option Addr) (r5n : Nat) (r5c : Nat) (r6 : Int), e = .returned (.tuple #[.agg #[.int .i64 r1, .int .i64 r2, .int .i64 r3, .slice r4 r4n r4c, .slice r5 r5n r5c], .int .i64 r6]) ∧
      (r1 = R.fr ∧ r2 = R.se ∧ r3 = R.most ∧ r6 = refMarkE R (p1, p2) n set ∧ RefAt w' (refMark R (p1, p2) n set) r4 r4n r4c r5 r5n r5c ∧ Chg [] w w' ∧ ∀ i ∈ rowB r4 ++ rowB r5, i ∈ rowB p4 ++ rowB p5 ∨ w.heap.size ≤ i) := by
  have hwf : i64s (64 * R.fr) ∧ i64s (64 * R.se) := by unfold i64s; omega
  have hlt4 := h.sets.lt
  have hlt5 := h.pairs.lt
  refine ok_pomanderref12_Flow_Mark _ _ _ _ _ _ _ _ _ _ _ _ _ _ _ ?_
  unfold V_pomanderref12_Flow_Mark
  refine v_alloc fun b1 w1 e1 h1 c1 => ?_
  refine v_alloc fun b2 w2 e2 h2 c2 => ?_
  refine v_alloc fun b3 w3 e3 h3 c3 => ?_
  have l1 : b1 < w1.heap.size := lt_of_heap h1
  have l2 : b2 < w2.heap.size := lt_of_heap h2
  have l3 : b3 < w3.heap.size := lt_of_heap h3
  have s1 := c1.size
  have s2 := c2.size
  have s3 := c3.size
  have h13 := (c2.trans0 c3).obj (by simp) h1
  have h23 := c3.obj (by simp) h2
  have c03 := (c1.trans0 c2).trans0 c3
  -- the way out with the flow as it was
  have back : ∀ {w4 : World} (E : Int), refMarkE R (p1, p2) n set = E → E ≠ 0 → Chg [] w3 w4 → ∃ (t8 : Int) (t9 : Int) (t10 : Int) (t11 : Option Addr) (t11n : Nat) (t11c : Nat) (t12 : Option Addr) (t12n : Nat) (t12c : Nat), CellsAt w4 (⟨b1, 0, none⟩ : Addr) 0 [.int .i64 t8, .int .i64 t9, .int .i64 t10, .slice t11 t11n t11c, .slice t12 t12n t12c] ∧ (Has w4 (⟨b3, 0, none⟩ : Addr) 5 ∧ Free w4 (⟨b3, 0, none⟩ : Addr) 5 ∧ ∀ w5 : World, w5 = setCells w4 (⟨b3, 0, none⟩ : Addr) 0 [.int .i64 t8, .int .i64 t9, .int .i64 t10, .slice t11 t11n t11c, .slice t12 t12n t12c] →
      (∃ (r8 : Int) (r9 : Int) (r10 : Int) (r11 : Option Addr) (r11n : Nat) (r11c : Nat) (r12 : Option Addr) (r12n : Nat) (r12c : Nat), CellsAt w5 (⟨b3, 0, none⟩ : Addr) 0 [.int .i64 r8, .int .i64 r9, .int .i64 r10, .slice r11 r11n r11c, .slice r12 r12n r12c] ∧
        (r8 = R.fr ∧ r9 = R.se ∧ r10 = R.most ∧ E = refMarkE R (p1, p2) n set ∧ RefAt w5 (refMark R (p1, p2) n set) r11 r11n r11c r12 r12n r12c ∧ Chg [] w w5 ∧ ∀ i ∈ rowB r11 ++ rowB r12, i ∈ rowB p4 ++ rowB p5 ∨ w.heap.size ≤ i))) := by
    intro w4 E hE hE0 c4
    refine ⟨_, _, _, _, _, _, _, _, _, cellsAt_of (c4.obj (by simp) h13), ?_⟩
    refine v_fill (c4.obj (by simp) h3) (by rfl) (by rfl) fun w5 h5 c5 _ => ?_
    have c05 : Chg [] w w5 := (c03.trans0 c4).trans c5 (fun i hi hlt => by simp at hi; omega)
    have hR : refMark R (p1, p2) n set = R := by unfold refMark; rw [if_neg (by rw [hE]; exact hE0)]
    exact ⟨_, _, _, _, _, _, _, _, _, cellsAt_of h5, rfl, rfl, rfl, hE.symm, by rw [hR]; exact h.chg c05 (by simp) (by simp), c05, fun i hi => .inl hi⟩
  refine ⟨_, _, _, _, _, _, _, _, _, cellsAt_of h13, p1, p2, cellsAt_of h23, ?_⟩
  refine (ref_may _ _ _ _ _ _ _ _ _ _ _ hwf).mono ?_
  rintro _ w4 ⟨_, rfl, rfl, c4⟩
  have h14 := c4.obj (by simp) h13
  have h24 := c4.obj (by simp) h23
  have h34 := c4.obj (by simp) h3
  have s4 := c4.size
  refine ⟨_, rfl, fun hbad => ?_, fun hgood => ?_⟩
  · have hb : ¬ mayP R.fr R.se (p1, p2) ∨ 65536 ≤ set := by simpa using hbad
    exact back 2 (by unfold refMarkE; rw [if_pos hb]) (by omega) c4
  have hg : mayP R.fr R.se (p1, p2) ∧ set < 65536 := by simpa using hgood
  have hp2 : 0 ≤ p2 ∧ p2 < 2147483648 := by
    have hm := hg.1
    unfold mayP boundP at hm
    simp only [] at hm
    refine ⟨hm.2.2.1, ?_⟩
    have := hm.2.2.2
    split at this
    · omega
    split at this
    · omega
    split at this
    · omega
    split at this
    · omega
    split at this
    · omega
    split at this <;> omega
  have hnot : ¬ (¬ mayP R.fr R.se (p1, p2) ∨ 65536 ≤ set) := by
    rintro (h | h)
    · exact h hg.1
    · omega
  refine ⟨fun b4 w6 => Chg [] w3 w6 ∧ b4 = decide (n < 0 ∨ 65536 < n ∨ (0 < n ∧ ¬ mayP R.fr R.se (p1, p2 + n - 1))), ?_, fun hn => ?_, fun hn => ?_⟩
  rotate_left
  · have hn' : 0 ≤ n ∧ n ≤ 65536 := by simpa using hn
    refine ⟨_, fun b3 w5 h => h, fun hpos => ?_, fun hpos => ?_⟩
    · have hpos' : 0 < n := by simpa using hpos
      refine ⟨_, _, _, _, _, _, _, _, _, cellsAt_of h14, p1, by rw [cell_of h24]; rfl, p2, by rw [cell_of h24]; rfl, ?_⟩
      rw [wr (n := p2 + n) (by omega) (by omega), wr (by omega) (by omega)]
      refine (ref_may _ _ _ _ _ _ _ _ _ _ _ hwf).mono ?_
      rintro _ w6 ⟨_, rfl, rfl, c6⟩
      refine ⟨_, rfl, c4.trans0 c6, ?_⟩
      rw [← decide_not]
      exact decide_eq_decide.2 ⟨fun h => .inr (.inr ⟨hpos', h⟩), fun h => by
        rcases h with h | h | h
        · omega
        · omega
        · exact h.2⟩
    · have hpos' : ¬ 0 < n := by simpa using hpos
      refine ⟨c4, ?_⟩
      symm; rw [decide_eq_false_iff_not]; omega
  · have hn' : n < 0 ∨ 65536 < n := by simpa using hn
    refine ⟨c4, ?_⟩
    symm; rw [decide_eq_true_eq]; omega
  rintro b4 w6 ⟨c6, rfl⟩
  refine ⟨fun hbad => ?_, fun hok => ?_⟩
  · rw [decide_eq_true_eq] at hbad
    exact back 4 (by unfold refMarkE; rw [if_neg hnot, if_pos hbad]) (by omega) c6
  rw [decide_eq_false_iff_not] at hok
  have hE : refMarkE R (p1, p2) n set = keepE R.most R.sets set := by unfold refMarkE; rw [if_neg hnot, if_neg hok]
  have h16 := c6.obj (by simp) h13
  have h26 := c6.obj (by simp) h23
  have h36 := c6.obj (by simp) h3
  have s6 := c6.size
  have c06 := c03.trans0 c6
  refine ⟨R.most, p4, n4, _, ⟨by rw [add_at, cell_of h16]; rfl, by rw [add_at, cell_of h16]; rfl, trivial⟩, ?_⟩
  refine (ref_keep (h.sets.chg c06 (by simp)) hn4 hne hs0).mono ?_
  rintro _ w10 ⟨r19, r20, r20n, r20c, r21, r22, rfl, rfl, rfl, hrow10, c10, hf10⟩
  have s10 := c10.size
  refine ⟨_, _, _, _, _, _, rfl, ?_⟩
  refine v_box (by rfl) (by rfl) fun b6 w12 e12 h12 c12 => ?_
  have s12 := c12.size
  have c312 := (c6.trans0 c10).trans0 c12
  have c012 := c03.trans0 c312
  have h112 := c312.obj (by simp) h13
  have h212 := c312.obj (by simp) h23
  have h312 := c312.obj (by simp) h3
  refine ⟨fun hbad => ?_, fun hz => ?_⟩
  · have hbad' : keepE R.most R.sets set ≠ 0 := by simpa using hbad
    exact back _ hE hbad' c312
  have hz' : keepE R.most R.sets set = 0 := by simpa using hz
  refine ⟨_, _, _, _, cellsAt_of h12, ?_⟩
  refine v_fillAt (pre := [.int .i64 R.fr, .int .i64 R.se]) (zs := [.int .i64 R.most, .slice p4 n4 _]) (post := [.slice p5 n5 c5]) (by simpa using h112) (by rfl) (by rfl) (by rfl) fun w14 h14' c14 _ => ?_
  have hrow14 : RowAt w14 22 1 r20 r20n r20c ((keepS R.most R.sets set).map (.int .u32)) := (hrow10.chg c12 (by simp)).chg c14 (fun i hi hm => by
    simp at hm
    rcases hf10 i hi with h' | h'
    · have := hlt4 i h'; omega
    · omega)
  have h214 := c14.obj (by simp; omega) h212
  have h314 := c14.obj (by simp; omega) h312
  have c014 : Chg [] w w14 := c012.trans c14 (fun i hi hlt => by simp at hi; omega)
  have s14 := c14.size
  have hn0 : 0 ≤ n ∧ n ≤ 65536 := by omega
  have h5len := h.n5
  refine ⟨fun s w' => ∃ (i : Nat) (q5 : Option Addr) (m5 k5 : Nat), s = (i : Int) ∧ (i : Int) ≤ n ∧ w'.heap[b1]? = some (.cells #[.int .i64 R.fr, .int .i64 R.se, .int .i64 R.most, .slice r20 r20n r20c, .slice q5 m5 k5] 36 (0, 0)) ∧ w'.heap[b2]? = some (.cells #[.int .i64 p1, .int .i64 p2] 56 (0, 0)) ∧
      w'.heap[b3]? = some (.cells #[.int .i64 0, .int .i64 0, .int .i64 0, .slice none 0 0, .slice none 0 0] 36 (0, 0)) ∧ RefAt w' { R with sets := keepS R.most R.sets set, pairs := refFill (p1, p2) set R.pairs i } r20 r20n r20c q5 m5 k5 ∧ Chg [] w w' ∧ w14.heap.size ≤ w'.heap.size ∧ (∀ j ∈ rowB q5, j ∈ rowB p5 ∨ w14.heap.size ≤ j),
    fun s _ => (n - s).toNat, ⟨0, p5, n5, c5, rfl, by omega, by simpa using h14', h214, h314, ⟨hrow14, (h.pairs.chg c012 (by simp)).chg c14 (fun i hi hm => by have := hlt5 i hi; simp at hm; omega)⟩, c014, Nat.le_refl _, fun i hi => .inl hi⟩, ?_⟩
  rintro _ w15 ⟨i, q5, m5, k5, rfl, hi, h115, h215, h315, hR15, c15, s15, hf15⟩
  refine ⟨fun hlt => ?_, fun hge => ?_⟩
  · have hlt' : (i : Int) < n := by simpa using hlt
    refine ⟨_, _, _, _, _, _, _, _, _, cellsAt_of h115, p1, by rw [cell_of h215]; rfl, p2, by rw [cell_of h215]; rfl, ?_⟩
    rw [wr (n := p2 + i) (by omega) (by omega)]
    have hm5 : m5 ≤ 100000000 := by
      have h1 := hR15.n5
      have h2 := refFill_length (p1, p2) set R.pairs i
      simp only [] at h1
      omega
    refine (ref_put hR15 hm5 p1 (p2 + i) set).mono ?_
    rintro _ w16 ⟨r1, r2, r3, r4, r4n, r4c, r5, r5n, r5c, rfl, rfl, rfl, rfl, rfl, rfl, rfl, hR16, c16, hf16⟩
    have s16 := c16.size
    refine ⟨_, _, _, _, _, _, _, _, _, rfl, ?_⟩
    refine v_fill (c16.obj (by simp) h115) (by rfl) (by rfl) fun w17 h17 c17 _ => ?_
    rw [wr (by omega) (by omega)]
    have hb4 : ∀ j ∈ rowB r4, j ∉ [b1] := fun j hj hm => by
      simp at hm
      rcases hf10 j hj with h' | h'
      · have := hlt4 j h'; omega
      · omega
    refine ⟨⟨i + 1, r5, r5n, r5c, by omega, by omega, h17, c17.obj (by simp; omega) (c16.obj (by simp) h215), c17.obj (by simp; omega) (c16.obj (by simp) h315), hR16.chg c17 hb4 (fun j hj hm => by have := hf16 j hj; simp at hm; omega), (c15.trans0 c16).trans c17 (fun j hj hlt => by simp at hj; omega), by have := c17.size; omega, fun j hj => .inr (by have := hf16 j hj; omega)⟩, by simp only []; omega⟩
  · have hge' : ¬ (i : Int) < n := by simpa using hge
    have hin : n.toNat = i := by omega
    refine ⟨_, _, _, _, _, _, _, _, _, cellsAt_of h115, ?_⟩
    refine v_fill h315 (by rfl) (by rfl) fun w18 h18 c18 _ => ?_
    have c018 : Chg [] w w18 := c15.trans c18 (fun j hj hlt => by simp at hj; omega)
    have hR : refMark R (p1, p2) n set = { R with sets := keepS R.most R.sets set, pairs := refFill (p1, p2) set R.pairs i } := by unfold refMark; rw [if_pos (by rw [hE]; exact hz'), hin]
    refine ⟨_, _, _, _, _, _, _, _, _, cellsAt_of h18, rfl, rfl, rfl, by rw [hE, hz'], ?_, c018, fun j hj => ?_⟩
    · rw [hR]
      refine hR15.chg c18 (fun j hj hm => ?_) (fun j hj hm => ?_)
      · simp at hm
        rcases hf10 j hj with h' | h'
        · have := hlt4 j h'; omega
        · omega
      · simp at hm
        rcases hf15 j hj with h' | h'
        · have := hlt5 j h'; omega
        · omega
    · simp only [List.mem_append] at hj ⊢
      rcases hj with hj | hj
      · rcases hf10 j hj with h' | h'
        · exact .inl (.inl h')
        · right; have := c06.size; omega
      · rcases hf15 j hj with h' | h'
        · exact .inl (.inr h')
        · right; omega
end Go.Proofs.Ytkfncibmfcdokaa
