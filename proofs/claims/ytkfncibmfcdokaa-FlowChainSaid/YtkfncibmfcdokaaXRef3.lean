/- The document's flows: Put. -/
import Derived.Test.YtkfncibmfcdokaaXRef2
set_option linter.unusedVariables false
set_option linter.unusedSimpArgs false
namespace Go.Proofs.Ytkfncibmfcdokaa
open Go Go.RowKit Go.X

theorem pair_beq (a b : Int × Int) : ((a.1 == b.1) && (a.2 == b.2)) = decide (a = b) := by
  obtain ⟨a1, a2⟩ := a
  obtain ⟨b1, b2⟩ := b
  apply Bool.eq_iff_iff.2
  simp
theorem append_pr {w : World} {p : Option Addr} {n c : Nat} {out : List Pr} (h : RowAt w 149 3 p n c (out.flatMap encPr)) {b : Nat} {x : Pr} (hb : w.heap[b]? = some (.cells (encPr x).toArray 149 (0, 0))) (hn : n ≤ 1000000000) :
    ∃ p' c' w', (Builtin.append_ #[34, 34] 34 #[.slice p n c, .slice (some (⟨b, 0, none⟩ : Addr)) 1 1]).run Try.prog w = .ok (.slice p' (n + 1) c') w' ∧ RowAt w' 149 3 p' (n + 1) c' ((out ++ [x]).flatMap encPr) ∧ Chg (rowB p) w w' ∧
      (∀ i ∈ rowB p', i ∈ rowB p ∨ w.heap.size ≤ i) := by
  obtain ⟨p', c', w', h1, h2, h3, h4⟩ := h.append (P := Try.prog) (t := 34) (ty := 34) (i := Try.t149) (z := .agg #[.int .i64 0, .int .i64 0, .int .u32 0]) (bytes := 24) (by kernel_rfl) (by kernel_rfl) (by kernel_rfl) (by kernel_rfl) (by kernel_rfl) rfl (by omega)
    (a := ⟨b, 0, none⟩) (m := 1) (mc := 1) (news := encPr x) rfl (fun i u hi => by
      rw [add_at, cell_of hb, Nat.zero_add]; simpa using hi) (by simp [encPr, Value.oneCell']) (by simp only [maxLen]; omega) (by omega)
  exact ⟨p', c', w', h1, by simpa [List.flatMap_append] using h2, h3, h4⟩

theorem ref_put {w : World} {R : Rf} {p4 p5 : Option Addr} {n4 c4 n5 c5 : Nat} (h : RefAt w R p4 n4 c4 p5 n5 c5) (hn : n5 ≤ 100000000) (p1 p2 set : Int) :
    Calls Try.prog 105 #[.agg #[.int .i64 R.fr, .int .i64 R.se, .int .i64 R.most, .slice p4 n4 c4, .slice p5 n5 c5], .agg #[.int .i64 p1, .int .i64 p2], .int .u32 set] w fun e w' =>
      ∃ (r1 : Int) (r2 : Int) (r3 : Int) (r4 : Option Addr) (r4n : Nat) (r4c : Nat) (r5 : Option Addr) (r5n : Nat) (r5c : Nat), e = .returned (.agg #[.int .i64 r1, .int .i64 r2, .int .i64 r3, .slice r4 r4n r4c, .slice r5 r5n r5c]) ∧
      (r1 = R.fr ∧ r2 = R.se ∧ r3 = R.most ∧ r4 = p4 ∧ r4n = n4 ∧ r4c = c4 ∧ RefAt w' { R with pairs := refPut (p1, p2) set R.pairs } r4 r4n r4c r5 r5n r5c ∧ Chg [] w w' ∧ ∀ i ∈ rowB r5, w.heap.size ≤ i) := by
  have hl := h.n5
  have hlt4 := h.sets.lt
  have hlt5 := h.pairs.lt
  refine ok_pomanderref12_Flow_Put _ _ _ _ _ _ _ _ _ _ _ _ _ _ ?_
  unfold V_pomanderref12_Flow_Put
  refine v_alloc fun b1 w1 e1 h1 c1 => ?_
  refine v_alloc fun b2 w2 e2 h2 c2 => ?_
  refine v_alloc fun b3 w3 e3 h3 c3 => ?_
  have l1 : b1 < w1.heap.size := lt_of_heap h1
  have l2 : b2 < w2.heap.size := lt_of_heap h2
  have l3 : b3 < w3.heap.size := lt_of_heap h3
  have s1 := c1.size
  have s2 := c2.size
  have s3 := c3.size
  have c03 := (c1.trans0 c2).trans0 c3
  have h13 := (c2.trans0 c3).obj (by simp) h1
  have h23 := c3.obj (by simp) h2
  generalize hp : ((p1, p2) : Int × Int) = p
  have hp1 : p.1 = p1 := by rw [← hp]
  have hp2 : p.2 = p2 := by rw [← hp]
  -- what goes on being so
  let Base (w' : World) (o : Option Addr) : Prop := Chg [] w w' ∧ w'.heap[b1]? = some (.cells #[.int .i64 R.fr, .int .i64 R.se, .int .i64 R.most, .slice p4 n4 c4, .slice p5 n5 c5] 36 (0, 0)) ∧
    w'.heap[b2]? = some (.cells #[.int .i64 p1, .int .i64 p2] 56 (0, 0)) ∧ w'.heap[b3]? = some (.cells #[.int .i64 0, .int .i64 0, .int .i64 0, .slice none 0 0, .slice none 0 0] 36 (0, 0)) ∧ w3.heap.size ≤ w'.heap.size ∧ ∀ i ∈ rowB o, w3.heap.size ≤ i
  have base_step : ∀ {w' w'' : World} {o o' : Option Addr}, Base w' o → Chg (rowB o) w' w'' → (∀ i ∈ rowB o', i ∈ rowB o ∨ w'.heap.size ≤ i) → Base w'' o' := by
    rintro w' w'' o o' ⟨k1, k2, k3, k4, k5, k6⟩ c f
    refine ⟨k1.trans c (fun i hi hlt => by have := k6 i hi; omega), c.obj (fun hm => by have := k6 _ hm; omega) k2, c.obj (fun hm => by have := k6 _ hm; omega) k3, c.obj (fun hm => by have := k6 _ hm; omega) k4, Nat.le_trans k5 c.size, fun i hi => ?_⟩
    rcases f i hi with h | h
    · exact k6 i h
    · omega
  have base_nil : ∀ {w' w'' : World} {o : Option Addr}, Base w' o → Chg [] w' w'' → Base w'' o := fun hb c => base_step hb c.nil (fun i hi => .inl hi)
  have fold_len : ∀ j, (foldPut p set (R.pairs.take j)).1.length ≤ 2 * n5 := fun j => by
    have := foldPut_length p set (R.pairs.take j)
    have := List.length_take_le j R.pairs
    have := List.length_take_le' j R.pairs
    omega
  refine ⟨fun s w' => ∃ j : Nat, s.2.2.2.2 = (j : Int) ∧ j ≤ n5 ∧ s.2.2.2.1 = (foldPut p set (R.pairs.take j)).2 ∧ RowAt w' 149 3 s.1 s.2.1 s.2.2.1 ((foldPut p set (R.pairs.take j)).1.flatMap encPr) ∧ Base w' s.1,
    fun s _ => (n5 - s.2.2.2.2).toNat, ⟨0, rfl, by omega, rfl, RowAt.nil, c03, h13, h23, h3, Nat.le_refl _, by simp [rowB]⟩, ?_⟩
  rintro ⟨o, on, oc, put, i⟩ w4 ⟨j, hij, hj, hput, hrow, hbase⟩
  simp only [] at hij hput hrow hbase
  subst hij
  obtain ⟨c04, h14, h24, h34, s4, ho⟩ := id hbase
  have hon : on = (foldPut p set (R.pairs.take j)).1.length := by
    have := hrow.length; rw [flat_length (size := 3) (fun _ => rfl)] at this; omega
  have hlen := fold_len j
  refine ⟨p5, n5, c5, by rw [cell_of h14]; rfl, fun hlt => ?_, fun hge => ?_⟩
  · have hlt' : j < n5 := by simpa using hlt
    obtain ⟨x, hx⟩ := get_of (l := R.pairs) (j := j) (by omega)
    have hsnoc : foldPut p set (R.pairs.take (j + 1)) = stepPut p set (foldPut p set (R.pairs.take j)) x := by rw [take_snoc hx, foldPut_snoc]
    obtain ⟨a, rfl, hc⟩ := RowAt.elem (size := 3) (fun _ => rfl) (h.pairs.chg c04 (by simp)) hx (by omega)
    refine ⟨fun s w' => s.2.2.2 = (foldPut p set (R.pairs.take (j + 1))).2 ∧ RowAt w' 149 3 s.1 s.2.1 s.2.2.1 ((foldPut p set (R.pairs.take (j + 1))).1.flatMap encPr) ∧ Base w' s.1, ?_, ?_⟩
    · rintro ⟨o', on', oc', put'⟩ w5 ⟨k1, k2, k3⟩
      simp only [] at k1 k2 k3 ⊢
      rw [wr (by omega) (by omega)]
      exact ⟨⟨j + 1, by omega, by omega, k1, k2, k3⟩, by omega⟩
    refine ⟨some a, n5, c5, by rw [cell_of h14]; rfl, a, rfl, by simp only []; omega, by simp only []; omega, x.1.1, x.1.2, x.2, by simpa [encPr] using hc, ?_⟩
    refine v_box (by rfl) (by rfl) fun b4 w7 e7 h7 c7 => ?_
    have hx1 : ((x.1.1, x.1.2) : Int × Int) = x.1 := rfl
    have hrow7 := hrow.chg c7 (by simp)
    have hbase7 := base_nil hbase c7
    have hrlt := hrow.lt
    generalize hs0 : foldPut p set (R.pairs.take j) = s0 at hput hrow hsnoc hrow7 hon hlen
    rw [hsnoc]
    obtain ⟨out, pu⟩ := s0
    simp only [] at hput hrow hrow7 hon hlen
    subst hput
    have ho4 : ∀ i ∈ rowB o, i ≠ b4 := fun i hi e => by have := hrlt i hi; omega
    -- the state behind the first choice
    let s1 : List Pr × Bool := if !put && decide (aheadP p x.1) then (out ++ [(p, set)], true) else (out, put)
    have hs1 : s1 = if !put && decide (aheadP p x.1) then (out ++ [(p, set)], true) else (out, put) := rfl
    have hl1 : s1.1.length ≤ on + 1 := by rw [hs1]; split <;> simp <;> omega
    refine ⟨fun s w' => s.2.2.2 = s1.2 ∧ RowAt w' 149 3 s.1 s.2.1 s.2.2.1 (s1.1.flatMap encPr) ∧ Base w' s.1 ∧ w'.heap[b4]? = some (.cells (encPr x).toArray 149 (0, 0)) ∧ ∀ i ∈ rowB s.1, i ≠ b4, ?_, ?_⟩
    rotate_left
    · -- is p ahead?
      refine ⟨fun b7 w' => b7 = (!put && decide (aheadP p x.1)) ∧ RowAt w' 149 3 o on oc (out.flatMap encPr) ∧ Base w' o ∧ w'.heap[b4]? = some (.cells (encPr x).toArray 149 (0, 0)), ?_, fun hnp => ?_, fun hnp => ?_⟩
      · rintro b7 w14 ⟨hb7, hrow14, hbase14, h414⟩
        obtain ⟨c014, h114, h214, h314, s14, ho14⟩ := id hbase14
        refine ⟨fun ht => ?_, fun hf => ?_⟩
        · rw [ht] at hb7
          have hs1' : s1 = (out ++ [(p, set)], true) := by rw [hs1, if_pos hb7.symm]
          refine ⟨p1, p2, cellsAt_of h214, ?_⟩
          refine v_alloc fun b8 w16 e16 h16 c16 => ?_
          obtain ⟨p', c', w17, happ, hr17, c17, f17⟩ := append_pr (x := (p, set)) (hrow14.chg c16 (by simp)) (by rw [h16, ← hp]; rfl) (by omega)
          refine ⟨p', on + 1, c', w17, happ, by rw [hs1'], by rw [hs1']; exact hr17, base_step (base_nil hbase14 c16) c17 f17, c17.obj (fun hm => ho4 _ hm rfl) (c16.obj (by simp) h414), fun i hi e => ?_⟩
          rcases f17 i hi with h | h
          · exact ho4 i h e
          · have := lt_of_heap h414; have := c16.size; omega
        · rw [hf] at hb7
          have hs1' : s1 = (out, put) := by rw [hs1, if_neg (by rw [← hb7]; simp)]
          rw [hs1']
          exact ⟨rfl, hrow14, hbase14, h414, ho4⟩
      · have hnp' : put = false := by simpa using hnp
        refine ⟨p1, p2, cellsAt_of (c7.obj (by simp) h24), x.1.1, x.1.2, ⟨by rw [add_at, cell_of h7]; rfl, by rw [add_at, cell_of h7]; rfl, trivial⟩, ?_⟩
        refine (ref_ahead p1 p2 x.1.1 x.1.2).mono ?_
        rintro _ w15 ⟨_, rfl, rfl, c15⟩
        refine ⟨_, rfl, ?_, hrow7.chg c15 (by simp), base_nil hbase7 c15, c15.obj (by simp) h7⟩
        rw [hnp', hp, hx1]; rfl
      · have hnp' : put = true := by simpa using hnp
        exact ⟨by simp [hnp'], hrow7, hbase7, h7⟩
    rintro ⟨o8, on8, oc8, put8⟩ w8 ⟨hput8, hrow8, hbase8, h48, ho8⟩
    simp only [] at hput8 hrow8 hbase8 ho8
    have hon8 : on8 = s1.1.length := by have := hrow8.length; rw [flat_length (size := 3) (fun _ => rfl)] at this; omega
    obtain ⟨c08, h18, h28, h38, s8, hb8⟩ := id hbase8
    let o2 : List Pr := if x.1 = p then s1.1 else s1.1 ++ [x]
    have ho2 : o2 = if x.1 = p then s1.1 else s1.1 ++ [x] := rfl
    have hl2 : o2.length ≤ on + 2 := by
      rw [ho2]
      split
      · omega
      · rw [List.length_append, List.length_singleton]; omega
    have hfin : stepPut p set (out, put) x = if x.1 = p ∧ s1.2 = false then (o2 ++ [(p, set)], true) else (o2, s1.2) := rfl
    rw [hfin]
    have heq : ((x.1.1 == p1) && (x.1.2 == p2)) = decide (x.1 = p) := by
      rw [← hp1, ← hp2]
      exact pair_beq x.1 p
    refine ⟨fun s w' => RowAt w' 149 3 s.1 s.2.1 s.2.2 (o2.flatMap encPr) ∧ Base w' s.1 ∧ w'.heap[b4]? = some (.cells (encPr x).toArray 149 (0, 0)), ?_, ?_⟩
    · rintro ⟨o9, on9, oc9⟩ w9 ⟨hrow9, hbase9, h49⟩
      simp only [] at hrow9 hbase9
      have hon9 : on9 = o2.length := by have := hrow9.length; rw [flat_length (size := 3) (fun _ => rfl)] at this; omega
      obtain ⟨c09, h19, h29, h39, s9, hb9⟩ := id hbase9
      refine ⟨x.1.1, x.1.2, ⟨by rw [add_at, cell_of h49]; rfl, by rw [add_at, cell_of h49]; rfl, trivial⟩, p1, p2, cellsAt_of h29, fun ht => ?_, fun hf => ?_⟩
      · have ht' : x.1 = p ∧ s1.2 = false := by
          simp only [] at ht
          rw [heq, hput8] at ht
          simpa using ht
        rw [if_pos ht']
        refine ⟨p1, p2, cellsAt_of h29, ?_⟩
        refine v_alloc fun b5 w10 e10 h10 c10 => ?_
        obtain ⟨p', c', w11, happ, hr11, c11, f11⟩ := append_pr (x := (p, set)) (hrow9.chg c10 (by simp)) (by rw [h10, ← hp]; rfl) (by omega)
        exact ⟨p', on9 + 1, c', w11, happ, rfl, hr11, base_step (base_nil hbase9 c10) c11 f11⟩
      · have hf' : ¬ (x.1 = p ∧ s1.2 = false) := by
          simp only [] at hf
          rw [heq, hput8] at hf
          simpa using hf
        rw [if_neg hf']
        exact ⟨hput8, hrow9, hbase9⟩
    · refine ⟨x.1.1, x.1.2, ⟨by rw [add_at, cell_of h48]; rfl, by rw [add_at, cell_of h48]; rfl, trivial⟩, p1, p2, cellsAt_of h28, fun ht => ?_, fun hf => ?_⟩
      · have ht' : x.1 ≠ p := by
          rw [heq] at ht; simpa using ht
        have ho2' : o2 = s1.1 ++ [x] := by rw [ho2, if_neg ht']
        refine ⟨x.1.1, x.1.2, x.2, cellsAt_of h48, ?_⟩
        refine v_alloc fun b6 w12 e12 h12 c12 => ?_
        obtain ⟨p', c', w13, happ, hr13, c13, f13⟩ := append_pr (x := x) (hrow8.chg c12 (by simp)) h12 (by omega)
        refine ⟨p', on8 + 1, c', w13, happ, by rw [ho2']; exact hr13, base_step (base_nil hbase8 c12) c13 f13, c13.obj (fun hm => ho8 _ hm rfl) (c12.obj (by simp) h48)⟩
      · have hf' : x.1 = p := by
          rw [heq] at hf; simpa using hf
        have ho2' : o2 = s1.1 := by rw [ho2, if_pos hf']
        rw [ho2']
        exact ⟨hrow8, hbase8, h48⟩
  · have hge' : ¬ j < n5 := by simpa using hge
    rw [List.take_of_length_le (by omega)] at hput hrow hon hlen
    refine ⟨fun s w' => RowAt w' 149 3 s.1 s.2.1 s.2.2 ((refPut p set R.pairs).flatMap encPr) ∧ Base w' s.1, ?_, fun hnp => ?_, fun hnp => ?_⟩
    · rintro ⟨o', on', oc'⟩ w18 ⟨hrow18, hbase18⟩
      simp only [] at hrow18 hbase18
      obtain ⟨c018, h118, h218, h318, s18, hb18⟩ := id hbase18
      refine v_set0 h118 (by simp) fun w19 h19 c19 _ => ?_
      have h19' : w19.heap[b1]? = some (.cells #[.int .i64 R.fr, .int .i64 R.se, .int .i64 R.most, .slice p4 n4 c4, .slice o' on' oc'] 36 (0, 0)) := by simpa using h19
      refine ⟨_, _, _, _, _, _, _, _, _, cellsAt_of h19', ?_⟩
      refine v_fill (c19.obj (by simp; omega) h318) (by rfl) (by rfl) fun w20 h20 c20 _ => ?_
      have c1820 : Chg [b1, b3] w18 w20 := (c19.mono (by simp)).trans c20 (by simp)
      have c020 : Chg [] w w20 := c018.trans c1820 (fun i hi hlt => by simp at hi; omega)
      refine ⟨_, _, _, _, _, _, _, _, _, cellsAt_of h20, rfl, rfl, rfl, rfl, rfl, rfl, ⟨h.sets.chg c020 (by simp), hrow18.chg c1820 (fun i hi hm => by have := hb18 i hi; simp at hm; omega)⟩, c020, fun i hi => by have := hb18 i hi; omega⟩
    · have hnp' : put = false := by simpa using hnp
      have hr : refPut p set R.pairs = (foldPut p set R.pairs).1 ++ [(p, set)] := by unfold refPut; simp only []; rw [← hput, hnp']; rfl
      refine ⟨p1, p2, cellsAt_of h24, ?_⟩
      refine v_alloc fun b9 w21 e21 h21 c21 => ?_
      obtain ⟨p', c', w22, happ, hr22, c22, f22⟩ := append_pr (x := (p, set)) (hrow.chg c21 (by simp)) (by rw [h21, ← hp]; rfl) (by omega)
      exact ⟨p', on + 1, c', w22, happ, by rw [hr]; exact hr22, base_step (base_nil hbase c21) c22 f22⟩
    · have hnp' : put = true := by simpa using hnp
      have hr : refPut p set R.pairs = (foldPut p set R.pairs).1 := by unfold refPut; simp only []; rw [← hput, hnp']; rfl
      exact ⟨by rw [hr]; exact hrow, hbase⟩
end Go.Proofs.Ytkfncibmfcdokaa
