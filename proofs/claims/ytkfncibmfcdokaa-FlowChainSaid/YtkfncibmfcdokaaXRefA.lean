/- The document's flows: Apply. -/
import Derived.Test.YtkfncibmfcdokaaXRefs
import Derived.Test.YtkfncibmfcdokaaXPol2
set_option linter.unusedVariables false
set_option linter.unusedSimpArgs false
namespace Go.Proofs.Ytkfncibmfcdokaa
open Go Go.RowKit Go.X

theorem append_u {w : World} {p : Option Addr} {n c : Nat} {out : List Int} (h : RowAt w 22 1 p n c (out.map (.int .u32))) {b : Nat} {x : Int} (hb : w.heap[b]? = some (.cells #[.int .u32 x] 22 (0, 0))) (hn : n ≤ 1000000000) :
    ∃ p' c' w', (Builtin.append_ #[31, 31] 31 #[.slice p n c, .slice (some (⟨b, 0, none⟩ : Addr)) 1 1]).run Try.prog w = .ok (.slice p' (n + 1) c') w' ∧ RowAt w' 22 1 p' (n + 1) c' ((out ++ [x]).map (.int .u32)) ∧ Chg (rowB p) w w' ∧
      (∀ i ∈ rowB p', i ∈ rowB p ∨ w.heap.size ≤ i) := by
  obtain ⟨p', c', w', happ, hrow, hc, hf⟩ := h.append (P := Try.prog) (t := 31) (ty := 31) (i := _) (z := .int .u32 0) (bytes := 4) (by kernel_rfl) (show Try.prog.info? 22 = some Try.t22 by kernel_rfl) (by kernel_rfl) (by kernel_rfl) (by kernel_rfl) rfl (by omega)
    (a := ⟨b, 0, none⟩) (m := 1) (mc := 1) (news := [.int .u32 x]) rfl (fun i u hi => by
      cases i with
      | zero => simp at hi; subst hi; rw [add_at, cell_of hb]; rfl
      | succ i => simp at hi) (by simp [Value.oneCell']) (by simp only [maxLen]; omega) (by omega)
  exact ⟨p', c', w', happ, by simpa using hrow, hc, hf⟩

theorem keepStep_len (most : Int) (g : Int × Int → Int) (s : List Int × List Pr × Int) (t : Tch) : (keepStep most g s t).1.length ≤ s.1.length + 1 ∧ (s.1 ≠ [] → (keepStep most g s t).1 ≠ []) := by
  unfold keepStep
  split
  · exact ⟨by omega, id⟩
  split
  · exact ⟨by simp, id⟩
  · simp only []
    unfold keepS
    split
    · exact ⟨by omega, id⟩
    · exact ⟨by simp, fun _ => by simp⟩
theorem keepAll_len (most : Int) (g : Int × Int → Int) (ts : List Tch) (sets : List Int) : (keepAll most g ts sets).1.length ≤ sets.length + ts.length ∧ (sets ≠ [] → (keepAll most g ts sets).1 ≠ []) := by
  have : ∀ (ts : List Tch) (s : List Int × List Pr × Int), (ts.foldl (keepStep most g) s).1.length ≤ s.1.length + ts.length ∧ (s.1 ≠ [] → (ts.foldl (keepStep most g) s).1 ≠ []) := by
    intro ts
    induction ts with
    | nil => intro s; exact ⟨by simp, id⟩
    | cons t ts ih =>
      intro s
      have h1 := keepStep_len most g s t
      have h2 := ih (keepStep most g s t)
      rw [List.foldl_cons]
      refine ⟨?_, fun h => h2.2 (h1.2 h)⟩
      have := h1.1; have := h2.1
      simp; omega
  exact this ts (sets, [], 0)
theorem putAll_len (g : Int × Int → Int) (ts : List Tch) (l : List Pr) : (putAll g ts l).length ≤ l.length + ts.length := by
  have : ∀ (ts : List Tch) (l : List Pr), (ts.foldl (putStep g) l).length ≤ l.length + ts.length := by
    intro ts
    induction ts with
    | nil => intro l; simp
    | cons t ts ih =>
      intro l
      rw [List.foldl_cons]
      have h1 := ih (putStep g l t)
      have h2 : (putStep g l t).length ≤ l.length + 1 := by
        unfold putStep
        split
        · omega
        · exact refPut_length _ _ _
      simp; omega
  exact this ts l

def setOf (g : Int × Int → Int) (t : Tch) : Int := if t.1 = (0, 0) then 0 else joinP g t.2

theorem ref_apply {w : World} {R : Rf} {p4 p5 : Option Addr} {n4 c4 n5 c5 : Nat} (h : RefAt w R p4 n4 c4 p5 n5 c5) (hn4 : n4 ≤ 100000) (hn5 : n5 ≤ 90000000) (hne : R.sets ≠ []) (hw : i64s (64 * R.fr) ∧ i64s (64 * R.se)) (hu : ∀ q, u16 (lookPr R.pairs q))
    {S : Nat → Prop} {p : Option Addr} {n c : Nat} {ts : List Tch} (hp : TouchesAt w S p n ts) (hn : n ≤ 1000) (hin : ∀ t ∈ ts, t.2.length ≤ 9223372036854775807) :
    Calls Try.prog 72 #[.agg #[.int .i64 R.fr, .int .i64 R.se, .int .i64 R.most, .slice p4 n4 c4, .slice p5 n5 c5], .slice p n c] w fun e w' =>
      ∃ (r1 : Int) (r2 : Int) (r3 : Int) (r4 : Option Addr) (r4n : Nat) (r4c : Nat) (r5 : Option Addr) (r5n : Nat) (r5c : Nat) (r6 : Int), e = .returned (.tuple #[.agg #[.int .i64 r1, .int .i64 r2, .int .i64 r3, .slice r4 r4n r4c, .slice r5 r5n r5c], .int .i64 r6]) ∧
      (r1 = R.fr ∧ r2 = R.se ∧ r3 = R.most ∧ r6 = refApplyE R ts ∧ RefAt w' (refApply R ts) r4 r4n r4c r5 r5n r5c ∧ Chg [] w w' ∧ ∀ i ∈ rowB r4 ++ rowB r5, i ∈ rowB p4 ++ rowB p5 ∨ w.heap.size ≤ i) := by
  have hn4' := h.n4
  have hn5' := h.n5
  have hlt4 := h.sets.lt
  have hlt5 := h.pairs.lt
  refine go_pomanderref12_Flow_Apply _ _ _ _ _ _ _ _ _ _ _ _ _ _ ?_
  unfold W_pomanderref12_Flow_Apply
  intro b2 b1 w2 l2 l1 d2
  refine (ref_mayAll (p4 := p4) (n4 := n4) (c4 := c4) (p5 := p5) (n5 := n5) (c5 := c5) (c := c) hw (hp.chg d2 (by simp)) (by omega) hin).mono ?_
  rintro _ w3 ⟨_, rfl, rfl, d3⟩
  have s3 := d3.size
  have d03 := d2.trans0 d3
  refine ⟨_, rfl, Same.chg d3 (by simp; omega), fun hb w4 d4 => ?_, fun hb => ?_⟩
  · have hb' : ¬ rightAll R.fr R.se ts := by simpa using hb
    have d04 : Chg [] w w4 := d03.trans d4 (fun i hi hlt => by simp at hi; omega)
    refine ⟨rfl, rfl, rfl, by unfold refApplyE; rw [if_neg hb'], ?_, d04, fun i hi => .inl hi⟩
    unfold refApply; rw [if_neg hb']; exact h.chg d04 (by simp) (by simp)
  have hr : rightAll R.fr R.se ts := by simpa using hb
  refine ⟨fun x sets setsn setsc i m q qn qc w' => ∃ j : Nat, i = (j : Int) ∧ j ≤ n ∧ (keepAll R.most (lookPr R.pairs) (ts.take j) R.sets).2.2 = 0 ∧ m = R.most ∧ RowAt w' 22 1 q qn qc ((keepAll R.most (lookPr R.pairs) (ts.take j) R.sets).1.map (.int .u32)) ∧
      (∀ b ∈ rowB q, b ∈ rowB p4 ∨ w3.heap.size ≤ b) ∧ RowAt w' 22 1 sets setsn setsc (((ts.take j).map (setOf (lookPr R.pairs))).map (.int .u32)) ∧ (∀ b ∈ rowB sets, w3.heap.size ≤ b) ∧ (∀ b ∈ rowB q, b ∉ rowB sets) ∧ Chg [] w w' ∧ w3.heap.size ≤ w'.heap.size,
    fun _ _ _ _ i _ _ _ _ _ => (n - i).toNat, ⟨0, rfl, by omega, rfl, rfl, by simpa [keepAll] using h.sets.chg d03 (by simp), fun b hb => .inl hb, RowAt.nil, by simp [rowB], by simp [rowB], d03, Nat.le_refl _⟩, ?_⟩
  rintro x sets setsn setsc _ _ q qn qc w5 ⟨j, rfl, hj, h0, rfl, hq, hqf, hs, hsf, hqs, d5, s5⟩
  have hqlt := hq.lt
  have hslt := hs.lt
  have hsl : setsn = j := by have := hs.length; simp at this; have := hp.length; omega
  refine ⟨fun hlt => ?_, fun hge => ?_⟩
  · have hlt' : j < n := by simpa using hlt
    obtain ⟨t, hx⟩ := get_of (l := ts) (j := j) (by rw [hp.length]; exact hlt')
    have hmem : t ∈ ts := List.mem_of_getElem? hx
    obtain ⟨k1, k2, a, tq, tqn, tqc, rfl, ha, hc, hps⟩ := (hp.chg d5 (by simp)).each j _ hx
    refine ⟨fun x set m q qn qc w' => set = setOf (lookPr R.pairs) t ∧ (keepAll R.most (lookPr R.pairs) (ts.take (j + 1)) R.sets).2.2 = 0 ∧ m = R.most ∧ RowAt w' 22 1 q qn qc ((keepAll R.most (lookPr R.pairs) (ts.take (j + 1)) R.sets).1.map (.int .u32)) ∧
      (∀ b ∈ rowB q, b ∈ rowB p4 ∨ w3.heap.size ≤ b) ∧ (∀ b ∈ rowB q, b ∉ rowB sets) ∧ RowAt w' 22 1 sets setsn setsc (((ts.take j).map (setOf (lookPr R.pairs))).map (.int .u32)) ∧ Chg [] w w' ∧ w5.heap.size ≤ w'.heap.size, ?_, a, rfl, by omega, by omega, t.1.1, t.1.2, by simpa using CellsAt.two hc, fun hto => ?_, fun hto => ?_⟩
    · rintro x' _ _ q' qn' qc' w6 ⟨rfl, h0', rfl, hq', hqf', hqs', hs', d6, s6⟩
      have hqlt' := hq'.lt
      have hslt' := hs'.lt
      refine v_alloc fun b3 w7 e3 hb3 d7 => ?_
      have s7 := d7.size
      obtain ⟨ap, ac, w8, happ, hrow8, d8, hf8⟩ := append_u (x := setOf (lookPr R.pairs) t) (hs'.chg d7 (by simp)) hb3 (by omega)
      have s8 := d8.size
      have d08 : Chg [] w w8 := (d6.trans0 d7).trans d8 (fun b hb hlt => by have := hsf b hb; have := d03.size; omega)
      refine ⟨ap, _, ac, w8, happ, Same.of d8 (by simp; exact ⟨⟨by omega, fun hm => by have := hsf _ hm; omega⟩, by omega, fun hm => by have := hsf _ hm; omega⟩), ?_⟩
      rw [wr (by omega) (by omega)]
      refine ⟨⟨j + 1, by omega, by omega, h0', rfl, (hq'.chg d7 (by simp)).chg d8 hqs', hqf', by rw [take_snoc hx]; simpa using hrow8, fun b hb => ?_, fun b hb hm => ?_, d08, by omega⟩, by simp only []; omega⟩
      · rcases hf8 b hb with h | h
        · exact hsf b h
        · omega
      · rcases hf8 b hm with h | h
        · exact hqs' b hb h
        · have := hqlt' b hb; omega
    · have hto' : t.1 ≠ (0, 0) := by
        intro e; rw [e] at hto; simp at hto
      intro w9 d9
      have s9 := d9.size
      have d09 := d5.trans0 d9
      refine ⟨tq, tqn, tqc, by simpa using CellsAt.third (d9.cells (by simp) hc), ?_⟩
      have hR9 : RefAt w9 { R with sets := (keepAll R.most (lookPr R.pairs) (ts.take j) R.sets).1 } q qn qc p5 n5 c5 := ⟨hq.chg d9 (by simp), h.pairs.chg d09 (by simp)⟩
      refine (ref_together (c := tqc) hR9 (by omega) hu (hps.chg d9 (by simp)) (by rw [← hps.length]; exact hin t hmem)).mono ?_
      rintro _ w10 ⟨_, rfl, rfl, d10⟩
      have s10 := d10.size
      have hju := joinP_u16 hu t.2
      have hlen := keepAll_len R.most (lookPr R.pairs) (ts.take j) R.sets
      have hq10 := hR9.sets.chg d10 (by simp)
      have hqn : qn = (keepAll R.most (lookPr R.pairs) (ts.take j) R.sets).1.length := by have := hq.length; simp at this; omega
      refine ⟨_, rfl, Same.chg d10 (by simp; omega), ?_⟩
      refine (ref_keep (most := R.most) hq10 (by have := hlen.1; rw [List.length_take, hp.length] at this; omega) (hlen.2 hne) hju.1).mono ?_
      rintro _ w11 ⟨_, q', qn', qc', r3, _, rfl, rfl, rfl, hq11, d11, hf11⟩
      have s11 := d11.size
      refine ⟨_, _, _, _, _, _, rfl, Same.chg d11 (by simp; omega), fun b4 w13 l13 d13 => ⟨fun hbad w14 d14 => ?_, fun hok w15 d15 => ?_⟩⟩
      · have hbad' : keepE R.most (keepAll R.most (lookPr R.pairs) (ts.take j) R.sets).1 (joinP (lookPr R.pairs) t.2) ≠ 0 := by simpa using hbad
        have hst : keepAll R.most (lookPr R.pairs) (ts.take (j + 1)) R.sets = ((keepAll R.most (lookPr R.pairs) (ts.take j) R.sets).1, (keepAll R.most (lookPr R.pairs) (ts.take j) R.sets).2.1, keepE R.most (keepAll R.most (lookPr R.pairs) (ts.take j) R.sets).1 (joinP (lookPr R.pairs) t.2)) := by
          rw [take_snoc hx, keepAll_snoc]; unfold keepStep
          rw [if_neg (by rintro (h | h); exact h h0; exact hto' h), if_pos hbad']
        have hall : keepAll R.most (lookPr R.pairs) ts R.sets = keepAll R.most (lookPr R.pairs) (ts.take (j + 1)) R.sets := by
          have := keepAll_bad (most := R.most) (g := lookPr R.pairs) (ts := ts.take (j + 1)) (us := ts.drop (j + 1)) (sets := R.sets) (by rw [hst]; exact hbad')
          rwa [List.take_append_drop] at this
        have d014 := (d09.trans0 d10).trans (d11.trans0 d13) (by simp) |>.trans d14 (fun i hi hlt => by simp at hi; omega)
        refine ⟨rfl, rfl, rfl, by unfold refApplyE; rw [if_pos hr, hall, hst], ?_, d014, fun i hi => ?_⟩
        · unfold refApply; rw [if_pos hr, hall, hst]
          simp only [if_neg hbad']
          have hd : ∀ b ∈ rowB q, b ∉ [b2] := fun b hb hm => by
            simp at hm; subst hm
            rcases hqf _ hb with h | h
            · have := hlt4 _ h; omega
            · omega
          exact ⟨((hq10.chg d11 (by simp)).chg d13 (by simp)).chg d14 hd, h.pairs.chg d014 (by simp)⟩
        · rcases List.mem_append.1 hi with hi | hi
          · rcases hqf i hi with h | h
            · exact .inl (List.mem_append_left _ h)
            · exact .inr (by have := d03.size; omega)
          · exact .inl (List.mem_append_right _ hi)
      · have hok' : keepE R.most (keepAll R.most (lookPr R.pairs) (ts.take j) R.sets).1 (joinP (lookPr R.pairs) t.2) = 0 := by simpa using hok
        have hst : keepAll R.most (lookPr R.pairs) (ts.take (j + 1)) R.sets = (keepS R.most (keepAll R.most (lookPr R.pairs) (ts.take j) R.sets).1 (joinP (lookPr R.pairs) t.2), upd t.1 (joinP (lookPr R.pairs) t.2) (keepAll R.most (lookPr R.pairs) (ts.take j) R.sets).2.1, 0) := by
          rw [take_snoc hx, keepAll_snoc]; unfold keepStep
          rw [if_neg (by rintro (h | h); exact h h0; exact hto' h), if_neg (by rw [hok']; simp)]
        have hd : ∀ b ∈ rowB q', b ∉ [b1] := fun b hb hm => by
          simp at hm; subst hm
          rcases hf11 _ hb with h | h
          · rcases hqf _ h with h | h
            · have := hlt4 _ h; omega
            · omega
          · omega
        have d015 : Chg [] w w15 := ((d09.trans0 d10).trans0 (d11.trans0 d13)).trans d15 (fun i hi hlt => by simp at hi; omega)
        have s13 := d13.size
        have s15 := d15.size
        refine ⟨by unfold setOf; rw [if_neg hto'], by rw [hst], rfl, by rw [hst]; exact (hq11.chg d13 (by simp)).chg d15 hd, fun b hb => ?_, fun b hb hm => ?_, ?_, d015, by omega⟩
        · rcases hf11 b hb with h | h
          · exact hqf b h
          · exact .inr (by omega)
        · rcases hf11 b hb with h | h
          · exact hqs b h hm
          · have := hslt b hm; omega
        · exact ((((hs.chg d9 (by simp)).chg d10 (by simp)).chg d11 (by simp)).chg d13 (by simp)).chg d15 (fun b hb hm => by
            simp at hm; subst hm; have := hsf _ hb; omega)
    · have hto' : t.1 = (0, 0) := by
        have : t.1.1 = 0 ∧ t.1.2 = 0 := by simpa using hto
        exact Prod.ext this.1 this.2
      have hst : keepAll R.most (lookPr R.pairs) (ts.take (j + 1)) R.sets = keepAll R.most (lookPr R.pairs) (ts.take j) R.sets := by
        rw [take_snoc hx, keepAll_snoc]; unfold keepStep
        rw [if_pos (.inr hto')]
      exact ⟨by unfold setOf; rw [if_pos hto'], by rw [hst]; exact h0, rfl, by rw [hst]; exact hq, hqf, hqs, hs, d5, Nat.le_refl _⟩
  have hge' : ¬ j < n := by simpa using hge
  have htk : ts.take j = ts := List.take_of_length_le (by rw [hp.length]; omega)
  rw [htk] at h0 hq hs
  have hE : refApplyE R ts = 0 := by unfold refApplyE; rw [if_pos hr, h0]
  have hlen := keepAll_len R.most (lookPr R.pairs) ts R.sets
  refine ⟨fun i v1 v2 v3 q1 q1n q1c q2 q2n q2c w' => ∃ k : Nat, i = (k : Int) ∧ k ≤ n ∧ v1 = R.fr ∧ v2 = R.se ∧ v3 = R.most ∧ q = q1 ∧ qn = q1n ∧ qc = q1c ∧ RefAt w' { R with sets := (keepAll R.most (lookPr R.pairs) ts R.sets).1, pairs := putAll (lookPr R.pairs) (ts.take k) R.pairs } q qn qc q2 q2n q2c ∧
      (∀ b ∈ rowB q2, b ∈ rowB p5 ∨ w3.heap.size ≤ b) ∧ RowAt w' 22 1 sets setsn setsc ((ts.map (setOf (lookPr R.pairs))).map (.int .u32)) ∧ Chg [] w w' ∧ w5.heap.size ≤ w'.heap.size,
    fun i _ _ _ _ _ _ _ _ _ _ => (n - i).toNat, ⟨0, rfl, by omega, rfl, rfl, rfl, rfl, rfl, rfl, ⟨hq, h.pairs.chg d5 (by simp)⟩, fun b hb => .inl hb, hs, d5, Nat.le_refl _⟩, ?_⟩
  rintro _ _ _ _ _ _ _ q2 q2n q2c w16 ⟨k, rfl, hk, rfl, rfl, rfl, rfl, rfl, rfl, hR, hq2, hs16, d16, s16⟩
  have hb1q : ∀ b ∈ rowB q, b ∉ [b1] ∧ b ∉ [b2] := fun b hb => ⟨fun hm => by
      simp at hm; subst hm
      rcases hqf _ hb with h | h
      · have := hlt4 _ h; omega
      · omega, fun hm => by
      simp at hm; subst hm
      rcases hqf _ hb with h | h
      · have := hlt4 _ h; omega
      · omega⟩
  refine ⟨fun hlt => ?_, fun hge2 => ?_⟩
  · have hlt' : k < n := by simpa using hlt
    obtain ⟨t, hx⟩ := get_of (l := ts) (j := k) (by rw [hp.length]; exact hlt')
    have hmem : t ∈ ts := List.mem_of_getElem? hx
    obtain ⟨k1, k2, a, tq, tqn, tqc, rfl, ha, hc, hps⟩ := (hp.chg d16 (by simp)).each k _ hx
    refine ⟨fun v1 v2 v3 q1 q1n q1c q2 q2n q2c w' => v1 = R.fr ∧ v2 = R.se ∧ v3 = R.most ∧ q = q1 ∧ qn = q1n ∧ qc = q1c ∧ RefAt w' { R with sets := (keepAll R.most (lookPr R.pairs) ts R.sets).1, pairs := putAll (lookPr R.pairs) (ts.take (k + 1)) R.pairs } q qn qc q2 q2n q2c ∧
      (∀ b ∈ rowB q2, b ∈ rowB p5 ∨ w3.heap.size ≤ b) ∧ RowAt w' 22 1 sets setsn setsc ((ts.map (setOf (lookPr R.pairs))).map (.int .u32)) ∧ Chg [] w w' ∧ w5.heap.size ≤ w'.heap.size, ?_, a, rfl, by omega, by omega, t.1.1, t.1.2, by simpa using CellsAt.two hc, fun hto w18 d18 => ?_, fun hto => ?_⟩
    · rintro _ _ _ _ _ _ q2' q2n' q2c' w17 ⟨rfl, rfl, rfl, rfl, rfl, rfl, hR', hq2', hs', d17, s17⟩
      rw [wr (by omega) (by omega)]
      exact ⟨⟨k + 1, by omega, by omega, rfl, rfl, rfl, rfl, rfl, rfl, hR', hq2', hs', d17, s17⟩, by simp only []; omega⟩
    · have hto' : t.1 ≠ (0, 0) := by
        intro e; rw [e] at hto; simp at hto
      have s18 := d18.size
      have hs18 := hs16.chg d18 (by simp)
      have hset : (ts.map (setOf (lookPr R.pairs)))[k]? = some (setOf (lookPr R.pairs) t) := by rw [List.getElem?_map, hx]; rfl
      have hrow' : RowAt w18 22 1 sets setsn setsc ((ts.map (setOf (lookPr R.pairs))).flatMap encU) := by rw [← encU_map]; exact hs18
      obtain ⟨a3, ha3, hc3⟩ := RowAt.elem (size := 1) (fun _ => rfl) hrow' hset (by omega)
      have hsn : setsn = n := by have := hs.length; simp at this; have := hp.length; omega
      refine ⟨t.1.1, t.1.2, by simpa using CellsAt.two (d18.cells (by simp) hc), a3, ha3, by omega, by omega, setOf (lookPr R.pairs) t, by have := hc3.1; rw [add0] at this; simpa using this, ?_⟩
      have hpl := putAll_len (lookPr R.pairs) (ts.take k) R.pairs
      rw [List.length_take, hp.length] at hpl
      have hR18 := hR.chg d18 (by simp) (by simp)
      have hq2n : q2n = (putAll (lookPr R.pairs) (ts.take k) R.pairs).length := hR18.n5
      refine (ref_put hR18 (by omega) t.1.1 t.1.2 (setOf (lookPr R.pairs) t)).mono ?_
      rintro _ w19 ⟨_, _, _, _, _, _, q2', q2n', q2c', rfl, rfl, rfl, rfl, rfl, rfl, rfl, hR19, d19, hf19⟩
      have s19 := d19.size
      refine ⟨_, _, _, _, _, _, _, _, _, rfl, ⟨by simpa using CellsAt.two (d19.cells (by simp) (d18.cells (by simp) hc)), by
        have := (d19.cells (by simp) hc3).1; rw [add0] at this; simpa using this⟩, Same.chg d19 (by simp; omega), fun w20 d20 => ?_⟩
      have s20 := d20.size
      have d020 : Chg [] w w20 := ((d16.trans0 d18).trans0 d19).trans d20 (fun i hi hlt => by simp at hi; omega)
      have hb1q2 : ∀ b ∈ rowB q2', b ∉ [b1] := fun b hb hm => by
        simp at hm; subst hm; have := hf19 _ hb; omega
      refine ⟨rfl, rfl, rfl, rfl, rfl, rfl, ?_, fun b hb => .inr (by have := hf19 b hb; omega), (hs18.chg d19 (by simp)).chg d20 (fun b hb hm => by simp at hm; subst hm; have := hsf _ hb; omega), d020, by omega⟩
      rw [take_snoc hx, putAll_snoc]
      unfold putStep
      rw [if_neg hto']
      have : setOf (lookPr R.pairs) t = joinP (lookPr R.pairs) t.2 := by unfold setOf; rw [if_neg hto']
      rw [this] at hR19
      exact hR19.chg d20 (fun b hb => (hb1q b hb).1) hb1q2
    · have hto' : t.1 = (0, 0) := by
        have : t.1.1 = 0 ∧ t.1.2 = 0 := by simpa using hto
        exact Prod.ext this.1 this.2
      have hst : putAll (lookPr R.pairs) (ts.take (k + 1)) R.pairs = putAll (lookPr R.pairs) (ts.take k) R.pairs := by
        rw [take_snoc hx, putAll_snoc]; unfold putStep
        rw [if_pos hto']
      exact ⟨rfl, rfl, rfl, rfl, rfl, rfl, by rw [hst]; exact hR, hq2, hs16, d16, s16⟩
  · have hge2' : ¬ k < n := by simpa using hge2
    rw [List.take_of_length_le (by rw [hp.length]; omega)] at hR
    intro w21 d21
    have d021 : Chg [] w w21 := d16.trans d21 (fun i hi hlt => by simp at hi; omega)
    refine ⟨rfl, rfl, rfl, hE.symm, ?_, d021, fun i hi => ?_⟩
    · unfold refApply; rw [if_pos hr, if_pos h0]
      refine hR.chg d21 (fun b hb => (hb1q b hb).2) (fun b hb hm => ?_)
      simp at hm; subst hm
      rcases hq2 _ hb with h | h
      · have := hlt5 _ h; omega
      · omega
    · rcases List.mem_append.1 hi with hi | hi
      · rcases hqf i hi with h | h
        · exact .inl (List.mem_append_left _ h)
        · exact .inr (by have := d03.size; omega)
      · rcases hq2 i hi with h | h
        · exact .inl (List.mem_append_right _ h)
        · exact .inr (by have := d03.size; omega)
end Go.Proofs.Ytkfncibmfcdokaa
