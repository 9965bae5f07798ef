/- FlowChain: along a chain of unlike places sets go one touch at a time; at once each gets what the one ahead of it had. -/
import Derived.Test.YtkfncibmfcdokaaXChain
import Derived.Test.YtkfncibmfcdokaaXOpen2
import Derived.Test.YtkfncibmfcdokaaXStep
set_option linter.unusedVariables false
set_option linter.unusedSimpArgs false
set_option maxRecDepth 100000
namespace Go.Proofs.Ytkfncibmfcdokaa
open Go Go.RowKit Go.X Go.ChangeShapes Go.WideShapes Go.ChangeAt

/-- A touch in memory: where it goes, the block of its one source. -/
def encTc (x : (Int × Int) × Nat) : List Value := [.int .i64 x.1.1, .int .i64 x.1.2, .slice (some ⟨x.2, 0, none⟩) 1 1]
theorem append_tc {w : World} {p : Option Addr} {n c : Nat} {out : List ((Int × Int) × Nat)} (h : RowAt w 81 3 p n c (out.flatMap encTc)) {b : Nat} {x : (Int × Int) × Nat} (hb : w.heap[b]? = some (.cells (encTc x).toArray 81 (0, 0))) (hn : n ≤ 1000000000) :
    ∃ p' c' w', (Builtin.append_ #[25, 25] 25 #[.slice p n c, .slice (some (⟨b, 0, none⟩ : Addr)) 1 1]).run Try.prog w = .ok (.slice p' (n + 1) c') w' ∧ RowAt w' 81 3 p' (n + 1) c' ((out ++ [x]).flatMap encTc) ∧ Chg (rowB p) w w' ∧
      (∀ i ∈ rowB p', i ∈ rowB p ∨ w.heap.size ≤ i) := by
  obtain ⟨p', c', w', h1, h2, h3, h4⟩ := h.append (P := Try.prog) (t := 25) (ty := 25) (i := Try.t81) (z := .agg #[.int .i64 0, .int .i64 0, .slice none 0 0]) (bytes := 40) (by kernel_rfl) (by kernel_rfl) (by kernel_rfl) (by kernel_rfl) (by kernel_rfl) rfl (by omega)
    (a := ⟨b, 0, none⟩) (m := 1) (mc := 1) (news := encTc x) rfl (fun i u hi => by
      rw [add_at, cell_of hb, Nat.zero_add]; simpa using hi) (by simp [encTc, Value.oneCell']) (by simp only [maxLen]; omega) (by omega)
  exact ⟨p', c', w', h1, by simpa [List.flatMap_append] using h2, h3, h4⟩

/-- Touches of the chain that were gathered so far. -/
structure Gathered (w0 w : World) (l : List (Int × Int)) (p : Option Addr) (n c : Nat) (rows : List ((Int × Int) × Nat)) : Prop where
  row : RowAt w 81 3 p n c (rows.flatMap encTc)
  fresh : ∀ i ∈ rowB p, w0.heap.size ≤ i
  each : ∀ (k : Nat) (x : (Int × Int) × Nat), rows[k]? = some x → w0.heap.size ≤ x.2 ∧ x.2 < w.heap.size ∧ l[k + 1]? = some x.1 ∧ ∃ b, l[k]? = some b ∧ w.heap[x.2]? = some (.cells #[.int .i64 b.1, .int .i64 b.2] 56 (0, 0))
theorem Gathered.chg {w0 w w' : World} {l : List (Int × Int)} {p : Option Addr} {n c : Nat} {rows : List ((Int × Int) × Nat)} {f : List Nat} (h : Gathered w0 w l p n c rows) (hc : Chg f w w') (hf : ∀ i ∈ f, i ∉ rowB p ∧ ∀ x ∈ rows, i ≠ x.2) : Gathered w0 w' l p n c rows :=
  ⟨h.row.chg hc (fun b hb hm => (hf b hm).1 hb), h.fresh, fun k x hx => by
    obtain ⟨h1, h2, h3, b, h4, h5⟩ := h.each k x hx
    exact ⟨h1, by have := hc.size; omega, h3, b, h4, hc.obj (fun hm => (hf _ hm).2 x (List.mem_of_getElem? hx) rfl) h5⟩⟩
theorem Gathered.touches {w0 w : World} {l : List (Int × Int)} {p : Option Addr} {n c : Nat} {rows : List ((Int × Int) × Nat)} (h : Gathered w0 w l p n c rows) (hl : ∀ x ∈ l, i64s x.1 ∧ i64s x.2) (hlen : rows.length = l.length - 1) :
    TouchesAt w (fun i => i ∈ rowB p ∨ ∃ x ∈ rows, i = x.2) p n (chainT l) := by
  have hn : n = rows.length := by have := h.row.length; rw [flat_length (size := 3) (fun _ => rfl)] at this; omega
  refine ⟨by rw [chainT_len]; omega, fun j t ht => ?_⟩
  have hj : j < rows.length := by have := (List.getElem?_eq_some_iff.1 ht).1; rw [chainT_len] at this; omega
  obtain ⟨x, hx⟩ := get_of (l := rows) hj
  obtain ⟨k1, k2, k3, b, k4, k5⟩ := h.each j x hx
  rw [chainT_get k3 k4] at ht
  cases ht
  obtain ⟨a, rfl, hc⟩ := RowAt.elem (size := 3) (fun _ => rfl) h.row hx (by omega)
  have h1 := hl _ (List.mem_of_getElem? k3)
  have h2 := hl _ (List.mem_of_getElem? k4)
  refine ⟨h1.1, h1.2, a, _, _, _, rfl, .inl (by simp [rowB]), hc, ⟨rfl, fun i y hy => ?_⟩⟩
  cases i with
  | zero =>
    simp at hy; subst hy
    refine ⟨h2.1, h2.2, _, rfl, .inr ⟨x, List.mem_of_getElem? hx, rfl⟩, ?_⟩
    simp only [Nat.zero_mul, add_at, Nat.add_zero]
    exact cellsAt_of (by simpa using k5)
  | succ i => simp at hy

theorem chain_walk {w : World} {l1 : Option Addr} {ln lc : Nat} {l : List (Int × Int)} {set : Int} (hl : PlacesAt w (oldS w) l1 ln l) (hln : ln ≤ maxLen) (hs0 : 0 ≤ set) :
    Calls Try.prog 6 #[.slice l1 ln lc, .int .u32 set] w fun e w' => ∃ r : Bool, e = .returned (.bool r) ∧ (r = true ∧ Chg [] w w') := by
  have hll := hl.length
  simp only [maxLen] at hln
  have hi64 : ∀ x ∈ l, i64s x.1 ∧ i64s x.2 := fun x hx => by
    obtain ⟨j, hj⟩ := List.getElem?_of_mem hx
    exact ⟨(hl.each j x hj).1, (hl.each j x hj).2.1⟩
  have hknown : ∀ (w' : World), Chg [] w w' → Calls Try.prog 24 #[] w' fun e w'' => ∃ r : Bool, e = .returned (.bool r) ∧ (fun (r : Bool) w'' => r = true ∧ Chg [] w w'') r w'' := fun w' c => by
    refine (known12 w').mono ?_
    rintro _ w2 ⟨_, rfl, rfl, c2⟩
    exact ⟨_, rfl, rfl, c.trans0 c2⟩
  have hread : ∀ {A : World} {j : Nat} {x : Int × Int}, Chg [] w A → l[j]? = some x → ∃ a, l1 = some a ∧ a.block < w.heap.size ∧ CellsAt A (a.add (j * 2)) 0 [.int .i64 x.1, .int .i64 x.2] := fun {A j x} c hx => by
    obtain ⟨_, _, a, ha, hb, hc⟩ := (hl.chg c (by simp)).each j x hx
    exact ⟨a, ha, hb, hc⟩
  refine go_pomanderlaw12_FlowChain _ _ _ _ _ _ ?_
  unfold W_pomanderlaw12_FlowChain
  refine ⟨fun _ => hknown w (Chg.refl _ _), fun hb => ?_⟩
  have hb' : (2 : Int) ≤ ln ∧ (ln : Int) ≤ 12 ∧ set < 65536 := by
    simp only [Bool.or_eq_false_iff, decide_eq_false_iff_not] at hb; omega
  intro b1 w3 l3 c3
  refine (flow_new w3 2 2 65536).mono ?_
  rintro _ w4 ⟨r3, r4, rfl, c4, hr⟩
  rw [if_pos (by unfold rightP; decide)] at hr
  obtain ⟨rfl, bf, fp, rfl, hF, hfp⟩ := hr
  have s3 := c3.size
  have s4 := c4.size
  have c04 := c3.trans0 c4
  refine ⟨_, _, rfl, ?_⟩
  refine ⟨fun _ i w' => ∃ j : Nat, i = (j : Int) ∧ j ≤ ln ∧ (∀ p ∈ l.take j, mayP 2 2 p) ∧ (l.take j).Nodup ∧ Chg [] w4 w', fun _ i _ => (ln - i).toNat, ⟨0, rfl, by omega, by simp, by simp, Chg.refl _ _⟩, ?_⟩
  rintro x1 _ w5 ⟨j, rfl, hj, hmay, hnd, c5⟩
  have s5 := c5.size
  have c05 := c04.trans0 c5
  refine ⟨fun hlt => ?_, fun hge => ?_⟩
  · have hlt' : j < ln := by simpa using hlt
    obtain ⟨x, hx⟩ := get_of (l := l) (j := j) (by omega)
    obtain ⟨a, rfl, hab, hc⟩ := hread c05 hx
    have hi := hi64 x (List.mem_of_getElem? hx)
    refine ⟨a, rfl, by omega, by omega, x.1, x.2, by simpa using hc, ?_⟩
    refine (flow_Get (hF.chg c5 (by simp)) (p1 := x.1) (p2 := x.2) hi.2).mono ?_
    rintro _ w6 ⟨r5, r6, rfl, c6, hr6⟩
    have c06 := c05.trans0 c6
    refine ⟨_, _, rfl, fun _ => hknown w6 c06, fun hok => ?_⟩
    have hmx : mayP 2 2 x := by
      by_cases hm : mayP 2 2 x
      · exact hm
      · have hm' : ¬ mayP (flowNew 2 2 65536).fr (flowNew 2 2 65536).se (x.1, x.2) := hm
        rw [if_neg hm'] at hr6; simp [hr6.2] at hok
    refine ⟨fun _ k w' => ∃ i : Nat, k = (i : Int) ∧ i ≤ j ∧ x ∉ l.take i ∧ Chg [] w4 w', fun _ k _ => (j - k).toNat, ⟨0, rfl, by omega, by simp, c5.trans0 c6⟩, ?_⟩
    rintro x2 _ w8 ⟨i, rfl, hi', hxi, c8⟩
    have c08 := c04.trans0 c8
    refine ⟨fun hk => ?_, fun hk => ?_⟩
    · have hk' : i < j := by simpa using hk
      obtain ⟨y, hy⟩ := get_of (l := l) (j := i) (by omega)
      obtain ⟨a', ea, hab', hc'⟩ := hread c08 hy
      obtain rfl : a = a' := by simpa using ea
      refine ⟨a, rfl, by omega, by omega, fun w9 c9 => ?_⟩
      have c09 := c08.trans0 c9
      obtain ⟨a', ea, _, hcy⟩ := hread c09 hy
      obtain rfl : a = a' := by simpa using ea
      obtain ⟨a', ea, _, hcx⟩ := hread c09 hx
      obtain rfl : a = a' := by simpa using ea
      refine ⟨y.1, y.2, by simpa using hcy, x.1, x.2, by simpa using hcx, fun _ => hknown w9 c09, fun hne => ?_⟩
      rw [wr (by omega) (by omega)]
      refine ⟨⟨i + 1, by omega, by omega, ?_, c8.trans0 c9⟩, by simp only []; omega⟩
      rw [take_snoc hy]
      intro hm
      rcases List.mem_append.1 hm with hm | hm
      · exact hxi hm
      · simp at hm; subst hm; simp at hne
    · have hk' : i = j := by have : ¬ i < j := by simpa using hk
                             omega
      subst hk'
      rw [wr (by omega) (by omega)]
      refine ⟨⟨i + 1, by omega, by omega, ?_, ?_, c8⟩, by simp only []; omega⟩
      · rw [take_snoc hx]
        intro p hp
        rcases List.mem_append.1 hp with hp | hp
        · exact hmay p hp
        · simp at hp; subst hp; exact hmx
      · rw [take_snoc hx, List.nodup_append]
        exact ⟨hnd, by simp, fun a ha b hb e => by simp at hb; subst hb; subst e; exact hxi ha⟩
  have hge' : ¬ j < ln := by simpa using hge
  have htk : l.take j = l := List.take_of_length_le (by omega)
  rw [htk] at hmay hnd
  obtain ⟨p0, hp0⟩ := get_of (l := l) (j := 0) (by omega)
  obtain ⟨a, rfl, hab, hc0⟩ := hread c05 hp0
  have hi0 := hi64 p0 (List.mem_of_getElem? hp0)
  have hset : u16 set := ⟨hs0, hb'.2.2⟩
  obtain ⟨mE, mg, mz, ms, mfr, mse, mmost⟩ := mark_one (most := 65536) (hmay p0 (List.mem_of_getElem? hp0)) hs0 hb'.2.2 (by omega)
  refine ⟨a, rfl, by omega, by omega, p0.1, p0.2, by simpa using hc0, ?_⟩
  refine (flow_mark (hF.chg c5 (by simp)) (p1 := p0.1) (p2 := p0.2) (n := 1) (set := set) hi0.2 hs0).mono ?_
  rintro _ w11 ⟨_, rfl, rfl, fp11, hF11, c11, hf11⟩
  have s11 := c11.size
  have hfp11 : ∀ i ∈ fp11, w.heap.size ≤ i := fun i hi => by
    rcases hf11 i hi with h | h
    · have := hfp i h; omega
    · omega
  have c011 : Chg [] w w11 := c05.trans c11 (fun i hi hlt => by have := hfp i hi; omega)
  refine ⟨_, rfl, ?_⟩
  refine (flow_copy hF11).mono ?_
  rintro _ w12 ⟨_, rfl, bo, fpo, rfl, hO12, c12, hfo⟩
  have s12 := c12.size
  have c012 := c011.trans0 c12
  have hlt11 := hF11.lt
  refine ⟨_, rfl, ?_⟩
  generalize hFm : markF (flowNew 2 2 65536) (p0.1, p0.2) 1 set = Fm at hF11 hO12
  have hFm' : markF (flowNew 2 2 65536) p0 1 set = Fm := hFm
  rw [hFm'] at mg mz ms mfr mse mmost
  refine ⟨fun _ q qn qc i w' => ∃ (j : Nat) (F : Fl) (fpf : List Nat) (rows : List ((Int × Int) × Nat)), i = (j : Int) + 1 ∧ j + 1 ≤ ln ∧ rows.length = j ∧ j = qn ∧ FlowAt w' bf F fpf ∧ F.fr = 2 ∧ F.se = 2 ∧ set ∈ F.sets ∧ (∀ (k : Nat) (p : Int × Int), l[k]? = some p → k ≤ j → F.g p = set) ∧
      FlowAt w' bo Fm fpo ∧ Gathered w w' l q qn qc rows ∧ (∀ i ∈ fpf, w.heap.size ≤ i ∧ i ∉ fpo ∧ i ∉ rowB q ∧ ∀ x ∈ rows, i ≠ x.2) ∧ (∀ i ∈ fpo, i ∉ rowB q ∧ ∀ x ∈ rows, i ≠ x.2) ∧ (∀ i ∈ rowB q, ∀ x ∈ rows, i ≠ x.2) ∧ Chg [] w w',
    fun _ _ _ _ i _ => (ln - i).toNat, ⟨0, Fm, fp11, [], rfl, by omega, rfl, rfl, hF11.chg c12 (by simp), mfr, mse, ms, ?_, hO12, ⟨RowAt.nil, by simp [rowB], by simp⟩, fun i hi => ⟨hfp11 i hi, fun hm => ?_, by simp [rowB], by simp⟩, by simp [rowB], by simp [rowB], c012⟩, ?_⟩
  · intro k p hp hk
    have : k = 0 := by omega
    subst this
    rw [hp0] at hp; cases hp
    rw [mg]; simp [putP]
  · have := hlt11 i hi; have := hfo i hm; omega
  rintro x3 q qn qc _ w13 ⟨j2, F, fpf, rows, rfl, hj2, hrl, rfl, hFf, hfr, hse, hsetF, hgF, hOo, hG, hd1, hd2, hd3, c13⟩
  have hltf := hFf.lt
  have hlto := hOo.lt
  have hrowlt := hG.row.lt
  refine ⟨fun hlt => ?_, fun hge2 => ?_⟩
  · have hlt' : j2 + 1 < ln := by have : (j2 : Int) + 1 < ln := by simpa using hlt
                                  omega
    obtain ⟨x, hx⟩ := get_of (l := l) (j := j2 + 1) (by omega)
    obtain ⟨y, hy⟩ := get_of (l := l) (j := j2) (by omega)
    have hix := hi64 x (List.mem_of_getElem? hx)
    have hiy := hi64 y (List.mem_of_getElem? hy)
    intro w14 c14
    have s14 := c14.size
    have c014 := c13.trans0 c14
    obtain ⟨a', ea, _, hcx⟩ := hread c014 hx
    obtain rfl : a = a' := by simpa using ea
    obtain ⟨a', ea, _, hcy⟩ := hread c014 hy
    obtain rfl : a = a' := by simpa using ea
    have e1 : IntKind.wrap .i64 ((j2 : Int) + 1 - 1) = (j2 : Int) := by rw [wr (by omega) (by omega)]; omega
    have e2 : ((j2 : Int) + 1).toNat = j2 + 1 := by omega
    rw [e1, e2]
    refine ⟨a, rfl, by omega, by omega, x.1, x.2, hcx, a, rfl, by omega, by omega, y.1, y.2, by simpa using hcy,
      fun b2 v1 v2 f1 f1n f1c w' => v1 = x.1 ∧ v2 = x.2 ∧ f1n = 1 ∧ f1c = 1 ∧ ∃ b3, f1 = some ⟨b3, 0, none⟩ ∧ w'.heap[b3]? = some (.cells #[.int .i64 y.1, .int .i64 y.2] 56 (0, 0)) ∧ w14.heap.size ≤ b3 ∧ w14.heap.size ≤ b2 ∧ b2 < w'.heap.size ∧ b2 ≠ b3 ∧ Chg [] w14 w', ?_, ?_, ?_⟩
    · rintro b2 _ _ _ _ _ w15 ⟨rfl, rfl, rfl, rfl, b3, rfl, hb3, k3, k2, k2', hne, c15⟩
      intro w20 c20
      have s15 := c15.size
      have s20 := c20.size
      have l15 : b3 < w15.heap.size := lt_of_heap hb3
      have hb320 := c20.obj (by simp; omega) hb3
      refine v_alloc fun b7 w21 e7 hb7 c21 => ?_
      have s21 := c21.size
      have c1421 : Chg [] w14 w21 := (c15.trans c20 (fun i hi hlt => by simp at hi; omega)).trans0 c21
      have c1321 := c14.trans0 c1421
      have hT := touches_one (p := y) (to := x) (c21.obj (by simp) hb320) hb7 hiy hix
      have hmx := hmay x (List.mem_of_getElem? hx)
      have hmy := hmay y (List.mem_of_getElem? hy)
      have hgy := hgF j2 y hy (Nat.le_refl _)
      obtain ⟨sE, sF⟩ := step_one (F := F) (a := x) (b := y) (by rw [hfr, hse]; exact hmx) (by rw [hfr, hse]; exact hmy) (fun p => hFf.each p) (by rw [hgy]; exact hsetF)
      have hF21 := hFf.chg c1321 (by simp)
      refine (flow_apply (c := 1) hF21 hT (fun i hi => by
        have := hltf i hi
        rintro (rfl | rfl) <;> omega) (by omega) (by simp)).mono ?_
      rintro _ w22 ⟨_, rfl, rfl, fp22, hF22, c22, hf22⟩
      rw [sF] at hF22
      have s22 := c22.size
      refine ⟨_, rfl, Same.of c22 (by simp; exact ⟨by omega, fun hm => by have := hltf _ hm; omega⟩), fun h => by rw [sE] at h; simp at h, fun _ => ?_⟩
      refine v_alloc fun b8 w23 e8 hb8 c23 => ?_
      have s23 := c23.size
      have c1323 : Chg fpf w13 w23 := (c1321.nil.trans c22 (fun i hi _ => hi)).trans c23 (by simp)
      have hG23 := hG.chg c1323 (fun i hi => ⟨(hd1 i hi).2.2.1, (hd1 i hi).2.2.2⟩)
      have hb323 : w23.heap[b3]? = some (.cells #[.int .i64 y.1, .int .i64 y.2] 56 (0, 0)) := c23.obj (by simp) (c22.obj (fun hm => by have := hltf _ hm; omega) (c21.obj (by simp) hb320))
      obtain ⟨q', qc', w24, happ, hrow24, c24, hf24⟩ := append_tc (x := (x, b3)) hG23.row hb8 (by omega)
      have s24 := c24.size
      have hgone : ∀ i ∈ fp22, i ∉ rowB q ∧ (∀ z ∈ rows, i ≠ z.2) ∧ w.heap.size ≤ i ∧ i ∉ fpo := fun i hi => by
        rcases hf22 i hi with h | h
        · have := hd1 i h; exact ⟨this.2.2.1, this.2.2.2, this.1, this.2.1⟩
        · refine ⟨fun hm => by have := hrowlt _ hm; omega, fun z hz e => ?_, by have := c13.size; omega, fun hm => by have := hlto _ hm; omega⟩
          obtain ⟨k, hk⟩ := List.getElem?_of_mem hz
          have := (hG.each k z hk).2.1; omega
      have hlt22 := hF22.lt
      have hq' : ∀ i ∈ rowB q', i ∈ rowB q ∨ w23.heap.size ≤ i := hf24
      have hws := c13.size
      refine ⟨q', _, qc', w24, happ, ?_⟩
      rw [wr (by omega) (by omega)]
      refine ⟨⟨j2 + 1, _, fp22, rows ++ [(x, b3)], by omega, by omega, by simp [hrl], rfl, (hF22.chg c23 (by simp)).chg c24 (fun i hi => (hgone i hi).1), hfr, hse, hsetF, ?_, (hOo.chg c1323 (fun i hi hm => (hd1 i hm).2.1 hi)).chg c24 (fun i hi => (hd2 i hi).1), ⟨hrow24, fun i hi => ?_, ?_⟩, fun i hi => ⟨(hgone i hi).2.2.1, (hgone i hi).2.2.2, fun hm => ?_, fun z hz e => ?_⟩, fun i hi => ⟨fun hm => ?_, fun z hz e => ?_⟩, fun i hi z hz e => ?_, ?_⟩, by simp only []; omega⟩
      · intro k p hp hk
        simp only [putP]
        by_cases hpx : p = x
        · rw [if_pos hpx, hgy]
        · rw [if_neg hpx]
          have : k ≠ j2 + 1 := fun e => by subst e; rw [hx] at hp; cases hp; exact hpx rfl
          exact hgF k p hp (by omega)
      · rcases hq' i hi with h | h
        · exact hG.fresh i h
        · omega
      · intro k z hz
        rcases Nat.lt_or_ge k rows.length with hk | hk
        · rw [List.getElem?_append_left hk] at hz
          obtain ⟨m1, m2, m3, b, m4, m5⟩ := hG23.each k z hz
          exact ⟨m1, by omega, m3, b, m4, c24.obj (fun hm => hd3 _ hm z (List.mem_of_getElem? hz) rfl) m5⟩
        · rw [List.getElem?_append_right hk] at hz
          have hk0 : k - rows.length = 0 := by
            rcases Nat.eq_zero_or_pos (k - rows.length) with h | h
            · exact h
            · rw [List.getElem?_eq_none (by simp; omega)] at hz; cases hz
          rw [hk0] at hz; simp at hz; subst hz
          have : k = j2 := by omega
          subst this
          exact ⟨by simp only []; omega, by simp only []; omega, hx, y, hy, c24.obj (fun hm => by have := hrowlt _ hm; omega) hb323⟩
      · rcases hq' i hm with h | h
        · exact (hgone i hi).1 h
        · have := hlt22 i hi; omega
      · rcases List.mem_append.1 hz with hz | hz
        · exact (hgone i hi).2.1 z hz e
        · simp at hz; subst hz
          rcases hf22 i hi with h | h
          · have := hltf i h; simp only [] at e; omega
          · simp only [] at e; omega
      · rcases hq' i hm with h | h
        · exact (hd2 i hi).1 h
        · have := hlto i hi; omega
      · rcases List.mem_append.1 hz with hz | hz
        · exact (hd2 i hi).2 z hz e
        · simp at hz; subst hz; simp only [] at e; have := hlto i hi; omega
      · rcases List.mem_append.1 hz with hz | hz
        · rcases hq' i hi with h | h
          · exact hd3 i h z hz e
          · obtain ⟨k, hk⟩ := List.getElem?_of_mem hz
            have := (hG.each k z hk).2.1; omega
        · simp at hz; subst hz
          simp only [] at e
          rcases hq' i hi with h | h
          · have := hrowlt i h; omega
          · omega
      · exact ((c13.trans c1323 (fun i hi hlt => by have := hd1 i hi; omega))).trans c24 (fun i hi hlt => by have := hG.fresh i hi; omega)
    · refine v_alloc fun b3 w16 e3 hb3 c16 => ?_
      intro b4 w17 l17 c17
      have s16 := c16.size
      have l16 : b3 < w16.heap.size := lt_of_heap hb3
      exact ⟨rfl, rfl, rfl, rfl, b3, rfl, c17.obj (by simp) hb3, by omega, by omega, by omega, by omega, c16.trans0 c17⟩
    · intro b5 w18 l18 c18
      refine v_alloc fun b6 w19 e6 hb6 c19 => ?_
      have s18 := c18.size
      have s19 := c19.size
      exact ⟨rfl, rfl, rfl, rfl, b6, rfl, hb6, by omega, by omega, by omega, by omega, c18.trans0 c19⟩
  have hge2' : j2 + 1 = ln := by have : ¬ (j2 : Int) + 1 < ln := by simpa using hge2
                                 omega
  have hT := hG.touches hi64 (by omega)
  obtain ⟨oE, oG⟩ := all_once (F := Fm) (l := l) (by rw [mfr, mse]; exact hmay) hnd hp0 mg hset mz ms
  refine (flow_apply (c := qc) hOo hT (fun i hi => by
    have := hd2 i hi
    rintro (h | ⟨z, hz, e⟩)
    · exact this.1 h
    · exact this.2 z hz e) (by omega) (fun t ht => by
      obtain ⟨k, a, b, _, _, rfl⟩ := chainT_mem ht
      simp)).mono ?_
  rintro _ w25 ⟨_, rfl, rfl, fp25, hO25, c25, hf25⟩
  have c025 : Chg [] w w25 := c13.trans c25 (fun i hi hlt => by have := hfo i hi; omega)
  refine ⟨_, rfl, fun h => by rw [oE] at h; simp at h, fun _ => ?_⟩
  have hF25 := hFf.chg c25 (fun i hi => (hd1 i hi).2.1)
  have hsh := stepF_shape Fm ⟨2, 0, (0, 0), 0, chainT l⟩
  have hofr : (applyF Fm (chainT l)).fr = 2 ∧ (applyF Fm (chainT l)).se = 2 := by
    unfold applyF; split
    · exact ⟨mfr, mse⟩
    · exact ⟨mfr, mse⟩
  refine ⟨fun _ i w' => ∃ k : Nat, i = (k : Int) ∧ k ≤ ln ∧ Chg [] w25 w', fun _ i _ => (ln - i).toNat, ⟨0, rfl, by omega, Chg.refl _ _⟩, ?_⟩
  rintro x7 _ w26 ⟨k, rfl, hk, c26⟩
  have c026 := c025.trans0 c26
  refine ⟨fun hlt => ?_, fun _ => hknown w26 c026⟩
  have hlt' : k < ln := by simpa using hlt
  obtain ⟨x, hx⟩ := get_of (l := l) (j := k) (by omega)
  obtain ⟨a', ea, _, hcx⟩ := hread c026 hx
  obtain rfl : a = a' := by simpa using ea
  have hix := hi64 x (List.mem_of_getElem? hx)
  have hmx := hmay x (List.mem_of_getElem? hx)
  refine ⟨a, rfl, by omega, by omega, x.1, x.2, by simpa using hcx, ?_⟩
  refine (flow_Get (hF25.chg c26 (by simp)) (p1 := x.1) (p2 := x.2) hix.2).mono ?_
  rintro _ w27 ⟨r13, r14, rfl, c27, hr27⟩
  rw [hfr, hse, if_pos (show mayP 2 2 (x.1, x.2) from hmx)] at hr27
  have c027 := c026.trans0 c27
  obtain ⟨a', ea, _, hcx'⟩ := hread c027 hx
  obtain rfl : a = a' := by simpa using ea
  refine ⟨_, _, rfl, x.1, x.2, by simpa using hcx', ?_⟩
  refine (flow_Get ((hO25.chg c26 (by simp)).chg c27 (by simp)) (p1 := x.1) (p2 := x.2) hix.2).mono ?_
  rintro _ w28 ⟨r15, r16, rfl, c28, hr28⟩
  rw [hofr.1, hofr.2, if_pos (show mayP 2 2 (x.1, x.2) from hmx)] at hr28
  have g1 : r13 = set := hr27.1.trans (hgF k x hx (by omega))
  have g2 : r15 = if k < 2 then set else 0 := hr28.1.trans (oG k x hx)
  refine ⟨_, _, rfl, fun hbad => ?_, fun _ => ?_⟩
  · exfalso
    subst g1 g2
    by_cases hk2 : k < 2
    · simp [hk2] at hbad; omega
    · simp [hk2] at hbad; omega
  · rw [wr (by omega) (by omega)]
    exact ⟨⟨k + 1, by omega, by omega, (c26.trans0 c27).trans0 c28⟩, by simp only []; omega⟩

theorem chain_lifted (os : Os) (started : os.Started) (H : Type) (enc : TypeId × Value → H) :
    ReturnsInHanded {} Try.checked os 6 .any (Rows.flowChainSpec.pre6 enc Try.prog Try.f6 Rows.flowChainRow.domain false) (Rows.flowChainSpec.post enc Try.prog Try.f6 false true false false) := by
  refine returnsInHanded_of_change (C := Try.checked) ownX started (by kernel_rfl) Try.func6
    (ChangeSpec.witness6 (enc := enc) (C := Try.checked) false ⟨#[], #[.slice none 0 0, .int .u32 0], []⟩ 8 (by kernel_rfl) (by kernel_rfl) (by kernel_rfl) (by kernel_rfl)) ?_
  intro W base args ds gs before hval0 hW hcnd _
  have hval : ∀ (j : Nat) t v, Try.f6.params[j]? = some t → args[j]? = some v → Value.okWide Try.prog W .any base t v := hval0
  have hW' := hW
  obtain ⟨p, q, hA0, hV, rfl, hfz, hnd⟩ := hW
  have hA : DataW.TrodAll enc Try.prog W 0 (fun _ => true) true Try.f6.params.toList args.toList ds p := hA0
  rw [Try.params6] at hA hval
  have hAll := hA
  obtain ⟨v0, vs0, d0, ds0, p0, q0, hargs, rfl, rfl, h0, r0⟩ := trodAll_cons hA
  obtain ⟨v1, vs1, d1, ds1, p1, q1, rfl, rfl, rfl, h1, r1⟩ := trodAll_cons r0
  obtain ⟨rfl, rfl, rfl⟩ := trodAll_nil r1
  obtain rfl : args = #[v0, v1] := by cases args; simp_all
  obtain ⟨rfl, rfl⟩ := trodVars_none hV
  have hblt : ∀ x ∈ p0 ++ (p1 ++ []), x.block < W.heap.size := fun x hx => hW'.lt x (by simpa using hx)
  obtain ⟨a0, n0, k0, rfl⟩ := okWide_slice Try.underlying47 (hval 0 47 v0 rfl rfl)
  obtain ⟨a1, rfl, rfl, rfl, w0⟩ := open_int un22 (hval 1 22 v1 rfl rfl) h1
  obtain ⟨f0, g0⟩ := h0
  obtain ⟨q1, m1, c1, ps, hms, hm1, hM⟩ := open_places g0
  simp [Value.cells] at hms
  obtain ⟨rfl, rfl, rfl⟩ := hms
  clear hA0 hval0
  refine (chain_walk hM hm1 (wf_u32 w0).1).mono fun e W' ⟨r, he, hr, hc⟩ => ?_
  subst he hr
  have bel := hc.below
  exact ⟨_, rfl, _, _, _, [], _, [], hW', trodAll_mk1 (shut_bool (by kernel_rfl) _), all_below laidOutX bel _ _ _ _ (fun t ht => by
    simp at ht
    rcases ht with rfl | rfl <;> exact ⟨by kernel_rfl, of_decide_eq_true (by kernel_rfl)⟩) hAll (fun x hx => hblt x (by simpa using hx)), rfl, bel.frame _, fun h => by cases h⟩

theorem chain_over : Rows.flowChainRow.holds Try.pinned (OpenSpec.ofChange Rows.flowChainSpec) :=
  OpenClaim.holds_of_wide 6 Try.f6 rfl rfl rfl rfl rfl rfl rfl ⟨rfl, rfl, rfl, rfl, rfl⟩ rfl rfl rfl rfl rfl (by kernel_rfl) Try.func6 (by kernel_rfl)
    (of_decide_eq_true (by kernel_rfl)) (by unfold Func.isWrapper; first | (rw [if_pos (by decide +kernel)]; kernel_rfl) | (rw [if_neg (by decide +kernel)]; exact ⟨rfl, rfl⟩))
    (fun os started H enc _ => chain_lifted os started H enc)

theorem flowChain_proved : Rows.FlowChainSaid := chain_over
#print axioms flowChain_proved
end Go.Proofs.Ytkfncibmfcdokaa
