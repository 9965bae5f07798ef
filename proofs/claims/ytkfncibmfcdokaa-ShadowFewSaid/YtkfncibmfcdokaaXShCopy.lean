/- Shadows: Copy. -/
import Derived.Test.YtkfncibmfcdokaaXMapIter
set_option linter.unusedVariables false
set_option linter.unusedSimpArgs false
namespace Go.Proofs.Ytkfncibmfcdokaa
open Go Go.RowKit Go.X Go.XR

theorem maps_all (w : World) (m : Option Nat) : Calls Try.prog 98 #[.map m] w fun e w' => ∃ r : Value, e = .returned r ∧ ∃ cb, r = .func (.func 118) #[] #[.pointer (some ⟨cb, 0, none⟩)] ∧ cb = w.heap.size ∧ w'.heap[cb]? = some (.cells #[.map m] 173 (0, 0)) ∧ Chg [] w w' := by
  refine go_maps_All_0 _ _ _ ?_
  unfold W_maps_All_0
  exact v_alloc fun b w1 e h c => ⟨b, rfl, e, h, c⟩

theorem PageC.ones {w : World} {q : Nat} {n : Int} {s : Nat → Int} {c : Array Value} (h1 : c.size = 65) (h2 : c[0]? = some (.int .i64 n)) (h3 : ∀ i, i < 64 → c[1 + i]? = some (.int .u32 (s i))) : ∀ v ∈ c.toList, Value.oneCell' v = true := by
  intro v hv
  obtain ⟨j, hj⟩ := List.getElem?_of_mem hv
  have hlt : j < c.toList.length := (List.getElem?_eq_some_iff.1 hj).1
  simp at hlt
  cases j with
  | zero =>
    have : c[0]? = some v := by simpa using hj
    rw [h2] at this; cases this; rfl
  | succ j =>
    have : c[1 + j]? = some v := by rw [Nat.add_comm]; simpa using hj
    rw [h3 j (by omega)] at this; cases this; rfl

theorem shadow_copy {w : World} {b : Nat} {pages : Int} {g : Int → Int} {fp : List Nat} (h : ShadowAt w b pages g fp) :
    Calls Try.prog 57 #[.pointer (some ⟨b, 0, none⟩)] w fun e w' => ∃ r1 : Option Addr, e = .returned (.pointer r1) ∧ (∃ b' fp', r1 = some ⟨b', 0, none⟩ ∧ ShadowAt w' b' pages g fp' ∧ Chg [] w w' ∧ ∀ i ∈ fp', w.heap.size ≤ i) := by
  obtain ⟨r, l, h1, h2, h3, h4, rfl⟩ := h.there
  have hlt := h.lt
  refine go_shadow_Shadow_Copy _ _ _ ?_
  unfold W_shadow_Shadow_Copy
  refine (shadow_none h).mono ?_
  rintro _ w1 ⟨_, rfl, rfl, hw⟩
  subst w1
  refine ⟨_, rfl, fun h => by simp at h, fun _ => ⟨_, rfl, pages, by rw [cell_of h1]; rfl, ?_⟩⟩
  refine v_alloc fun b1 w2 e1 hb1 c2 => ?_
  refine v_alloc fun b2 w3 e2 hb2 c3 => ?_
  refine v_alloc fun b3 w4 e3 hb3 c4 => ?_
  refine v_set0 hb3 (by simp) fun w5 hb35 c5 s5 => ?_
  have s2 := c2.size
  have s3 := c3.size
  have s4 := c4.size
  have l2 : b1 < w2.heap.size := lt_of_heap hb1
  have l3 : b2 < w3.heap.size := lt_of_heap hb2
  have l4 : b3 < w4.heap.size := lt_of_heap hb3
  have c05 : Chg [] w w5 := ((c2.trans0 c3).trans0 c4).trans c5 (fun i hi hlt => by simp at hi; omega)
  have hh5 := c05.obj (by simp) h1
  have hb15 := c5.obj (by simp; omega) (c4.obj (by simp) (c3.obj (by simp) hb1))
  have hb25 := c5.obj (by simp; omega) (c4.obj (by simp) hb2)
  refine ⟨some r, by rw [add_at, cell_of hh5]; rfl, ?_⟩
  refine (maps_all w5 (some r)).mono ?_
  rintro _ w6 ⟨_, rfl, cb, rfl, ecb, hcb, c6⟩
  have s6 := c6.size
  have c06 := c05.trans0 c6
  have hm6 := h2.chg c06 (by simp)
  have hcbl : cb < w6.heap.size := lt_of_heap hcb
  have hrl : r < w6.heap.size := hm6.lt
  refine ⟨_, rfl, allS pgF l, allSp pgF l, [cb, r], isFn118 cb, iterates_all hcb hm6, by simp; exact ⟨hcbl, hrl⟩,
    fun O pre w' => ∃ l' : List (Int × Nat), l'.map Prod.fst = pre.map Prod.fst ∧ MapIs w' b1 (fun n : Int => .int .i64 n) encPg l' ∧ (∀ x ∈ l', PageC w' x.2 (many (pg g x.1)) (pg g x.1) ∧ x.2 ∉ O ∧ w6.heap.size ≤ x.2) ∧ (l'.map Prod.snd).Nodup ∧
      w'.heap[b2]? = some (.cells #[.int .i64 pages, .map (some b1)] 176 (0, 0)) ∧ w'.heap[b3]? = some (.cells #[.pointer (some ⟨b2, 0, none⟩)] 90 (0, 0)) ∧ Chg [] w w' ∧ w6.heap.size ≤ w'.heap.size, ?_, ?_, ?_, ?_⟩
  · rintro pre O O' A B ⟨l', k1, k2, k3, k4, k5, k6, k7, k8⟩ hO hc hO' hg
    have hn : ∀ {i : Nat}, i < w6.heap.size → i ∉ O := fun hi hm => by have := (hO _ hm).1; omega
    have hsz := hc.size
    refine ⟨l', k1, k2.chg hc (hn (by omega)), fun x hx => ?_, k4, hc.obj (hn (by omega)) k5, hc.obj (hn (by omega)) k6, k7.trans hc (fun i hi hlt => by have := (hO i hi).1; omega), by omega⟩
    obtain ⟨a1, a2, a3⟩ := k3 x hx
    refine ⟨a1.chg hc a2, fun hm => ?_, a3⟩
    rcases hg _ hm with h | h
    · exact a2 h
    · have := a1.lt; omega
  · intro O w7 c7 hO
    exact ⟨[], rfl, ⟨#[], 0, c7.obj (by simp) (c6.obj (by simp) hb15), rfl, by simp, by simp, by simp⟩, by simp, by simp, c7.obj (by simp) (c6.obj (by simp) hb25), c7.obj (by simp) (c6.obj (by simp) hb35), c06.trans0 c7, c7.size⟩
  · rintro l1 O pre x1 x2 w7 hO hl1 ⟨done, hd, hdn, hds⟩ ⟨l', k1, k2, k3, k4, k5, k6, k7, k8⟩ w8 c8
    have hn : ∀ {i : Nat}, i < w6.heap.size → i ∉ [l1] := fun hi hm => by simp at hm; subst hm; have := (hO _ hl1).1; omega
    have s8 := c8.size
    -- the element
    obtain ⟨k, v, done', hdd, hx1, hx2, hpre⟩ : ∃ (k : Int) (v : Nat) (done' : List (Int × Nat)), done = done' ++ [(k, v)] ∧ x1 = k ∧ x2 = some ⟨v, 0, none⟩ ∧ pre = done'.map pgF := by
      have hne : done ≠ [] := by rintro rfl; simp at hd
      obtain ⟨done', y, rfl⟩ : ∃ d' y, done = d' ++ [y] := ⟨done.dropLast, done.getLast hne, (List.dropLast_concat_getLast hne).symm⟩
      rw [List.map_append] at hd
      have := List.append_inj' hd rfl
      have h2' : (x1, x2) = pgF y := by simpa using this.2
      exact ⟨y.1, y.2, done', rfl, congrArg Prod.fst h2', congrArg Prod.snd h2', this.1⟩
    subst hdd hx1 hx2 hpre
    have hkl : (x1, v) ∈ l := hds _ (by simp)
    have hknew : x1 ∉ done'.map Prod.fst := fun hm => by
      rw [List.map_append, List.nodup_append] at hdn
      exact hdn.2.2 _ hm x1 (by simp) rfl
    obtain ⟨v0, v1, ⟨c, p1, p2, p3, p4⟩, vm⟩ := h3 _ hkl
    simp only [] at v0 v1 p1 p3 p4
    have c08 : Chg [] w w8 := k7.trans c8 (fun i hi hlt => by simp at hi; subst hi; have := (hO _ hl1).1; omega)
    have hp8 := c08.obj (by simp) p1
    refine ⟨_, rfl, c.toList, by simp [p2], cellsAt_of (by simpa using hp8), ?_⟩
    refine v_alloc fun b4 w9 e4 hb4 c9 => ?_
    have s9 := c9.size
    have l9 : b4 < w9.heap.size := lt_of_heap hb4
    refine ⟨PageC.ones (w := w) (q := v) p2 p3 p4, ?_⟩
    refine v_fill hb4 (by simp [z181_XG3, p2]) (by simp [z181_XG3]) fun w10 hb410 c10 s10 => ?_
    have c810 : Chg [] w8 w10 := c9.trans c10 (fun i hi hlt => by simp at hi; omega)
    have hb310 := c810.obj (by simp) (c8.obj (hn (by omega)) k6)
    have hb210 := c810.obj (by simp) (c8.obj (hn (by omega)) k5)
    refine ⟨_, by rw [cell_of hb310]; rfl, _, rfl, some b1, by rw [add_at, cell_of hb210]; rfl, ?_⟩
    have hm10 := (k2.chg c8 (hn (by omega))).chg c810 (by simp)
    obtain ⟨w11, hu, c11, hs11, hm11⟩ := hm10.update (P := Try.prog) (T := 173) u173 keyInt x1 b4
    refine ⟨w11, hu, by omega, ?_, ?_⟩
    · have hknone : lookK x1 l' = none := lookK_none.2 fun p hp e => by
        have : p.1 ∈ l'.map Prod.fst := List.mem_map.2 ⟨p, hp, rfl⟩
        rw [k1, List.map_map] at this
        exact hknew (e ▸ (by simpa [pgF, Function.comp_def] using this))
      have hupd : upd x1 b4 l' = l' ++ [(x1, b4)] := by unfold upd; rw [hknone]; rfl
      rw [hupd] at hm11
      refine ⟨l' ++ [(x1, b4)], by simp [k1], hm11, fun x hx => ?_, ?_, c11.obj (by simp; omega) hb210, c11.obj (by simp; omega) hb310, (c08.trans0 c810).trans c11 (fun i hi hlt => by simp at hi; omega), by omega⟩
      · rcases List.mem_append.1 hx with hx | hx
        · obtain ⟨a1, a2, a3⟩ := k3 x hx
          exact ⟨((a1.chg c8 (fun hm => by simp at hm; exact a2 (hm ▸ hl1))).chg c810 (by simp)).chg c11 (by simp; omega), a2, a3⟩
        · simp at hx; subst hx
          refine ⟨⟨c, c11.obj (by simp; omega) (by simpa using hb410), p2, p3, p4⟩, fun hm => ?_, by simp only []; omega⟩
          have := (hO _ hm).2; omega
      · rw [List.map_append, List.nodup_append]
        refine ⟨k4, by simp, fun a ha b' hb' e => ?_⟩
        simp at hb'; subst hb'; subst e
        obtain ⟨x, hx, rfl⟩ := List.mem_map.1 ha
        have := (k3 x hx).1.lt; omega
    · intro i hi
      have hi' : i < w8.heap.size ∧ i ≠ b1 := by
        rcases List.mem_append.1 hi with hi | hi
        · simp at hi; rcases hi with rfl | rfl
          · exact ⟨by omega, by omega⟩
          · have := h2.lt; exact ⟨by omega, by omega⟩
        · have := hO i hi; exact ⟨by omega, by omega⟩
      rw [c11.block i (by have := c810.size; omega) (by simpa using hi'.2), c810.block i hi'.1 (by simp)]
  · rintro d1 O xs w12 hO hd1 ⟨done, rfl, hdn, hds, hda⟩ ⟨l', k1, k2, k3, k4, k5, k6, k7, k8⟩
    refine ⟨_, by rw [cell_of k6]; rfl, fun w13 c13 => ?_⟩
    have hn : ∀ {i : Nat}, i < w6.heap.size → i ∉ [d1] := fun hi hm => by simp at hm; subst hm; have := (hO _ hd1).1; omega
    have hkeys : ∀ n, n ∈ l'.map Prod.fst ↔ n ∈ l.map Prod.fst := fun n => by
      rw [k1, List.map_map]
      constructor
      · intro hm
        obtain ⟨x, hx, e⟩ := List.mem_map.1 hm
        exact List.mem_map.2 ⟨x, hds x hx, e⟩
      · intro hm
        obtain ⟨x, hx, e⟩ := List.mem_map.1 hm
        exact List.mem_map.2 ⟨x, hda x hx, e⟩
    have hget : ∀ x ∈ l', ∃ y ∈ l, y.1 = x.1 := fun x hx => by
      have := (hkeys x.1).1 (List.mem_map.2 ⟨x, hx, rfl⟩)
      obtain ⟨y, hy, e⟩ := List.mem_map.1 this
      exact ⟨y, hy, e⟩
    refine ⟨b2, b2 :: b1 :: l'.map Prod.snd, rfl, ⟨⟨b1, l', c13.obj (hn (by omega)) k5, k2.chg c13 (hn (by omega)), fun x hx => ?_, fun n hnone i hi => ?_, rfl⟩, ?_, h.pages1, h.pages2, h.each⟩, k7.trans c13 (fun i hi hlt => by simp at hi; subst hi; have := (hO _ hd1).1; omega), fun i hi => ?_⟩
    · obtain ⟨a1, a2, a3⟩ := k3 x hx
      obtain ⟨y, hy, e⟩ := hget x hx
      obtain ⟨q1, q2, q3, q4⟩ := h3 y hy
      rw [e] at q1 q2 q4
      exact ⟨q1, q2, a1.chg c13 (fun hm => by simp at hm; exact a2 (hm ▸ hd1)), q4⟩
    · refine h4 n (lookK_none.2 fun p hp e => ?_) i hi
      have := (hkeys n).2 (List.mem_map.2 ⟨p, hp, e⟩)
      obtain ⟨x, hx, e'⟩ := List.mem_map.1 this
      exact lookK_none.1 hnone x hx e'
    · simp only [List.nodup_cons, List.mem_cons, not_or]
      refine ⟨⟨by omega, fun hm => ?_⟩, fun hm => ?_, k4⟩
      · obtain ⟨x, hx, e⟩ := List.mem_map.1 hm
        have := (k3 x hx).2.2; omega
      · obtain ⟨x, hx, e⟩ := List.mem_map.1 hm
        have := (k3 x hx).2.2; omega
    · simp only [List.mem_cons] at hi
      rcases hi with rfl | rfl | hi
      · omega
      · omega
      · obtain ⟨x, hx, e⟩ := List.mem_map.1 hi
        have := (k3 x hx).2.2; omega
end Go.Proofs.Ytkfncibmfcdokaa
