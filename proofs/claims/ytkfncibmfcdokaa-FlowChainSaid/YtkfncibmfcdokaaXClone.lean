/- maps.Clone, slices.Clone; Copy of a table, of a flow. -/
import Derived.Test.YtkfncibmfcdokaaXShCopy
import Derived.Test.YtkfncibmfcdokaaXFlow2
import Derived.Test.YtkfncibmfcdokaaXG4
import Derived.Test.YtkfncibmfcdokaaXG5
import Derived.Laws.Externs
import Derived.Laws.Cover3
import Derived.MapKept
set_option linter.unusedVariables false
set_option linter.unusedSimpArgs false
namespace Go.Proofs.Ytkfncibmfcdokaa
open Go Go.RowKit Go.X Go.XR

theorem run_clone {P : Program} {w : World} {r : Nat} {es : Array MapEntry} {clk : Nat} (t : TypeId) (hb : w.heap[r]? = some (.map es clk)) :
    (Extern.MapsClone.clone #[.iface t (.map (some r))]).run P w = .ok (.iface t (.map (some w.heap.size))) (w.alloc (.map es clk)) := by
  have e : Extern.MapsClone.clone #[.iface t (.map (some r))] = (getObj r >>= fun o => match o with
      | .map entries clock => (newObj (.map entries clock) >>= fun n => pure (.iface t (.map (some n))))
      | _ => stuck "maps.clone: a map expected") := rfl
  rw [e]
  simp [MapKept.run_getObj_map hb, Result.andThen, go_sem]
theorem run_clone114 {w : World} {r : Nat} {es : Array MapEntry} {clk : Nat} (t : TypeId) (hb : w.heap[r]? = some (.map es clk)) :
    (callFunc 114 #[.iface t (.map (some r))]).run Try.prog w = .ok (.value (.iface t (.map (some w.heap.size)))) (w.alloc (.map es clk)) := by
  rw [run_callFunc_extern Try.func114 (by kernel_rfl) (by kernel_rfl) (by kernel_rfl) (e := Extern.MapsClone.clone) (by kernel_rfl), run_clone t hb]
  rfl
theorem run_assertMap {P : Program} (t xT k e : TypeId) (v : Value) (h : P.underlying t = some (.map k e)) (w : World) : (Instr.typeAssert (.iface t v) xT t false).run P w = .ok v w := by
  simp [Instr.typeAssert, run_underlying h, go_sem, Result.andThen]

theorem clone80 {w : World} {b : Nat} {es : Array MapEntry} {clk : Nat} (hb : w.heap[b]? = some (.map es clk)) :
    Calls Try.prog 80 #[.map (some b)] w fun e w' => ∃ r : Option Nat, e = .returned (.map r) ∧ (r = some w.heap.size ∧ w' = w.alloc (.map es clk)) := by
  refine go_maps_Clone_134 _ _ _ ?_
  unfold W_maps_Clone_134
  exact ⟨fun h => by simp at h, fun _ => ⟨_, _, run_clone114 143 hb, _, fun w => run_assertMap 143 20 _ _ _ u143 w, rfl, rfl⟩⟩
theorem clone112 {w : World} {b : Nat} {es : Array MapEntry} {clk : Nat} (hb : w.heap[b]? = some (.map es clk)) :
    Calls Try.prog 112 #[.map (some b)] w fun e w' => ∃ r : Option Nat, e = .returned (.map r) ∧ (r = some w.heap.size ∧ w' = w.alloc (.map es clk)) := by
  refine go_maps_Clone_416 _ _ _ ?_
  unfold W_maps_Clone_416
  exact ⟨fun h => by simp at h, fun _ => ⟨_, _, run_clone114 198 hb, _, fun w => run_assertMap 198 20 _ _ _ u198 w, rfl, rfl⟩⟩
theorem clone113 {w : World} {b : Nat} {es : Array MapEntry} {clk : Nat} (hb : w.heap[b]? = some (.map es clk)) :
    Calls Try.prog 113 #[.map (some b)] w fun e w' => ∃ r : Option Nat, e = .returned (.map r) ∧ (r = some w.heap.size ∧ w' = w.alloc (.map es clk)) := by
  refine go_maps_Clone_413 _ _ _ ?_
  unfold W_maps_Clone_413
  exact ⟨fun h => by simp at h, fun _ => ⟨_, _, run_clone114 199 hb, _, fun w => run_assertMap 199 20 _ _ _ (show Try.prog.underlying 199 = some (.map 210 3) by kernel_rfl) w, rfl, rfl⟩⟩

theorem slice_nil_eq (a : Addr) (n c : Nat) (x y : Operand) (w : World) : ((do eqGuard .eql 31 x y (.slice (some a) n c) (.slice none 0 0); binOp .eql 31 (.slice (some a) n c) (.slice none 0 0) : Sem Value)).run Try.prog w = .ok (.bool false) w := by
  simp only [binOp]
  simp [eqGuard, run_equal_slice_nil w 31 22 (some a) n c (show Try.prog.underlying 31 = some (.slice 22) by kernel_rfl)]
theorem clone111 {w : World} {a : Addr} {n c : Nat} {xs : List Int} (h : RowAt w 22 1 (some a) n c (xs.map (.int .u32))) (hn : n ≤ 1000000000) :
    Calls Try.prog 111 #[.slice (some a) n c] w fun e w' => ∃ (r : Option Addr) (rn rc : Nat), e = .returned (.slice r rn rc) ∧ (rn = n ∧ RowAt w' 22 1 r n rc (xs.map (.int .u32)) ∧ Chg [] w w' ∧ ∀ i ∈ rowB r, w.heap.size ≤ i) := by
  refine go_slices_Clone_334 _ _ _ _ _ ?_
  unfold W_slices_Clone_334
  refine ⟨false, slice_nil_eq a n c _ _, fun h => by simp at h, fun _ => ?_⟩
  refine v_alloc fun b1 w1 e1 hb1 c1 => ?_
  have hl := h.length
  have h0 : RowAt w1 22 1 (some ⟨b1, 0, none⟩) 0 0 [] := RowAt.of_heap (n := 0) (cs := []) hb1 rfl (Nat.zero_le _)
  obtain ⟨p', c', w', happ, hrow, hc, hf⟩ := h0.append (P := Try.prog) (t := 31) (ty := 31) (i := _) (z := .int .u32 0) (bytes := 4) (by kernel_rfl) (show Try.prog.info? 22 = some Try.t22 by kernel_rfl) (by kernel_rfl) (by kernel_rfl) (by kernel_rfl) rfl (by omega)
    (a := a) (m := n) (mc := c) (news := xs.map (.int .u32)) (by simpa using hl) (fun i u hi => by
      obtain ⟨a', ea, hc⟩ := (h.chg c1 (by simp)).at hi
      obtain rfl : a = a' := by simpa using ea
      exact hc) (fun u hu => by obtain ⟨x, _, rfl⟩ := List.mem_map.1 hu; rfl) (by simp only [maxLen]; omega) (by omega)
  refine ⟨p', 0 + n, c', w', happ, by omega, by simpa using hrow, c1.trans hc (fun i hi hlt => by simp [rowB] at hi; omega), fun i hi => ?_⟩
  rcases hf i hi with h | h
  · simp [rowB] at h; omega
  · have := c1.size; omega

theorem table_copy {w : World} {b : Nat} {most : Int} {sets : List Int} {fp : List Nat} (h : TableAt w b most sets fp) :
    Calls Try.prog 79 #[.pointer (some ⟨b, 0, none⟩)] w fun e w' => ∃ r1 : Option Addr, e = .returned (.pointer r1) ∧ (∃ b' fp', r1 = some ⟨b', 0, none⟩ ∧ TableAt w' b' most sets fp' ∧ Chg [] w w' ∧ ∀ i ∈ fp', w.heap.size ≤ i) := by
  obtain ⟨p, c, r, j, clk, h1, h2, h3, h4, rfl⟩ := h.there
  refine go_labels_Table_Copy _ _ _ ?_
  unfold W_labels_Table_Copy
  refine (table_none h).mono ?_
  rintro _ w1 ⟨_, rfl, rfl, hw⟩
  subst w1
  refine ⟨_, rfl, fun h => by simp at h, fun _ w2 c2 => ?_⟩
  obtain ⟨a, rfl⟩ : ∃ a, p = some a := by
    cases p with
    | some a => exact ⟨a, rfl⟩
    | none =>
      exfalso
      obtain ⟨s, hs⟩ : ∃ s, (sets.map (Value.int .u32))[0]? = some s := by
        have := h.some
        cases sets with
        | nil => exact absurd rfl this
        | cons a l => exact ⟨_, rfl⟩
      obtain ⟨a, ha, _⟩ := h2.at hs
      cases ha
  have h12 := c2.obj (by simp) h1
  have cells : ∀ {A : World}, A.heap[b]? = some (.cells #[.int .i64 most, .slice (some a) sets.length c, .map (some r), .map (some j)] 201 (0, 0)) →
      A.cell? (⟨b, 0, none⟩ : Addr) = some (.int .i64 most) ∧ A.cell? ((⟨b, 0, none⟩ : Addr).add 1) = some (.slice (some a) sets.length c) ∧ A.cell? ((⟨b, 0, none⟩ : Addr).add 2) = some (.map (some r)) ∧ A.cell? ((⟨b, 0, none⟩ : Addr).add 3) = some (.map (some j)) := fun hA =>
    ⟨by rw [cell_of hA]; rfl, by rw [add_at, cell_of hA]; rfl, by rw [add_at, cell_of hA]; rfl, by rw [add_at, cell_of hA]; rfl⟩
  have k2 := cells h12
  have hm := h.most2
  have hfw := h.few
  refine ⟨_, rfl, _, k2.1, _, _, _, k2.2.1, _, k2.2.2.1, _, k2.2.2.2, ?_⟩
  refine (clone111 (h2.chg c2 (by simp)) (by omega)).mono ?_
  rintro _ w3 ⟨q, qn, qc, rfl, rfl, hq, c3, hqf⟩
  have c03 := c2.trans0 c3
  have k3 := cells (c03.obj (by simp) h1)
  refine ⟨_, _, _, rfl, ⟨k3.1, k3.2.1, k3.2.2.1, k3.2.2.2⟩, ?_⟩
  obtain ⟨es, ck, m1, m2⟩ := h3.chg c03 (by simp)
  refine (clone112 m1).mono ?_
  rintro _ w4 ⟨_, rfl, rfl, hw⟩
  have c4 : Chg [] w3 w4 := by rw [hw]; exact Chg.alloc _ _
  have m14 : w4.heap[w3.heap.size]? = some (.map es ck) := by rw [hw]; exact heap_new _ _
  have k4 := cells ((c03.trans0 c4).obj (by simp) h1)
  refine ⟨_, rfl, ⟨k4.1, k4.2.1, k4.2.2.1, k4.2.2.2⟩, ?_⟩
  refine (clone113 ((c03.trans0 c4).obj (by simp) h4)).mono ?_
  rintro _ w5 ⟨_, rfl, rfl, hw5⟩
  have c5 : Chg [] w4 w5 := by rw [hw5]; exact Chg.alloc _ _
  have m15 : w5.heap[w4.heap.size]? = some (.map #[] clk) := by rw [hw5]; exact heap_new _ _
  have c05 := (c03.trans0 c4).trans0 c5
  have k5 := cells (c05.obj (by simp) h1)
  refine ⟨_, rfl, ⟨k5.1, k5.2.1, k5.2.2.1, k5.2.2.2⟩, ?_⟩
  refine v_alloc fun b1 w6 e1 hb1 c6 => ?_
  have s2 := c2.size
  have s3 := c3.size
  have s4 : w4.heap.size = w3.heap.size + 1 := by rw [hw]; simp
  have s5 : w5.heap.size = w4.heap.size + 1 := by rw [hw5]; simp
  have hqlt := hq.lt
  refine ⟨b1, b1 :: w3.heap.size :: w4.heap.size :: rowB q, rfl, ⟨⟨q, qc, w3.heap.size, w4.heap.size, clk, hb1, ((hq.chg c4 (by simp)).chg c5 (by simp)).chg c6 (by simp), ⟨es, ck, c6.obj (by simp) (c5.obj (by simp) m14), m2⟩, c6.obj (by simp) m15, rfl⟩, ?_, h.some, h.few, h.most1, h.most2, h.each, h.distinct⟩, c05.trans0 c6, fun i hi => ?_⟩
  · simp only [List.nodup_cons, List.mem_cons, not_or]
    exact ⟨⟨by omega, by omega, fun hm => by have := hqlt _ hm; omega⟩, ⟨by omega, fun hm => by have := hqlt _ hm; omega⟩, fun hm => by have := hqlt _ hm; omega, rowB_nodup _⟩
  · simp only [List.mem_cons] at hi
    rcases hi with rfl | rfl | rfl | hi
    · omega
    · omega
    · omega
    · have := hqf i hi; omega

theorem flow_copy {w : World} {b : Nat} {F : Fl} {fp : List Nat} (h : FlowAt w b F fp) :
    Calls Try.prog 37 #[.pointer (some ⟨b, 0, none⟩)] w fun e w' => ∃ r1 : Option Addr, e = .returned (.pointer r1) ∧ (∃ b' fp', r1 = some ⟨b', 0, none⟩ ∧ FlowAt w' b' F fp' ∧ Chg [] w w' ∧ ∀ i ∈ fp', w.heap.size ≤ i) := by
  obtain ⟨T, m, d, r, l, fpT, fpm, fpd, gm, gd, h1, h2, h3, h4, h5, h6, h7, h8, h9, rfl⟩ := h.there
  refine go_flow_Flow_Copy _ _ _ ?_
  unfold W_flow_Flow_Copy
  refine (flow_none h).mono ?_
  rintro _ w1 ⟨_, rfl, rfl, hw⟩
  subst w1
  refine ⟨_, rfl, fun h => by simp at h, fun _ w2 c2 => ?_⟩
  have cells : ∀ {A : World}, A.heap[b]? = some (.cells #[.int .i64 F.fr, .int .i64 F.se, .pointer (some ⟨T, 0, none⟩), .pointer (some ⟨m, 0, none⟩), .pointer (some ⟨d, 0, none⟩), .map (some r)] 145 (0, 0)) →
      CellsAt A (⟨b, 0, none⟩ : Addr) 0 [.int .i64 F.fr, .int .i64 F.se] ∧ A.cell? ((⟨b, 0, none⟩ : Addr).add 2) = some (.pointer (some ⟨T, 0, none⟩)) ∧ A.cell? ((⟨b, 0, none⟩ : Addr).add 3) = some (.pointer (some ⟨m, 0, none⟩)) ∧ A.cell? ((⟨b, 0, none⟩ : Addr).add 4) = some (.pointer (some ⟨d, 0, none⟩)) ∧ A.cell? ((⟨b, 0, none⟩ : Addr).add 5) = some (.map (some r)) := fun hA =>
    ⟨⟨by rw [add_at, cell_of hA]; rfl, by rw [add_at, cell_of hA]; rfl, trivial⟩, by rw [add_at, cell_of hA]; rfl, by rw [add_at, cell_of hA]; rfl, by rw [add_at, cell_of hA]; rfl, by rw [add_at, cell_of hA]; rfl⟩
  have k2 := cells (c2.obj (by simp) h1)
  refine ⟨_, rfl, _, _, k2.1, _, k2.2.1, _, k2.2.2.1, _, k2.2.2.2.1, _, k2.2.2.2.2, ?_⟩
  refine (table_copy (h2.chg c2 (by simp))).mono ?_
  rintro _ w3 ⟨_, rfl, T', fpT', rfl, hT', c3, hfT⟩
  have c03 := c2.trans0 c3
  refine ⟨_, rfl, cells (c03.obj (by simp) h1), ?_⟩
  refine (shadow_copy (h3.chg c03 (by simp))).mono ?_
  rintro _ w4 ⟨_, rfl, m', fpm', rfl, hm', c4, hfm⟩
  have c04 := c03.trans0 c4
  refine ⟨_, rfl, cells (c04.obj (by simp) h1), ?_⟩
  refine (shadow_copy (h4.chg c04 (by simp))).mono ?_
  rintro _ w5 ⟨_, rfl, d', fpd', rfl, hd', c5, hfd⟩
  have c05 := c04.trans0 c5
  refine ⟨_, rfl, cells (c05.obj (by simp) h1), ?_⟩
  obtain ⟨es, ck, m1, m2⟩ := h5.chg c05 (by simp)
  refine (clone80 m1).mono ?_
  rintro _ w6 ⟨_, rfl, rfl, hw6⟩
  have c6 : Chg [] w5 w6 := by rw [hw6]; exact Chg.alloc _ _
  have m16 : w6.heap[w5.heap.size]? = some (.map es ck) := by rw [hw6]; exact heap_new _ _
  refine ⟨_, rfl, cells ((c05.trans0 c6).obj (by simp) h1), ?_⟩
  refine v_alloc fun b1 w7 e1 hb1 c7 => ?_
  have s2 := c2.size
  have s3 := c3.size
  have s4 := c4.size
  have s5 := c5.size
  have s6 : w6.heap.size = w5.heap.size + 1 := by rw [hw6]; simp
  have t1 := hT'.lt
  have t2 := hm'.lt
  have t3 := hd'.lt
  have c37 := ((c4.trans0 c5).trans0 c6).trans0 c7
  refine ⟨b1, b1 :: w5.heap.size :: (fpT' ++ (fpm' ++ fpd')), rfl, ⟨⟨T', m', d', w5.heap.size, l, fpT', fpm', fpd', gm, gd, hb1, hT'.chg c37 (by simp), hm'.chg ((c5.trans0 c6).trans0 c7) (by simp), hd'.chg (c6.trans0 c7) (by simp), ⟨es, ck, c7.obj (by simp) m16, m2⟩, h6, h7, h8, h9, rfl⟩, ?_⟩, (c05.trans0 c6).trans0 c7, fun i hi => ?_⟩
  · have u1 := hT'.nodup
    have u2 := hm'.nodup
    have u3 := hd'.nodup
    simp only [List.nodup_cons, List.mem_cons, List.mem_append, not_or, List.nodup_append]
    refine ⟨⟨by omega, fun hm => by have := t1 _ hm; omega, fun hm => by have := t2 _ hm; omega, fun hm => by have := t3 _ hm; omega⟩, ⟨fun hm => by have := t1 _ hm; omega, fun hm => by have := t2 _ hm; omega, fun hm => by have := t3 _ hm; omega⟩, u1, ⟨u2, u3, fun a ha c hc e => ?_⟩, fun a ha c hc e => ?_⟩
    · have := t2 a ha; have := hfd c hc; omega
    · have := t1 a ha
      rcases hc with hc | hc
      · have := hfm c hc; omega
      · have := hfd c hc; omega
  · simp only [List.mem_cons, List.mem_append] at hi
    rcases hi with rfl | rfl | hi | hi | hi
    · omega
    · omega
    · have := hfT i hi; omega
    · have := hfm i hi; omega
    · have := hfd i hi; omega
end Go.Proofs.Ytkfncibmfcdokaa
