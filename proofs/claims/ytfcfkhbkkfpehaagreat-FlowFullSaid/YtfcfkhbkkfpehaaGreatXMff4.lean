/- Texts of the claim, merged: XClone XGall XFlowAll XG10 XOrder XPSort XPCollect XDrawn XGfall XFAll XGz1 XGz3 XFSame. -/
import Derived.Test.YtfcfkhbkkfpehaaGreatXMff3
import Derived.Laws.Externs
import Derived.Laws.Cover3
import Derived.MapKept
import Derived.Test.YtfcfkhbkkfpehaaGreatProg
import Derived.Shelf.SlSortCmp.WholeK
import Derived.Sort.OwnSortedInts
import Derived.Shelf.SlSortCmp.NoneTotal
import Derived.OrdersIn
set_option linter.unusedSectionVars false
set_option linter.unusedSimpArgs false
set_option linter.unusedVariables false
section
/- maps.Clone, slices.Clone; Copy of a table, of a flow. -/
namespace Go.Proofs.YtfcfkhbkkfpehaaGreat
open Go Go.RowKit Go.X Go.XR
theorem run_clone {P : Program} {w : World} {r : Nat} {es : Array MapEntry} {clk : Nat} (t : TypeId) (hb : w.heap[r]? = some (.map es clk)) :
  (Extern.MapsClone.clone #[.iface t (.map (some r))]).run P w = .ok (.iface t (.map (some w.heap.size))) (w.alloc (.map es clk)) := by
 have e : Extern.MapsClone.clone #[.iface t (.map (some r))] = (getObj r >>= fun o => match o with
   | .map entries clock => (newObj (.map entries clock) >>= fun n => pure (.iface t (.map (some n))))
   | _ => stuck "maps.clone: a map expected") := rfl
 rw [e]
 simp [MapKept.run_getObj_map hb, Result.andThen, go_sem]
theorem run_clone114 {w : World} {r : Nat} {es : Array MapEntry} {clk : Nat} (t : TypeId) (hb : w.heap[r]? = some (.map es clk)) :
  (callFunc 83 #[.iface t (.map (some r))]).run Tryz.prog w = .ok (.value (.iface t (.map (some w.heap.size)))) (w.alloc (.map es clk)) := by
 rw [run_callFunc_extern Tryz.func83 (by kernel_rfl) (by kernel_rfl) (by kernel_rfl) (e := Extern.MapsClone.clone) (by kernel_rfl), run_clone t hb]
 rfl
theorem run_assertMap {P : Program} (t xT k e : TypeId) (v : Value) (h : P.underlying t = some (.map k e)) (w : World) : (Instr.typeAssert (.iface t v) xT t false).run P w = .ok v w := by
 simp [Instr.typeAssert, run_underlying h, go_sem, Result.andThen]
theorem clone80 {w : World} {b : Nat} {es : Array MapEntry} {clk : Nat} (hb : w.heap[b]? = some (.map es clk)) :
  Calls Tryz.prog 46 #[.map (some b)] w fun e w' => ∃ r : Option Nat, e = .returned (.map r) ∧ (r = some w.heap.size ∧ w' = w.alloc (.map es clk)) := by
 refine go_maps_Clone_134 _ _ _ ?_
 unfold W_maps_Clone_134
 exact ⟨fun h => by simp at h, fun _ => ⟨_, _, run_clone114 99 hb, _, fun w => run_assertMap 99 20 _ _ _ u143 w, rfl, rfl⟩⟩
theorem clone112 {w : World} {b : Nat} {es : Array MapEntry} {clk : Nat} (hb : w.heap[b]? = some (.map es clk)) :
  Calls Tryz.prog 79 #[.map (some b)] w fun e w' => ∃ r : Option Nat, e = .returned (.map r) ∧ (r = some w.heap.size ∧ w' = w.alloc (.map es clk)) := by
 refine go_maps_Clone_416 _ _ _ ?_
 unfold W_maps_Clone_416
 exact ⟨fun h => by simp at h, fun _ => ⟨_, _, run_clone114 147 hb, _, fun w => run_assertMap 147 20 _ _ _ u198 w, rfl, rfl⟩⟩
theorem clone113 {w : World} {b : Nat} {es : Array MapEntry} {clk : Nat} (hb : w.heap[b]? = some (.map es clk)) :
  Calls Tryz.prog 80 #[.map (some b)] w fun e w' => ∃ r : Option Nat, e = .returned (.map r) ∧ (r = some w.heap.size ∧ w' = w.alloc (.map es clk)) := by
 refine go_maps_Clone_413 _ _ _ ?_
 unfold W_maps_Clone_413
 exact ⟨fun h => by simp at h, fun _ => ⟨_, _, run_clone114 148 hb, _, fun w => run_assertMap 148 20 _ _ _ (show Tryz.prog.underlying 148 = some (.map 155 3) by kernel_rfl) w, rfl, rfl⟩⟩
theorem slice_nil_eq (a : Addr) (n c : Nat) (x y : Operand) (w : World) : ((do eqGuard .eql 38 x y (.slice (some a) n c) (.slice none 0 0); binOp .eql 38 (.slice (some a) n c) (.slice none 0 0) : Sem Value)).run Tryz.prog w = .ok (.bool false) w := by
 simp only [binOp]
 simp [eqGuard, run_equal_slice_nil w 38 22 (some a) n c (show Tryz.prog.underlying 38 = some (.slice 22) by kernel_rfl)]
theorem clone111 {w : World} {a : Addr} {n c : Nat} {xs : List Int} (h : RowAt w 22 1 (some a) n c (xs.map (.int .u32))) (hn : n ≤ 1000000000) :
  Calls Tryz.prog 78 #[.slice (some a) n c] w fun e w' => ∃ (r : Option Addr) (rn rc : Nat), e = .returned (.slice r rn rc) ∧ (rn = n ∧ RowAt w' 22 1 r n rc (xs.map (.int .u32)) ∧ Chg [] w w' ∧ ∀ i ∈ rowB r, w.heap.size ≤ i) := by
 refine go_slices_Clone_334 _ _ _ _ _ ?_
 unfold W_slices_Clone_334
 refine ⟨false, slice_nil_eq a n c _ _, fun h => by simp at h, fun _ => ?_⟩
 refine v_alloc fun b1 w1 e1 hb1 c1 => ?_
 have hl := h.length
 have h0 : RowAt w1 22 1 (some ⟨b1, 0, none⟩) 0 0 [] := RowAt.of_heap (n := 0) (cs := []) hb1 rfl (Nat.zero_le _)
 obtain ⟨p', c', w', happ, hrow, hc, hf⟩ := h0.append (P := Tryz.prog) (t := 38) (ty := 38) (i := _) (z := .int .u32 0) (bytes := 4) (by kernel_rfl) (show Tryz.prog.info? 22 = some Tryz.t22 by kernel_rfl) (by kernel_rfl) (by kernel_rfl) (by kernel_rfl) rfl (by omega)
  (a := a) (m := n) (mc := c) (news := xs.map (.int .u32)) (by simpa using hl) (fun i u hi => by
   obtain ⟨a', ea, hc⟩ := (h.chg c1 (by simp)).at hi
   obtain rfl : a = a' := by simpa using ea
   exact hc) (fun u hu => by obtain ⟨x, _, rfl⟩ := List.mem_map.1 hu; rfl) (by simp only [maxLen]; omega) (by omega)
 refine ⟨p', 0 + n, c', w', happ, by omega, by simpa using hrow, c1.trans hc (fun i hi hlt => by simp [rowB] at hi; omega), fun i hi => ?_⟩
 rcases hf i hi with h | h
 ·simp [rowB] at h; omega
 ·have := c1.size; omega
theorem table_copy {w : World} {b : Nat} {most : Int} {sets : List Int} {fp : List Nat} (h : TableAt w b most sets fp) :
  Calls Tryz.prog 44 #[.pointer (some ⟨b, 0, none⟩)] w fun e w' => ∃ r1 : Option Addr, e = .returned (.pointer r1) ∧ (∃ b' fp', r1 = some ⟨b', 0, none⟩ ∧ TableAt w' b' most sets fp' ∧ Chg [] w w' ∧ ∀ i ∈ fp', w.heap.size ≤ i) := by
 obtain ⟨p, c, r, j, clk, h1, h2, h3, h4, rfl⟩ := h.there
 refine go_labels_Table_Copy _ _ _ ?_
 unfold W_labels_Table_Copy
 refine (table_none h).mono ?_
 rintro _ w1 ⟨_, rfl, rfl, hw⟩
 subst w1
 refine ⟨_, rfl, fun h => by simp at h, fun _ w2 c2 => ?_⟩
 obtain ⟨a, rfl⟩ : ∃ a, p = some a := by
  cases p with
  | some a => exact ⟨a, rfl⟩
  | none =>
   exfalso
   obtain ⟨s, hs⟩ : ∃ s, (sets.map (Value.int .u32))[0]? = some s := by
    have := h.some
    cases sets with
    | nil => exact absurd rfl this
    | cons a l => exact ⟨_, rfl⟩
   obtain ⟨a, ha, _⟩ := h2.at hs
   cases ha
 have h12 := c2.obj (by simp) h1
 have cells : ∀ {A : World}, A.heap[b]? = some (.cells #[.int .i64 most, .slice (some a) sets.length c, .map (some r), .map (some j)] 150 (0, 0)) →
   A.cell? (⟨b, 0, none⟩ : Addr) = some (.int .i64 most) ∧ A.cell? ((⟨b, 0, none⟩ : Addr).add 1) = some (.slice (some a) sets.length c) ∧ A.cell? ((⟨b, 0, none⟩ : Addr).add 2) = some (.map (some r)) ∧ A.cell? ((⟨b, 0, none⟩ : Addr).add 3) = some (.map (some j)) := fun hA =>
  ⟨by rw [cell_of hA]; rfl, by rw [add_at, cell_of hA]; rfl, by rw [add_at, cell_of hA]; rfl, by rw [add_at, cell_of hA]; rfl⟩
 have k2 := cells h12
 have hm := h.most2
 have hfw := h.few
 refine ⟨_, rfl, _, k2.1, _, _, _, k2.2.1, _, k2.2.2.1, _, k2.2.2.2, ?_⟩
 refine (clone111 (h2.chg c2 (by simp)) (by omega)).mono ?_
 rintro _ w3 ⟨q, qn, qc, rfl, rfl, hq, c3, hqf⟩
 have c03 := c2.trans0 c3
 have k3 := cells (c03.obj (by simp) h1)
 refine ⟨_, _, _, rfl, ⟨k3.1, k3.2.1, k3.2.2.1, k3.2.2.2⟩, ?_⟩
 obtain ⟨es, ck, m1, m2⟩ := h3.chg c03 (by simp)
 refine (clone112 m1).mono ?_
 rintro _ w4 ⟨_, rfl, rfl, hw⟩
 have c4 : Chg [] w3 w4 := by rw [hw]; exact Chg.alloc _ _
 have m14 : w4.heap[w3.heap.size]? = some (.map es ck) := by rw [hw]; exact heap_new _ _
 have k4 := cells ((c03.trans0 c4).obj (by simp) h1)
 refine ⟨_, rfl, ⟨k4.1, k4.2.1, k4.2.2.1, k4.2.2.2⟩, ?_⟩
 refine (clone113 ((c03.trans0 c4).obj (by simp) h4)).mono ?_
 rintro _ w5 ⟨_, rfl, rfl, hw5⟩
 have c5 : Chg [] w4 w5 := by rw [hw5]; exact Chg.alloc _ _
 have m15 : w5.heap[w4.heap.size]? = some (.map #[] clk) := by rw [hw5]; exact heap_new _ _
 have c05 := (c03.trans0 c4).trans0 c5
 have k5 := cells (c05.obj (by simp) h1)
 refine ⟨_, rfl, ⟨k5.1, k5.2.1, k5.2.2.1, k5.2.2.2⟩, ?_⟩
 refine v_alloc fun b1 w6 e1 hb1 c6 => ?_
 have s2 := c2.size
 have s3 := c3.size
 have s4 : w4.heap.size = w3.heap.size + 1 := by rw [hw]; simp
 have s5 : w5.heap.size = w4.heap.size + 1 := by rw [hw5]; simp
 have hqlt := hq.lt
 refine ⟨b1, b1 :: w3.heap.size :: w4.heap.size :: rowB q, rfl, ⟨⟨q, qc, w3.heap.size, w4.heap.size, clk, hb1, ((hq.chg c4 (by simp)).chg c5 (by simp)).chg c6 (by simp), ⟨es, ck, c6.obj (by simp) (c5.obj (by simp) m14), m2⟩, c6.obj (by simp) m15, rfl⟩, ?_, h.some, h.few, h.most1, h.most2, h.each, h.distinct⟩, c05.trans0 c6, fun i hi => ?_⟩
 ·simp only [List.nodup_cons, List.mem_cons, not_or]
  exact ⟨⟨by omega, by omega, fun hm => by have := hqlt _ hm; omega⟩, ⟨by omega, fun hm => by have := hqlt _ hm; omega⟩, fun hm => by have := hqlt _ hm; omega, rowB_nodup _⟩
 ·simp only [List.mem_cons] at hi
  rcases hi with rfl | rfl | rfl | hi
  ·omega
  ·omega
  ·omega
  ·have := hqf i hi; omega
theorem flow_copy {w : World} {b : Nat} {F : Fl} {fp : List Nat} (h : FlowAt w b F fp) :
  Calls Tryz.prog 15 #[.pointer (some ⟨b, 0, none⟩)] w fun e w' => ∃ r1 : Option Addr, e = .returned (.pointer r1) ∧ (∃ b' fp', r1 = some ⟨b', 0, none⟩ ∧ FlowAt w' b' F fp' ∧ Chg [] w w' ∧ ∀ i ∈ fp', w.heap.size ≤ i) := by
 obtain ⟨T, m, d, r, l, fpT, fpm, fpd, gm, gd, h1, h2, h3, h4, h5, h6, h7, h8, h9, rfl⟩ := h.there
 refine go_flow_Flow_Copy _ _ _ ?_
 unfold W_flow_Flow_Copy
 refine (flow_none h).mono ?_
 rintro _ w1 ⟨_, rfl, rfl, hw⟩
 subst w1
 refine ⟨_, rfl, fun h => by simp at h, fun _ w2 c2 => ?_⟩
 have cells : ∀ {A : World}, A.heap[b]? = some (.cells #[.int .i64 F.fr, .int .i64 F.se, .pointer (some ⟨T, 0, none⟩), .pointer (some ⟨m, 0, none⟩), .pointer (some ⟨d, 0, none⟩), .map (some r)] 101 (0, 0)) →
   CellsAt A (⟨b, 0, none⟩ : Addr) 0 [.int .i64 F.fr, .int .i64 F.se] ∧ A.cell? ((⟨b, 0, none⟩ : Addr).add 2) = some (.pointer (some ⟨T, 0, none⟩)) ∧ A.cell? ((⟨b, 0, none⟩ : Addr).add 3) = some (.pointer (some ⟨m, 0, none⟩)) ∧ A.cell? ((⟨b, 0, none⟩ : Addr).add 4) = some (.pointer (some ⟨d, 0, none⟩)) ∧ A.cell? ((⟨b, 0, none⟩ : Addr).add 5) = some (.map (some r)) := fun hA =>
  ⟨⟨by rw [add_at, cell_of hA]; rfl, by rw [add_at, cell_of hA]; rfl, trivial⟩, by rw [add_at, cell_of hA]; rfl, by rw [add_at, cell_of hA]; rfl, by rw [add_at, cell_of hA]; rfl, by rw [add_at, cell_of hA]; rfl⟩
 have k2 := cells (c2.obj (by simp) h1)
 refine ⟨_, rfl, _, _, k2.1, _, k2.2.1, _, k2.2.2.1, _, k2.2.2.2.1, _, k2.2.2.2.2, ?_⟩
 refine (table_copy (h2.chg c2 (by simp))).mono ?_
 rintro _ w3 ⟨_, rfl, T', fpT', rfl, hT', c3, hfT⟩
 have c03 := c2.trans0 c3
 refine ⟨_, rfl, cells (c03.obj (by simp) h1), ?_⟩
 refine (shadow_copy (h3.chg c03 (by simp))).mono ?_
 rintro _ w4 ⟨_, rfl, m', fpm', rfl, hm', c4, hfm⟩
 have c04 := c03.trans0 c4
 refine ⟨_, rfl, cells (c04.obj (by simp) h1), ?_⟩
 refine (shadow_copy (h4.chg c04 (by simp))).mono ?_
 rintro _ w5 ⟨_, rfl, d', fpd', rfl, hd', c5, hfd⟩
 have c05 := c04.trans0 c5
 refine ⟨_, rfl, cells (c05.obj (by simp) h1), ?_⟩
 obtain ⟨es, ck, m1, m2⟩ := h5.chg c05 (by simp)
 refine (clone80 m1).mono ?_
 rintro _ w6 ⟨_, rfl, rfl, hw6⟩
 have c6 : Chg [] w5 w6 := by rw [hw6]; exact Chg.alloc _ _
 have m16 : w6.heap[w5.heap.size]? = some (.map es ck) := by rw [hw6]; exact heap_new _ _
 refine ⟨_, rfl, cells ((c05.trans0 c6).obj (by simp) h1), ?_⟩
 refine v_alloc fun b1 w7 e1 hb1 c7 => ?_
 have s2 := c2.size
 have s3 := c3.size
 have s4 := c4.size
 have s5 := c5.size
 have s6 : w6.heap.size = w5.heap.size + 1 := by rw [hw6]; simp
 have t1 := hT'.lt
 have t2 := hm'.lt
 have t3 := hd'.lt
 have c37 := ((c4.trans0 c5).trans0 c6).trans0 c7
 refine ⟨b1, b1 :: w5.heap.size :: (fpT' ++ (fpm' ++ fpd')), rfl, ⟨⟨T', m', d', w5.heap.size, l, fpT', fpm', fpd', gm, gd, hb1, hT'.chg c37 (by simp), hm'.chg ((c5.trans0 c6).trans0 c7) (by simp), hd'.chg (c6.trans0 c7) (by simp), ⟨es, ck, c7.obj (by simp) m16, m2⟩, h6, h7, h8, h9, rfl⟩, ?_⟩, (c05.trans0 c6).trans0 c7, fun i hi => ?_⟩
 ·have u1 := hT'.nodup
  have u2 := hm'.nodup
  have u3 := hd'.nodup
  simp only [List.nodup_cons, List.mem_cons, List.mem_append, not_or, List.nodup_append]
  refine ⟨⟨by omega, fun hm => by have := t1 _ hm; omega, fun hm => by have := t2 _ hm; omega, fun hm => by have := t3 _ hm; omega⟩, ⟨fun hm => by have := t1 _ hm; omega, fun hm => by have := t2 _ hm; omega, fun hm => by have := t3 _ hm; omega⟩, u1, ⟨u2, u3, fun a ha c hc e => ?_⟩, fun a ha c hc e => ?_⟩
  ·have := t2 a ha; have := hfd c hc; omega
  ·have := t1 a ha
   rcases hc with hc | hc
   ·have := hfm c hc; omega
   ·have := hfd c hc; omega
 ·simp only [List.mem_cons, List.mem_append] at hi
  rcases hi with rfl | rfl | hi | hi | hi
  ·omega
  ·omega
  ·have := hfT i hi; omega
  ·have := hfm i hi; omega
  ·have := hfd i hi; omega
end Go.Proofs.YtfcfkhbkkfpehaaGreat
end
section
namespace Go.Proofs.YtfcfkhbkkfpehaaGreat
open Go Go.X
/- (*pomander/flow.Flow).all -/
def W_flow_Flow_all (f1 : Option Addr) (w : World) (R : (Option Nat) → World → Prop) : Prop :=
 ∃ a1 : Addr, f1 = some a1 ∧ (∃ (t1 : Option Nat), w.cell? (a1.add 5) = some (.map t1) ∧ (Calls Tryz.prog 46 #[.map t1] w fun e w1 => ∃ (r2 : Option Nat), e = .returned (.map r2) ∧ (∀ (b1 : Nat) (w3 : World), (w1.heap.size ≤ b1 ∧ b1 < w3.heap.size) → Chg [] w1 w3 → (∃ (t2 : Option Addr), w3.cell? (a1.add 3) = some (.pointer t2) ∧ (Calls Tryz.prog 88 #[.pointer t2] w3 fun e w4 => ∃ (r3 : Value), e = .returned (r3) ∧ (Same w3 w4 [b1] ∧ (∃ (S1 Sp1 : List (Int × Int) → Prop) (keep1 : List Nat), XR.IsFn Tryz.prog r3 ∧ XR.Iterates Tryz.prog r3 (fun x : Int × Int => #[.int .i64 x.1, .int .u32 x.2]) S1 Sp1 keep1 w4 ∧ (∀ i_ ∈ keep1, i_ < w4.heap.size) ∧ ∃ (I1 : List Nat → List (Int × Int) → World → Prop), (∀ (pre_ : List (Int × Int)), XR.Stab w4 (fun O_ w_ => I1 O_ pre_ w_)) ∧ (∀ (O1 : List Nat) (w5 : World), Chg [] w4 w5 → XR.InO w4 O1 w5 → I1 O1 ([]) w5) ∧ (∀ (l1 : Nat) (O1 : List Nat) (pre1 : List (Int × Int)) (x1 : Int) (x2 : Int) (w5 : World), XR.InO w4 O1 w5 → l1 ∈ O1 → Sp1 (pre1 ++ [(x1, x2)]) → I1 O1 pre1 w5 → (∀ (w6 : World), Chg [l1] w5 w6 → (∃ w7 : World, (Instr.mapUpdate 99 (.map r2) (.agg #[.int .i64 10, .int .i64 x1]) (.int .u32 x2)).run Tryz.prog w6 = .ok () w7 ∧ (Same w6 w7 [b1] ∧ ((w6.heap.size ≤ w7.heap.size ∧ I1 O1 (pre1 ++ [(x1, x2)]) w7 ∧ Same w6 w7 (keep1 ++ O1))))))) ∧ (∀ (d1 : Nat) (O2 : List Nat) (xs1 : List (Int × Int)) (w8 : World), XR.InO w4 O2 w8 → d1 ∈ O2 → S1 xs1 → I1 O2 xs1 w8 → (∃ (t3 : Option Addr), w8.cell? (a1.add 4) = some (.pointer t3) ∧ (Calls Tryz.prog 88 #[.pointer t3] w8 fun e w9 => ∃ (r4 : Value), e = .returned (r4) ∧ (Same w8 w9 [b1, d1] ∧ (∃ (S2 Sp2 : List (Int × Int) → Prop) (keep2 : List Nat), XR.IsFn Tryz.prog r4 ∧ XR.Iterates Tryz.prog r4 (fun x : Int × Int => #[.int .i64 x.1, .int .u32 x.2]) S2 Sp2 keep2 w9 ∧ (∀ i_ ∈ keep2, i_ < w9.heap.size) ∧ ∃ (I2 : List Nat → List (Int × Int) → World → Prop), (∀ (pre_ : List (Int × Int)), XR.Stab w9 (fun O_ w_ => I2 O_ pre_ w_)) ∧ (∀ (O3 : List Nat) (w10 : World), Chg [] w9 w10 → XR.InO w9 O3 w10 → I2 O3 ([]) w10) ∧ (∀ (l2 : Nat) (O3 : List Nat) (pre2 : List (Int × Int)) (x3 : Int) (x4 : Int) (w10 : World), XR.InO w9 O3 w10 → l2 ∈ O3 → Sp2 (pre2 ++ [(x3, x4)]) → I2 O3 pre2 w10 → (∀ (w11 : World), Chg [l2] w10 w11 → (∃ w12 : World, (Instr.mapUpdate 99 (.map r2) (.agg #[.int .i64 12, .int .i64 x3]) (.int .u32 x4)).run Tryz.prog w11 = .ok () w12 ∧ (Same w11 w12 [b1, d1] ∧ ((w11.heap.size ≤ w12.heap.size ∧ I2 O3 (pre2 ++ [(x3, x4)]) w12 ∧ Same w11 w12 (keep2 ++ O3))))))) ∧ (∀ (d2 : Nat) (O4 : List Nat) (xs2 : List (Int × Int)) (w13 : World), XR.InO w9 O4 w13 → d2 ∈ O4 → S2 xs2 → I2 O4 xs2 w13 → (∀ w14 : World, Chg [d2, d1] w13 w14 → (R r2 w14)))))))))))))))
set_option maxRecDepth 100000 in
theorem go_flow_Flow_all (f1 : Option Addr) (w : World) (R : (Option Nat) → World → Prop) (h : W_flow_Flow_all f1 w R) : Calls Tryz.prog 55 #[.pointer f1] w (fun e w' => ∃ (r1 : Option Nat), e = .returned (.map r1) ∧ R r1 w') := by
 unfold W_flow_Flow_all at h
 refine XR.enterM (N := 36) Tryz.func55 rfl rfl ?_
 refine CW.seq ?_
 refine CW.region fun L hL => ?_
 refine LW.rd hL rfl (Wants.free rfl) rfl (Rd.assign (v := .map none) rfl) ?_
 refine LW.nil hL rfl ?_
 refine NW.then ?_
 refine CW.seq ?_
 refine CW.region fun L hL => ?_
 refine LW.rd hL rfl (Wants.free rfl) rfl (Rd.move (v := .pointer f1) rfl) ?_
 obtain ⟨a1, ha1, h⟩ := h
 refine LW.rd hL rfl (Wants.free rfl) rfl (Rd.nil (q := a1) (by rw [← ha1]; rfl)) ?_
 refine LW.rd hL rfl (Wants.free rfl) rfl (Rd.fa (v := .pointer (some (a1.add 5))) rfl (fun _ => by kernel_rfl)) ?_
 obtain ⟨t1, hc1, h⟩ := h
 refine LW.rd hL rfl (Wants.free rfl) rfl (Rd.ld (v := .map t1) rfl (by kernel_rfl) (eqs hc1)) ?_
 refine LW.call hL rfl (Wants.free rfl) rfl (Cl.fn (f := 46) rfl Tryz.func46 (by kernel_rfl) rfl) h (fun e w1 h_ => ?_)
 clear h
 obtain ⟨r2, rfl, h⟩ := h_
 refine ⟨_, rfl, ?_⟩
 obtain ⟨b1, hb_b1⟩ : ∃ b1, b1 = World.size w1 := ⟨_, rfl⟩
 obtain ⟨w2, hw_w2⟩ : ∃ w2, w2 = World.alloc w1 (.cells #[.map none] 99) := ⟨_, rfl⟩
 refine LW.val hL rfl (Wants.free rfl) rfl (boxE hb_b1 hw_w2 (Vl.alloc (z := .map none) (by kernel_rfl))) ?_
 have hB := Boxes.alloc (cs := [.map none]) (T := 99) (Boxes.nil w1) hb_b1 hw_w2
 have hlo_b1 := sil_lo (Chg.refl [] w1) hb_b1
 have hc_w2 := sil_alloc (Chg.refl [] w1) hw_w2
 obtain ⟨w3, hw_w3⟩ : ∃ x, x = World.setCell w2 (⟨b1, 0, none⟩ : Addr) (.map r2) := ⟨_, rfl⟩
 refine LW.eff hL rfl (Wants.free rfl) rfl (stE hw_w3 (Ef.st rfl rfl rfl (by kernel_rfl) (box_cell (v := .map none) (hB.at (i := 0) rfl) rfl) (free_of (hB.at (i := 0) rfl) 0))) ?_
 replace hB : Boxes w3 [(b1, [.map r2], 99)] := Boxes.store1  (i := 0) (o := 0) hB rfl rfl rfl rfl hw_w3
 have hc_w3 := sil_new hc_w2 (sil_c1 hw_w3) hlo_b1
 refine LW.nil hL rfl ?_
 refine NW.then ?_
 refine CW.seq ?_
 refine CW.seq ?_
 refine CW.region fun L hL => ?_
 refine LW.rd hL rfl (Wants.free rfl) rfl (Rd.move (v := .pointer f1) rfl) ?_
 refine LW.rd hL rfl (Wants.free rfl) rfl (Rd.nil (q := a1) (by rw [← ha1]; rfl)) ?_
 refine LW.rd hL rfl (Wants.free rfl) rfl (Rd.fa (v := .pointer (some (a1.add 3))) rfl (fun _ => by kernel_rfl)) ?_
 replace h := h b1 w3 ⟨hlo_b1, lt_of_heap (hB.at (i := 0) rfl)⟩ hc_w3
 obtain ⟨t2, hc2, h⟩ := h
 refine LW.rd hL rfl (Wants.free rfl) rfl (Rd.ld (v := .pointer t2) rfl (by kernel_rfl) (eqs hc2)) ?_
 refine LW.call hL rfl (Wants.free rfl) rfl (Cl.fn (f := 88) rfl Tryz.func88 (by kernel_rfl) rfl) h (fun e w4 h_ => ?_)
 clear h
 obtain ⟨r3, rfl, h⟩ := h_
 obtain ⟨hsm1, h⟩ := h
 replace hB := Boxes.sameS hB hsm1 (by simp)
 refine ⟨_, rfl, ?_⟩
 refine LW.nil hL rfl ?_
 refine NW.then ?_
 refine CW.block ?_
 obtain ⟨S1, Sp1, keep1, hfn_, hit_, hkp_, I1, hst_I1, h0_, hrd_, hdn_⟩ := h
 refine XR.CW.rangeV (α := Int × Int) (enc := (fun x : Int × Int => #[.int .i64 x.1, .int .u32 x.2])) (S := S1) (Sp := Sp1) (keep := keep1) rfl hfn_ (fun _ => rfl) (by decide) hit_ (fun (O_ : List Nat) (pre_ : List (Int × Int)) (w_ : World) => I1 O_ pre_ w_ ∧ Boxes w_ [(b1, [.map r2], 99)]) (fun (c_ : Code) (O_ : List Nat) (pre_ : List (Int × Int)) (w_ : World) => False) ?_ ?_ ?_ hkp_ ?_ ?_ ?_
 ·intro pre_ O_ O2_ A_ B_ hi_ hO_ hc_ hO2_ hg_
  have hB0_ := hB
  obtain ⟨hi_, hB⟩ := hi_
  exact ⟨hst_I1  pre_ O_ O2_ A_ B_ hi_ hO_ hc_ hO2_ hg_, hB.stab hB0_ rfl hO_ hc_⟩
 ·intro c_ pre_ O_ O2_ A_ B_ hi_ hO_ hc_ hO2_ hg_
  exact hi_.elim
 ·intro O_ A_ hc_ hO_
  exact ⟨h0_ O_ A_ hc_ hO_, Boxes.chg hB hc_ (by simp)⟩
 ·intro l1 O1 pre1 x_ w5 hO_ hl_ hSp_ hi_
  obtain ⟨x1, x2⟩ := x_
  obtain ⟨hi_, hB⟩ := hi_
  have h := hrd_ l1 O1 pre1 x1 x2 w5 hO_ hl_ hSp_ hi_
  refine XR.CW.seq ?_
  refine XR.CW.region fun L hL => ?_
  refine XR.LW.rd hL rfl (Wants.free rfl) rfl (Rd.assign (v := .int .i64 x1) rfl) ?_
  refine XR.LW.nil hL rfl ?_
  refine XR.NW.then ?_
  refine XR.CW.region fun L hL => ?_
  refine XR.LW.rd hL rfl (Wants.free rfl) rfl (Rd.assign (v := .int .u32 x2) rfl) ?_
  refine XR.LW.nil hL rfl ?_
  refine XR.NW.begin (Chg.refl [] w5) (fun w6 hcb_w6 hlp_ hib_ => ?_)
  have hc_w6 : Chg [l1] w5 w6 := sil_more (Chg.refl [] w5) hcb_w6
  replace hB := hB.notloop hlp_ hcb_w6
  replace h := h  w6  hc_w6
  refine XR.CW.block ?_
  refine XR.CW.region fun L hL => ?_
  refine XR.LW.rd hL rfl (Wants.free rfl) rfl (Rd.ld (v := .map r2) rfl (by kernel_rfl) (eqs (box_cell (hB.at (i := 0) rfl) rfl))) ?_
  refine XR.LW.rd hL rfl (Wants.free rfl) rfl (Rd.move (v := .int .i64 x1) rfl) ?_
  refine XR.LW.rd hL rfl (Wants.free rfl) rfl (Rd.build (v := .agg #[.int .i64 10, .int .i64 x1]) rfl (fun _ => by kernel_rfl)) ?_
  refine XR.LW.rd hL rfl (Wants.free rfl) rfl (Rd.move (v := .int .u32 x2) rfl) ?_
  obtain ⟨w7, hm1, h⟩ := h
  refine XR.LW.eff hL rfl (Wants.free rfl) rfl (Ef.mapUpdate rfl rfl rfl hm1) ?_
  obtain ⟨hsm2, h⟩ := h
  replace hB := Boxes.sameS hB hsm2 (by simp)
  refine XR.LW.nil hL rfl ?_
  refine NW.block ?_
  exact fun a_ ha_ => ⟨h.1, ⟨h.2.1, hB⟩, h.2.2⟩
 ·intro d1 O2 xs1 w8 hO_ hd_ hdh_ hS_ hi_
  obtain ⟨hi_, hB⟩ := hi_
  have h := hdn_ d1 O2 xs1 w8 hO_ hd_ hS_ hi_
  have hK := XR.Marks.cons (XR.Marks.nil _) hdh_ (by simp)
  refine NW.block ?_
  refine NW.then ?_
  refine CW.seq ?_
  refine CW.seq ?_
  refine CW.region fun L hL => ?_
  refine LW.rd hL rfl (Wants.free rfl) rfl (Rd.move (v := .pointer f1) rfl) ?_
  refine LW.rd hL rfl (Wants.free rfl) rfl (Rd.nil (q := a1) (by rw [← ha1]; rfl)) ?_
  refine LW.rd hL rfl (Wants.free rfl) rfl (Rd.fa (v := .pointer (some (a1.add 4))) rfl (fun _ => by kernel_rfl)) ?_
  obtain ⟨t3, hc3, h⟩ := h
  refine LW.rd hL rfl (Wants.free rfl) rfl (Rd.ld (v := .pointer t3) rfl (by kernel_rfl) (eqs hc3)) ?_
  refine LW.call hL rfl (Wants.free rfl) rfl (Cl.fn (f := 88) rfl Tryz.func88 (by kernel_rfl) rfl) h (fun e w9 h_ => ?_)
  clear h
  obtain ⟨r4, rfl, h⟩ := h_
  obtain ⟨hsm3, h⟩ := h
  replace hB := Boxes.sameS hB hsm3 (by simp)
  replace hK := XR.Marks.same hK hsm3 (by simp)
  refine ⟨_, rfl, ?_⟩
  refine LW.nil hL rfl ?_
  refine NW.then ?_
  refine CW.block ?_
  obtain ⟨S2, Sp2, keep2, hfn_, hit_, hkp_, I2, hst_I2, h0_, hrd_, hdn_⟩ := h
  refine XR.CW.rangeV (α := Int × Int) (enc := (fun x : Int × Int => #[.int .i64 x.1, .int .u32 x.2])) (S := S2) (Sp := Sp2) (keep := keep2) rfl hfn_ (fun _ => rfl) (by decide) hit_ (fun (O_ : List Nat) (pre_ : List (Int × Int)) (w_ : World) => I2 O_ pre_ w_ ∧ XR.Marks w_ [d1] ∧ Boxes w_ [(b1, [.map r2], 99)]) (fun (c_ : Code) (O_ : List Nat) (pre_ : List (Int × Int)) (w_ : World) => False) ?_ ?_ ?_ hkp_ ?_ ?_ ?_
  ·intro pre_ O_ O2_ A_ B_ hi_ hO_ hc_ hO2_ hg_
   have hB0_ := hB
   have hK0_ := hK
   obtain ⟨hi_, hK, hB⟩ := hi_
   exact ⟨hst_I2  pre_ O_ O2_ A_ B_ hi_ hO_ hc_ hO2_ hg_, hK.stab hK0_ hO_ hc_, hB.stab hB0_ rfl hO_ hc_⟩
  ·intro c_ pre_ O_ O2_ A_ B_ hi_ hO_ hc_ hO2_ hg_
   exact hi_.elim
  ·intro O_ A_ hc_ hO_
   exact ⟨h0_ O_ A_ hc_ hO_, hK.chg hc_ (by simp), Boxes.chg hB hc_ (by simp)⟩
  ·intro l2 O3 pre2 x_ w10 hO_ hl_ hSp_ hi_
   obtain ⟨x3, x4⟩ := x_
   obtain ⟨hi_, hK, hB⟩ := hi_
   have h := hrd_ l2 O3 pre2 x3 x4 w10 hO_ hl_ hSp_ hi_
   refine XR.CW.seq ?_
   refine XR.CW.region fun L hL => ?_
   refine XR.LW.rd hL rfl (Wants.free rfl) rfl (Rd.assign (v := .int .i64 x3) rfl) ?_
   refine XR.LW.nil hL rfl ?_
   refine XR.NW.then ?_
   refine XR.CW.region fun L hL => ?_
   refine XR.LW.rd hL rfl (Wants.free rfl) rfl (Rd.assign (v := .int .u32 x4) rfl) ?_
   refine XR.LW.nil hL rfl ?_
   refine XR.NW.begin (Chg.refl [] w10) (fun w11 hcb_w11 hlp_ hib_ => ?_)
   have hc_w11 : Chg [l2] w10 w11 := sil_more (Chg.refl [] w10) hcb_w11
   replace hB := hB.notloop hlp_ hcb_w11
   replace hK := hK.notloop hlp_ hcb_w11
   replace h := h  w11  hc_w11
   refine XR.CW.block ?_
   refine XR.CW.region fun L hL => ?_
   refine XR.LW.rd hL rfl (Wants.free rfl) rfl (Rd.ld (v := .map r2) rfl (by kernel_rfl) (eqs (box_cell (hB.at (i := 0) rfl) rfl))) ?_
   refine XR.LW.rd hL rfl (Wants.free rfl) rfl (Rd.move (v := .int .i64 x3) rfl) ?_
   refine XR.LW.rd hL rfl (Wants.free rfl) rfl (Rd.build (v := .agg #[.int .i64 12, .int .i64 x3]) rfl (fun _ => by kernel_rfl)) ?_
   refine XR.LW.rd hL rfl (Wants.free rfl) rfl (Rd.move (v := .int .u32 x4) rfl) ?_
   obtain ⟨w12, hm2, h⟩ := h
   refine XR.LW.eff hL rfl (Wants.free rfl) rfl (Ef.mapUpdate rfl rfl rfl hm2) ?_
   obtain ⟨hsm4, h⟩ := h
   replace hB := Boxes.sameS hB hsm4 (by simp)
   replace hK := XR.Marks.same hK hsm4 (by simp)
   refine XR.LW.nil hL rfl ?_
   refine NW.block ?_
   exact fun a_ ha_ => ⟨h.1, ⟨h.2.1, hK, hB⟩, h.2.2⟩
  ·intro d2 O4 xs2 w13 hO_ hd_ hdh_ hS_ hi_
   have hK0_ := hK
   obtain ⟨hi_, hK, hB⟩ := hi_
   have h := hdn_ d2 O4 xs2 w13 hO_ hd_ hS_ hi_
   have hK := XR.Marks.cons2 hK hK0_ (hO_ _ hd_).1 hdh_
   refine NW.block ?_
   refine NW.then ?_
   refine CW.seq ?_
   refine CW.region fun L hL => ?_
   refine LW.rd hL rfl (Wants.free rfl) rfl (Rd.ld (v := .map r2) rfl (by kernel_rfl) (eqs (box_cell (hB.at (i := 0) rfl) rfl))) ?_
   refine LW.rd hL rfl (Wants.free rfl) rfl (Rd.assign (v := .map r2) rfl) ?_
   refine LW.nil hL rfl ?_
   refine NW.then ?_
   refine CW.ret ?_
   exact XR.resM (ms := [d2, d1]) (vs := [.map r2]) hK rfl (fun w_ hc_ => ⟨(ResOK.t rfl ResOK.nil), r2, rfl, h w_ hc_⟩)
  ·intro d3 c_ O5 xs3 w15 hO_ hd_ hdh_ hS_ hi_
   exact hi_.elim
 ·intro d4 c_ O6 xs4 w16 hO_ hd_ hdh_ hS_ hi_
  exact hi_.elim
end Go.Proofs.YtfcfkhbkkfpehaaGreat
end
section
/- Flows: the map of all places that have sets. -/
namespace Go.Proofs.YtfcfkhbkkfpehaaGreat
open Go Go.RowKit Go.X Go.XR
def addAll (c : Int) (xs : List (Int × Int)) (l : List ((Int × Int) × Int)) : List ((Int × Int) × Int) := xs.foldl (fun l x => upd (c, x.1) x.2 l) l
theorem addAll_append (c : Int) (xs ys : List (Int × Int)) (l : List ((Int × Int) × Int)) : addAll c (xs ++ ys) l = addAll c ys (addAll c xs l) := by simp [addAll]
theorem addAll_look (c : Int) (g : Int → Int) (l : List ((Int × Int) × Int)) (p : Int × Int) : ∀ k : Nat, lookK p (addAll c (someL g k) l) = if p.1 = c ∧ 0 ≤ p.2 ∧ p.2 < k ∧ g p.2 ≠ 0 then some (g p.2) else lookK p l
 | 0 => by
  rw [if_neg (by omega)]; rfl
 | k + 1 => by
  have ih := addAll_look c g l p k
  rw [someL_succ, addAll_append]
  by_cases hz : g k = 0
  ·rw [if_pos hz]
   show lookK p (addAll c (someL g k) l) = _
   rw [ih]
   by_cases h : p.1 = c ∧ 0 ≤ p.2 ∧ p.2 < k ∧ g p.2 ≠ 0
   ·rw [if_pos h, if_pos ⟨h.1, h.2.1, by omega, h.2.2.2⟩]
   ·rw [if_neg h, if_neg]
    rintro ⟨h1, h2, h3, h4⟩
    refine h ⟨h1, h2, ?_, h4⟩
    rcases Decidable.em (p.2 = k) with e | e
    ·rw [e] at h4; exact absurd hz h4
    ·omega
  ·rw [if_neg hz]
   show lookK p (upd (c, (k : Int)) (g k) (addAll c (someL g k) l)) = _
   rw [lookK_upd, ih]
   by_cases e : p = (c, (k : Int))
   ·subst e
    rw [if_pos rfl, if_pos ⟨rfl, by simp only []; omega, by simp only []; omega, hz⟩]
   ·rw [if_neg e]
    have e' : p.1 = c → p.2 ≠ k := fun h1 h2 => e (Prod.ext h1 h2)
    by_cases h : p.1 = c ∧ 0 ≤ p.2 ∧ p.2 < k ∧ g p.2 ≠ 0
    ·rw [if_pos h, if_pos ⟨h.1, h.2.1, by omega, h.2.2.2⟩]
    ·rw [if_neg h, if_neg]
     rintro ⟨h1, h2, h3, h4⟩
     exact h ⟨h1, h2, by have := e' h1; omega, h4⟩
structure AllIs (w : World) (m : Nat) (F : Fl) (L : List ((Int × Int) × Int)) : Prop where
 map : MapIs w m encP (fun n : Int => .int .u32 n) L
 look : ∀ p, lookK p L = if F.g p = 0 then none else some (F.g p)
 may : ∀ x ∈ L, mayP F.fr F.se x.1
theorem flow_all_map {w : World} {b : Nat} {F : Fl} {fp : List Nat} (h : FlowAt w b F fp) :
  Calls Tryz.prog 55 #[.pointer (some ⟨b, 0, none⟩)] w fun e w' => ∃ r2 : Option Nat, e = .returned (.map r2) ∧ ∃ m L, r2 = some m ∧ AllIs w' m F L ∧ Chg [] w w' ∧ w.heap.size ≤ m := by
 obtain ⟨T, m, d, r, l, fpT, fpm, fpd, gm, gd, h1, h2, h3, h4, h5, h6, h7, h8, h9, rfl⟩ := h.there
 have hlb := lt_of_heap h1
 refine go_flow_Flow_all _ _ _ ?_
 unfold W_flow_Flow_all
 obtain ⟨es, clk, m1, m2⟩ := h5
 refine ⟨_, rfl, some r, by rw [add_at, cell_of h1]; rfl, ?_⟩
 refine (clone80 m1).mono ?_
 rintro _ w1 ⟨_, rfl, rfl, hw⟩
 have c1 : Chg [] w w1 := by subst hw; exact Chg.alloc _ _
 have hm1 : MapIs w1 w.heap.size encP (fun n : Int => .int .u32 n) l := ⟨es, clk, by subst hw; exact heap_new w _, m2⟩
 have s1 := c1.size
 have lm1 := hm1.lt
 refine ⟨_, rfl, ?_⟩
 rintro b1 w3 ⟨i1, j1⟩ c3
 have s3 := c3.size
 have c03 := c1.trans0 c3
 refine ⟨_, by rw [add_at, cell_of (c03.obj (by simp) h1)]; rfl, ?_⟩
 refine (shadow_all (h3.chg c03 (by simp))).mono ?_
 rintro _ w4 ⟨_, rfl, cb, b', fp', rfl, hcb, hA, c4, hnew⟩
 have s4 := c4.size
 have hlA := hA.lt
 have hlcb := lt_of_heap hcb
 have c04 := c03.trans0 c4
 refine ⟨_, rfl, Same.chg c4 (by simp; omega), _, _, _, isFn93 cb, iterates_shadow hcb hA, by simp; exact ⟨hlcb, hlA⟩, ?_⟩
 refine ⟨fun O pre w' => ∃ k : Nat, k ≤ 64 * F.fr.toNat ∧ pre = someL gm k ∧ MapIs w' w.heap.size encP (fun n : Int => .int .u32 n) (addAll 10 (someL gm k) l) ∧ Chg [] w w' ∧ w4.heap.size ≤ w'.heap.size, ?_, ?_, ?_, ?_⟩
 ·rintro pre O O' A B ⟨k, k1, k2, k3, k4, k5⟩ hO hc hO' hg
  have := hc.size
  exact ⟨k, k1, k2, k3.chg hc (fun hm => by have := (hO _ hm).1; omega), k4.trans hc (fun i hi hlt => by have := (hO i hi).1; omega), by omega⟩
 ·intro O w5 c5 hO
  exact ⟨0, Nat.zero_le _, rfl, ((hm1.chg c3 (by simp)).chg c4 (by simp)).chg c5 (by simp), c04.trans0 c5, c5.size⟩
 ·rintro l1 O pre x1 x2 w5 hO hl1 ⟨suf, hsuf⟩ ⟨k, k1, rfl, k3, k4, k5⟩ w6 c6
  have hl1' := hO l1 hl1
  have s6 := c6.size
  rw [List.append_assoc] at hsuf
  obtain ⟨j, rfl, hkj, hjn, rfl, hj0, hz, hnext⟩ := someL_next (64 * F.fr.toNat - k) k (by omega) hsuf
  have hm6 := k3.chg c6 (fun hm => by simp at hm; omega)
  obtain ⟨w7, hrun, c7, s7, hm7⟩ := hm6.update (P := Tryz.prog) (T := 99) u143 keyPlace (10, (j : Int)) (gm j)
  refine ⟨w7, hrun, Same.of c7 (fun i hi => by simp at hi; exact ⟨by omega, by simp; omega⟩), by omega, ⟨j + 1, by omega, hnext.symm, ?_, (k4.trans c6 (fun i hi hlt => by simp at hi; omega)).trans c7 (fun i hi hlt => by simp at hi; omega), by omega⟩, Same.of c7 (fun i hi => ?_)⟩
  ·rw [hnext, addAll_append]; exact hm7
  ·rcases List.mem_append.1 hi with h | h
   ·have h1 := hnew i h
    have h2 : i < w4.heap.size := by
     rcases List.mem_cons.1 h with e | e
     ·omega
     ·exact hlA i e
    exact ⟨by omega, by simp; omega⟩
   ·have := hO i h
    exact ⟨by omega, by simp; omega⟩
 ·rintro d1 O xs w8 hO hd1 hxs ⟨k, k1, hxs', k3, k4, k5⟩
  have hd1' := hO d1 hd1
  rw [hxs'.symm.trans hxs] at k3
  refine ⟨_, by rw [add_at, cell_of (k4.obj (by simp) h1)]; rfl, ?_⟩
  refine (shadow_all (h4.chg k4 (by simp))).mono ?_
  rintro _ w9 ⟨_, rfl, cb2, b2', fp2', rfl, hcb2, hA2, c9, hnew2⟩
  have s9 := c9.size
  have hlA2 := hA2.lt
  have hlcb2 := lt_of_heap hcb2
  have c09 := k4.trans0 c9
  refine ⟨_, rfl, Same.chg c9 (by simp; omega), _, _, _, isFn93 cb2, iterates_shadow hcb2 hA2, by simp; exact ⟨hlcb2, hlA2⟩, ?_⟩
  refine ⟨fun O pre w' => ∃ k : Nat, k ≤ 64 * F.se.toNat ∧ pre = someL gd k ∧ MapIs w' w.heap.size encP (fun n : Int => .int .u32 n) (addAll 12 (someL gd k) (addAll 10 (someL gm (64 * F.fr.toNat)) l)) ∧ Chg [] w w' ∧ w9.heap.size ≤ w'.heap.size, ?_, ?_, ?_, ?_⟩
  ·rintro pre O O' A B ⟨k, k1, k2, k3, k4, k5⟩ hO hc hO' hg
   have := hc.size
   exact ⟨k, k1, k2, k3.chg hc (fun hm => by have := (hO _ hm).1; omega), k4.trans hc (fun i hi hlt => by have := (hO i hi).1; omega), by omega⟩
  ·intro O w10 c10 hO
   exact ⟨0, Nat.zero_le _, rfl, (k3.chg c9 (by simp)).chg c10 (by simp), c09.trans0 c10, c10.size⟩
  ·rintro l2 O pre x3 x4 w10 hO hl2 ⟨suf, hsuf⟩ ⟨k, k1, rfl, k3, k4, k5⟩ w11 c11
   have hl2' := hO l2 hl2
   have s11 := c11.size
   rw [List.append_assoc] at hsuf
   obtain ⟨j, rfl, hkj, hjn, rfl, hj0, hz, hnext⟩ := someL_next (64 * F.se.toNat - k) k (by omega) hsuf
   have hm11 := k3.chg c11 (fun hm => by simp at hm; omega)
   obtain ⟨w12, hrun, c12, s12, hm12⟩ := hm11.update (P := Tryz.prog) (T := 99) u143 keyPlace (12, (j : Int)) (gd j)
   refine ⟨w12, hrun, Same.of c12 (fun i hi => by simp at hi; exact ⟨by omega, by simp; omega⟩), by omega, ⟨j + 1, by omega, hnext.symm, ?_, (k4.trans c11 (fun i hi hlt => by simp at hi; omega)).trans c12 (fun i hi hlt => by simp at hi; omega), by omega⟩, Same.of c12 (fun i hi => ?_)⟩
   ·rw [hnext, addAll_append]; exact hm12
   ·rcases List.mem_append.1 hi with h | h
    ·have h1 := hnew2 i h
     have h2 : i < w9.heap.size := by
      rcases List.mem_cons.1 h with e | e
      ·omega
      ·exact hlA2 i e
     exact ⟨by omega, by simp; omega⟩
    ·have := hO i h
     exact ⟨by omega, by simp; omega⟩
  ·rintro d2 O2 xs2 w13 hO2 hd2 hxs2 ⟨k, k1, hxs2', k3', k4', k5'⟩ w14 c14
   have hd2' := hO2 d2 hd2
   rw [hxs2'.symm.trans hxs2] at k3'
   have hlook : ∀ p, lookK p (addAll 12 (someL gd (64 * F.se.toNat)) (addAll 10 (someL gm (64 * F.fr.toNat)) l)) = if F.g p = 0 then none else some (F.g p) := fun p => by
    have hl0 : ∀ q : Int × Int, q.1 = 10 ∨ q.1 = 12 → lookK q l = none := fun q hq => lookK_none.2 fun x hx e => by
     have := h9 x hx
     rw [e] at this
     omega
    have hp3 := h3.pages1
    have hp4 := h4.pages1
    rw [addAll_look, addAll_look]
    obtain ⟨c, n⟩ := p
    by_cases e1 : c = 12
    ·subst e1
     rw [h7]
     simp only []
     by_cases e2 : gd n = 0
     ·rw [if_neg (by simp [e2]), if_neg (by omega), hl0 _ (.inr rfl), if_pos e2]
     ·have : 0 ≤ n ∧ n < 64 * F.se := by
       rcases Decidable.em (0 ≤ n ∧ n < 64 * F.se) with h | h
       ·exact h
       ·exact absurd (h4.out (by omega)) e2
      rw [if_pos ⟨trivial, by omega, by omega, e2⟩, if_neg e2]
    ·by_cases e3 : c = 10
     ·subst e3
      rw [h6]
      simp only []
      rw [if_neg (by omega)]
      by_cases e2 : gm n = 0
      ·rw [if_neg (by simp [e2]), hl0 _ (.inl rfl), if_pos e2]
      ·have : 0 ≤ n ∧ n < 64 * F.fr := by
        rcases Decidable.em (0 ≤ n ∧ n < 64 * F.fr) with h | h
        ·exact h
        ·exact absurd (h3.out (by omega)) e2
       rw [if_pos ⟨trivial, by omega, by omega, e2⟩, if_neg e2]
     ·rw [if_neg (by simp only []; omega), if_neg (by simp only []; omega), h8 (c, n) e3 e1]
      cases hl : lookK (c, n) l with
      | none => simp
      | some v =>
       have := h9 _ (lookK_mem hl)
       simp only [Option.getD_some]
       rw [if_neg (by simp only [] at this; omega)]
   have c014 : Chg [] w w14 := k4'.trans c14 (fun i hi hlt => by simp at hi; omega)
   have hmap := k3'.chg c14 (fun hm => by simp at hm; omega)
   refine ⟨_, _, rfl, ⟨hmap, hlook, fun x hx => ?_⟩, c014, Nat.le_refl _⟩
   obtain ⟨_, _, _, _, hnd, _⟩ := hmap
   have hl := (lookK_iff hnd).2 (show (x.1, x.2) ∈ _ from hx)
   rw [addAll_look, addAll_look] at hl
   have hw := h.wide
   obtain ⟨⟨c, n⟩, v⟩ := x
   simp only [] at hl ⊢
   by_cases e1 : c = 12 ∧ 0 ≤ n ∧ n < ((64 * F.se.toNat : Nat) : Int) ∧ gd n ≠ 0
   ·obtain ⟨rfl, e2, e3, e4⟩ := e1
    have hb : boundP F.fr F.se 12 = 64 * F.se := rfl
    exact ⟨by simp, by simp, e2, by simp only []; rw [hb]; omega⟩
   ·rw [if_neg e1] at hl
    by_cases e5 : c = 10 ∧ 0 ≤ n ∧ n < ((64 * F.fr.toNat : Nat) : Int) ∧ gm n ≠ 0
    ·obtain ⟨rfl, e2, e3, e4⟩ := e5
     have hb : boundP F.fr F.se 10 = 64 * F.fr := rfl
     exact ⟨by simp, by simp, e2, by simp only []; rw [hb]; omega⟩
    ·rw [if_neg e5] at hl
     exact (h9 _ (lookK_mem hl)).2.2.1
end Go.Proofs.YtfcfkhbkkfpehaaGreat
end
section
namespace Go.Proofs.YtfcfkhbkkfpehaaGreat
open Go Go.X
/- maps.Keys[map[pomander/api.Place]uint32,pomander/api.Place,uint32] -/
def W_maps_Keys_134 (m1 : Option Nat) (w : World) (R : Value → World → Prop) : Prop :=
 ∀ b1 : Nat, b1 = World.size w → ∀ w1 : World, w1 = World.alloc w (.cells #[.map m1] 99) → (R (.func (.func 94) #[] #[.pointer (some (⟨b1, 0, none⟩ : Addr))]) w1)
set_option maxRecDepth 100000 in
theorem go_maps_Keys_134 (m1 : Option Nat) (w : World) (R : Value → World → Prop) (h : W_maps_Keys_134 m1 w R) : Calls Tryz.prog 71 #[.map m1] w (fun e w' => ∃ (r1 : Value), e = .returned (r1) ∧ R r1 w') := by
 unfold W_maps_Keys_134 at h
 refine enter (N := 4) Tryz.func71 rfl rfl ?_
 refine CW.seq ?_
 refine CW.region fun L hL => ?_
 obtain ⟨b1, hb_b1⟩ : ∃ b1, b1 = World.size w := ⟨_, rfl⟩
 obtain ⟨w1, hw_w1⟩ : ∃ w1, w1 = World.alloc w (.cells #[.map m1] 99) := ⟨_, rfl⟩
 replace h := h b1 hb_b1 w1 hw_w1
 refine LW.val hL rfl (Wants.free rfl) rfl (boxE hb_b1 hw_w1 (Vl.box (v := .map m1) rfl)) ?_
 refine LW.rd hL rfl (Wants.free rfl) rfl (Rd.assign (v := .nilFunc) rfl) ?_
 refine LW.nil hL rfl ?_
 refine NW.then ?_
 refine CW.seq ?_
 refine CW.region fun L hL => ?_
 refine LW.rd hL rfl (Wants.free rfl) rfl (Rd.makeFunc rfl) ?_
 refine LW.rd hL rfl (Wants.free rfl) rfl (Rd.assign (v := .func (.func 94) #[] #[.pointer (some (⟨b1, 0, none⟩ : Addr))]) rfl) ?_
 refine LW.nil hL rfl ?_
 refine NW.then ?_
 refine CW.ret ?_
 exact res1 rfl rfl ⟨.func (.func 94) #[] #[.pointer (some (⟨b1, 0, none⟩ : Addr))], rfl, h⟩
/- maps.Keys[map[pomander/api.Place]uint32,pomander/api.Place,uint32]$1 -/
def W_maps_Keys_134_1 (yield1 : Value) (cap1 : Addr) (w : World) (R : World → Prop) : Prop :=
 ∃ (t1 : Option Nat), w.cell? cap1 = some (.map t1) ∧ (∃ (it1 : Option Addr) (w1 : World), (Instr.range 99 (.map t1)).run Tryz.prog w = .ok (.pointer it1) w1 ∧ (∃ (I1 : World → Prop) (m1 : World → Nat), I1 w1 ∧ ∀ (w2 : World), I1 w2 → ∃ (nx1 : Array Value) (ok1 : Bool) (w3 : World), (Instr.next (.pointer it1) false 0).run Tryz.prog w2 = .ok (.tuple nx1) w3 ∧ nx1[0]? = some (.bool ok1) ∧ ((ok1 = true → ∃ (k1 : Int) (k2 : Int) (v1 : Int), (Instr.entry (.pointer it1)).run Tryz.prog w3 = .ok (.tuple #[.agg #[.int .i64 k1, .int .i64 k2], .int .u32 v1]) w3 ∧ (∀ (b1 : Nat) (w5 : World), (w3.heap.size ≤ b1 ∧ b1 < w5.heap.size) → Chg [] w3 w5 → (XR.CallsY Tryz.prog yield1 #[.agg #[.int .i64 k1, .int .i64 k2]] w5 fun e w6 => ∃ (r1 : Bool), e = .returned (.bool r1) ∧ (((!r1) = true → R w6) ∧ ((!r1) = false → (I1 w6 ∧ m1 w6 < m1 w2)))))) ∧ (ok1 = false → R w3))))
set_option maxRecDepth 100000 in
theorem go_maps_Keys_134_1 (yield1 : Value) (cap1 : Addr) (w : World) (R : World → Prop) (h : W_maps_Keys_134_1 yield1 cap1 w R) : Calls Tryz.prog 94 #[yield1, .pointer (some cap1)] w (fun e w' => e = .returned (.tuple #[]) ∧ R w') := by
 unfold W_maps_Keys_134_1 at h
 refine enter (N := 14) Tryz.func94 rfl rfl ?_
 refine CW.seq ?_
 refine CW.region fun L hL => ?_
 obtain ⟨t1, hc1, h⟩ := h
 refine LW.rd hL rfl (Wants.free rfl) rfl (Rd.ld (v := .map t1) rfl (by kernel_rfl) (eqs hc1)) ?_
 obtain ⟨it1, w1, hm1, h⟩ := h
 refine LW.val hL rfl (Wants.free rfl) rfl (Vl.range (v := .pointer it1) rfl hm1) ?_
 refine LW.nil hL rfl ?_
 refine NW.then ?_
 refine CW.block ?_
 obtain ⟨I1, m1, hI1, h⟩ := h
 refine CW.loop (S := Unit) (fun s1 => [(0, yield1), (5, .pointer it1)]) (fun s1 w2 => I1 w2) (fun s1 w2 => m1 w2) () (by exact ⟨rfl, rfl, trivial⟩) hI1 (fun s1 w2 hI1 => ?_)
 replace h := h w2 hI1
 refine CW.seq ?_
 refine CW.region fun L hL => ?_
 obtain ⟨nx1, ok1, w3, hm2, hk1, h⟩ := h
 refine LW.val hL rfl (Wants.free rfl) rfl (Vl.next (v := .tuple nx1) rfl hm2) ?_
 refine LW.rd hL rfl (Wants.free rfl) rfl (Rd.extract (v := .bool ok1) rfl hk1) ?_
 refine LW.nil hL rfl ?_
 refine NW.then ?_
 refine CW.seq ?_
 refine CW.cond rfl (fun hb1 => ?_) (fun hb1 => ?_)
 ·replace h := h.1 hb1
  refine CW.skip ?_
  refine NW.then ?_
  refine CW.block ?_
  refine CW.seq ?_
  refine CW.region fun L hL => ?_
  obtain ⟨k1, k2, v1, hl1, h⟩ := h
  refine LW.rd hL rfl (Wants.free rfl) rfl (Rd.entry (v := .tuple #[.agg #[.int .i64 k1, .int .i64 k2], .int .u32 v1]) rfl (fun _ e => e ▸ hl1)) ?_
  refine LW.rd hL rfl (Wants.free rfl) rfl (Rd.extract (v := .agg #[.int .i64 k1, .int .i64 k2]) rfl rfl) ?_
  obtain ⟨b1, hb_b1⟩ : ∃ b1, b1 = World.size w3 := ⟨_, rfl⟩
  obtain ⟨w4, hw_w4⟩ : ∃ w4, w4 = World.alloc w3 (.cells #[.int .i64 0, .int .i64 0] 62) := ⟨_, rfl⟩
  refine LW.val hL rfl (Wants.free rfl) rfl (boxE hb_b1 hw_w4 (Vl.alloc (z := .agg #[.int .i64 0, .int .i64 0]) (by kernel_rfl))) ?_
  have hB := Boxes.alloc (cs := [.int .i64 0, .int .i64 0]) (T := 62) (Boxes.nil w3) hb_b1 hw_w4
  have hlo_b1 := sil_lo (Chg.refl [] w3) hb_b1
  have hc_w4 := sil_alloc (Chg.refl [] w3) hw_w4
  obtain ⟨w5, hw_w5⟩ : ∃ x, x = setCells w4 (⟨b1, 0, none⟩ : Addr) 0 [.int .i64 k1, .int .i64 k2] := ⟨_, rfl⟩
  refine LW.eff hL rfl (Wants.free rfl) rfl (stNE hw_w5 (Ef.stN (cs := [.int .i64 k1, .int .i64 k2]) rfl rfl (by kernel_rfl) (List.forall_mem_cons.2 ⟨rfl, (List.forall_mem_cons.2 ⟨rfl, (List.forall_mem_nil _)⟩)⟩) (has_of (hB.at (i := 0) rfl) (by simp)) (free_of' (hB.at (i := 0) rfl)))) ?_
  replace hB : Boxes w5 [(b1, [.int .i64 k1, .int .i64 k2], 62)] := Boxes.store (vs := [.int .i64 k1, .int .i64 k2]) (i := 0) (o := 0) hB rfl rfl rfl rfl hw_w5
  have hc_w5 := sil_new hc_w4 (sil_cN hw_w5) hlo_b1
  refine LW.nil hL rfl ?_
  refine NW.then ?_
  refine CW.seq ?_
  refine XR.CW.un ?_
  refine XR.CW.region fun L hL => ?_
  refine XR.LW.rd hL rfl (Wants.free rfl) rfl (Rd.move (v := yield1) rfl) ?_
  refine XR.LW.rd hL rfl (Wants.free rfl) rfl (Rd.ldN (cs := [.int .i64 k1, .int .i64 k2]) rfl (by kernel_rfl) (by kernel_rfl) (cellsS (box_cells (hB.at (i := 0) rfl) rfl))) ?_
  replace h := h b1 w5 ⟨hlo_b1, lt_of_heap (hB.at (i := 0) rfl)⟩ hc_w5
  refine XR.LW.callY hL rfl (Wants.free rfl) rfl rfl rfl h (fun e w6 h_ => ?_)
  clear h
  obtain ⟨r1, rfl, h⟩ := h_
  refine ⟨_, rfl, ?_⟩
  refine XR.LW.rd hL rfl (Wants.free rfl) rfl (Rd.un (v := .bool (!r1)) rfl (fun _ => by kernel_rfl)) ?_
  refine XR.LW.nil hL rfl ?_
  refine NW.then ?_
  refine CW.cond rfl (fun hb2 => ?_) (fun hb2 => ?_)
  ·replace h := h.1 hb2
   refine CW.ret ?_
   refine RW.block ?_
   refine RW.then ?_
   refine RW.block ?_
   exact res0 rfl ⟨rfl, h⟩
  ·replace h := h.2 hb2
   refine CW.skip ?_
   refine NW.block ?_
   exact NW.loop (S := Unit) (Ek := fun s1 => [(0, yield1), (5, .pointer it1)]) () (by exact ⟨rfl, rfl, trivial⟩) h
 ·replace h := h.2 hb1
  refine CW.exit ?_
  refine XW.then ?_
  refine XW.then ?_
  refine XW.hit ?_
  exact res0n rfl (by exact ⟨rfl, h⟩)
/- slices.AppendSeq[[]pomander/api.Place,pomander/api.Place] -/
def W_slices_AppendSeq_194 (s1 : Option Addr) (s1n : Nat) (s1c : Nat) (seq1 : Value) (w : World) (R : (Option Addr) → Nat → Nat → World → Prop) : Prop :=
 ∀ (b1 : Nat) (w1 : World), (w.heap.size ≤ b1 ∧ b1 < w1.heap.size) → Chg [] w w1 → (∃ (S1 Sp1 : List (Int × Int) → Prop) (keep1 : List Nat), XR.IsFn Tryz.prog seq1 ∧ XR.Iterates Tryz.prog seq1 (fun x : Int × Int => #[.agg #[.int .i64 x.1, .int .i64 x.2]]) S1 Sp1 keep1 w1 ∧ (∀ i_ ∈ keep1, i_ < w1.heap.size) ∧ ∃ (I1 : (Option Addr) → Nat → Nat → List Nat → List (Int × Int) → World → Prop), (∀ (c1 : Option Addr) (c1n : Nat) (c1c : Nat) (pre_ : List (Int × Int)), XR.Stab w1 (fun O_ w_ => I1 c1 c1n c1c O_ pre_ w_)) ∧ (∀ (O1 : List Nat) (w2 : World), Chg [] w1 w2 → XR.InO w1 O1 w2 → I1 s1 s1n s1c O1 ([]) w2) ∧ (∀ (l1 : Nat) (O1 : List Nat) (pre1 : List (Int × Int)) (x1 : Int) (x2 : Int) (c1 : Option Addr) (c1n : Nat) (c1c : Nat) (w2 : World), XR.InO w1 O1 w2 → l1 ∈ O1 → Sp1 (pre1 ++ [(x1, x2)]) → I1 c1 c1n c1c O1 pre1 w2 → (∀ (b2 : Nat) (w5 : World), (w2.heap.size ≤ b2 ∧ b2 < w5.heap.size) → Chg [l1] w2 w5 → (∀ b3 : Nat, b3 = World.size w5 → ∀ w6 : World, w6 = World.alloc w5 (.cells #[.int .i64 x1, .int .i64 x2] 62) → (∃ (l2 : Option Addr) (l2n : Nat) (l2c : Nat) (w7 : World), (Builtin.append_ #[63, 63] 63 #[.slice c1 c1n c1c, .slice (some (⟨b3, 0, none⟩ : Addr)) 1 1]).run Tryz.prog w6 = .ok (.slice l2 l2n l2c) w7 ∧ (Same w6 w7 [b1] ∧ (∀ (w8 : World), Chg [b1] w7 w8 → ((w5.heap.size ≤ w8.heap.size ∧ I1 l2 l2n l2c O1 (pre1 ++ [(x1, x2)]) w8 ∧ Same w5 w8 (keep1 ++ O1))))))))) ∧ (∀ (d1 : Nat) (O2 : List Nat) (xs1 : List (Int × Int)) (c1 : Option Addr) (c1n : Nat) (c1c : Nat) (w9 : World), XR.InO w1 O2 w9 → d1 ∈ O2 → S1 xs1 → I1 c1 c1n c1c O2 xs1 w9 → (∀ w10 : World, Chg [d1] w9 w10 → (R c1 c1n c1c w10))))
set_option maxRecDepth 100000 in
theorem go_slices_AppendSeq_194 (s1 : Option Addr) (s1n : Nat) (s1c : Nat) (seq1 : Value) (w : World) (R : (Option Addr) → Nat → Nat → World → Prop) (h : W_slices_AppendSeq_194 s1 s1n s1c seq1 w R) : Calls Tryz.prog 112 #[.slice s1 s1n s1c, seq1] w (fun e w' => ∃ (r1 : Option Addr) (r1n : Nat) (r1c : Nat), e = .returned (.slice r1 r1n r1c) ∧ R r1 r1n r1c w') := by
 unfold W_slices_AppendSeq_194 at h
 refine XR.enterM (N := 13) Tryz.func112 rfl rfl ?_
 refine CW.seq ?_
 refine CW.region fun L hL => ?_
 obtain ⟨b1, hb_b1⟩ : ∃ b1, b1 = World.size w := ⟨_, rfl⟩
 obtain ⟨w1, hw_w1⟩ : ∃ w1, w1 = World.alloc w (.cells #[.slice s1 s1n s1c] 63) := ⟨_, rfl⟩
 refine LW.val hL rfl (Wants.free rfl) rfl (boxE hb_b1 hw_w1 (Vl.box (v := .slice s1 s1n s1c) rfl)) ?_
 have hB := Boxes.alloc (cs := [.slice s1 s1n s1c]) (T := 63) (Boxes.nil w) hb_b1 hw_w1
 have hlo_b1 := sil_lo (Chg.refl [] w) hb_b1
 have hc_w1 := sil_alloc (Chg.refl [] w) hw_w1
 refine LW.rd hL rfl (Wants.free rfl) rfl (Rd.assign (v := .slice none 0 0) rfl) ?_
 refine LW.nil hL rfl ?_
 refine NW.then ?_
 refine CW.seq ?_
 refine CW.seq ?_
 refine CW.region fun L hL => ?_
 refine LW.rd hL rfl (Wants.free rfl) rfl (Rd.move (v := seq1) rfl) ?_
 refine LW.nil hL rfl ?_
 refine NW.then ?_
 refine CW.block ?_
 replace h := h b1 w1 ⟨hlo_b1, lt_of_heap (hB.at (i := 0) rfl)⟩ hc_w1
 obtain ⟨S1, Sp1, keep1, hfn_, hit_, hkp_, I1, hst_I1, h0_, hrd_, hdn_⟩ := h
 refine XR.CW.rangeV (α := Int × Int) (enc := (fun x : Int × Int => #[.agg #[.int .i64 x.1, .int .i64 x.2]])) (S := S1) (Sp := Sp1) (keep := keep1) rfl hfn_ (fun _ => rfl) (by decide) hit_ (fun (O_ : List Nat) (pre_ : List (Int × Int)) (w_ : World) => ∃ (c1 : Option Addr) (c1n : Nat) (c1c : Nat), I1 c1 c1n c1c O_ pre_ w_ ∧ Boxes w_ [(b1, [.slice c1 c1n c1c], 63)]) (fun (c_ : Code) (O_ : List Nat) (pre_ : List (Int × Int)) (w_ : World) => False) ?_ ?_ ?_ hkp_ ?_ ?_ ?_
 ·intro pre_ O_ O2_ A_ B_ hi_ hO_ hc_ hO2_ hg_
  have hB0_ := hB
  obtain ⟨c1, c1n, c1c, hi_, hB⟩ := hi_
  exact ⟨c1, c1n, c1c, hst_I1 c1 c1n c1c pre_ O_ O2_ A_ B_ hi_ hO_ hc_ hO2_ hg_, hB.stab hB0_ rfl hO_ hc_⟩
 ·intro c_ pre_ O_ O2_ A_ B_ hi_ hO_ hc_ hO2_ hg_
  exact hi_.elim
 ·intro O_ A_ hc_ hO_
  exact ⟨s1, s1n, s1c, h0_ O_ A_ hc_ hO_, Boxes.chg hB hc_ (by simp)⟩
 ·intro l1 O1 pre1 x_ w2 hO_ hl_ hSp_ hi_
  obtain ⟨x1, x2⟩ := x_
  obtain ⟨c1, c1n, c1c, hi_, hB⟩ := hi_
  have h := hrd_ l1 O1 pre1 x1 x2 c1 c1n c1c w2 hO_ hl_ hSp_ hi_
  refine XR.CW.region fun L hL => ?_
  obtain ⟨b2, hb_b2⟩ : ∃ b2, b2 = World.size w2 := ⟨_, rfl⟩
  obtain ⟨w3, hw_w3⟩ : ∃ w3, w3 = World.alloc w2 (.cells #[.int .i64 0, .int .i64 0] 62) := ⟨_, rfl⟩
  refine XR.LW.val hL rfl (Wants.free rfl) rfl (boxE hb_b2 hw_w3 (Vl.alloc (z := .agg #[.int .i64 0, .int .i64 0]) (by kernel_rfl))) ?_
  replace hB := Boxes.alloc (cs := [.int .i64 0, .int .i64 0]) (T := 62) hB hb_b2 hw_w3
  have hlo_b2 := sil_lo (Chg.refl [] w2) hb_b2
  have hc_w3 := sil_alloc (Chg.refl [] w2) hw_w3
  obtain ⟨w4, hw_w4⟩ : ∃ x, x = setCells w3 (⟨b2, 0, none⟩ : Addr) 0 [.int .i64 x1, .int .i64 x2] := ⟨_, rfl⟩
  refine XR.LW.eff hL rfl (Wants.free rfl) rfl (stNE hw_w4 (Ef.stN (cs := [.int .i64 x1, .int .i64 x2]) rfl rfl (by kernel_rfl) (List.forall_mem_cons.2 ⟨rfl, (List.forall_mem_cons.2 ⟨rfl, (List.forall_mem_nil _)⟩)⟩) (has_of (hB.at (i := 0) rfl) (by simp)) (free_of' (hB.at (i := 0) rfl)))) ?_
  replace hB : Boxes w4 [(b2, [.int .i64 x1, .int .i64 x2], 62), (b1, [.slice c1 c1n c1c], 63)] := Boxes.store (vs := [.int .i64 x1, .int .i64 x2]) (i := 0) (o := 0) hB rfl rfl rfl rfl hw_w4
  have hc_w4 := sil_new hc_w3 (sil_cN hw_w4) hlo_b2
  refine XR.LW.nil hL rfl ?_
  refine XR.NW.begin hc_w4 (fun w5 hcb_w5 hlp_ hib_ => ?_)
  have hc_w5 : Chg [l1] w2 w5 := sil_more hc_w4 hcb_w5
  replace hB := hB.notloop hlp_ hcb_w5
  replace h := h b2 w5 ⟨hlo_b2, lt_of_heap (hB.at (i := 0) rfl)⟩ hc_w5
  refine XR.CW.block ?_
  refine XR.CW.region fun L hL => ?_
  refine XR.LW.rd hL rfl (Wants.free rfl) rfl (Rd.ld (v := .slice c1 c1n c1c) rfl (by kernel_rfl) (eqs (box_cell (hB.at (i := 1) rfl) rfl))) ?_
  refine XR.LW.rd hL rfl (Wants.free rfl) rfl (Rd.ldN (cs := [.int .i64 x1, .int .i64 x2]) rfl (by kernel_rfl) (by kernel_rfl) (cellsS (box_cells (hB.at (i := 0) rfl) rfl))) ?_
  obtain ⟨b3, hb_b3⟩ : ∃ b3, b3 = World.size w5 := ⟨_, rfl⟩
  obtain ⟨w6, hw_w6⟩ : ∃ w6, w6 = World.alloc w5 (.cells #[.int .i64 x1, .int .i64 x2] 62) := ⟨_, rfl⟩
  replace h := h b3 hb_b3 w6 hw_w6
  refine XR.LW.val hL rfl (Wants.free rfl) rfl (sliceE (n := 1) hb_b3 hw_w6 (fun w => Vl.buildSlice (vs := [(0, .agg #[.int .i64 x1, .int .i64 x2])]) rfl (by kernel_rfl))) ?_
  replace hB := hB.grow hw_w6
  obtain ⟨l2, l2n, l2c, w7, ha1, h⟩ := h
  refine XR.LW.val hL rfl (Wants.free rfl) rfl (Vl.builtin (v := .slice l2 l2n l2c) rfl (valB ha1)) ?_
  obtain ⟨hsm1, h⟩ := h
  replace hB := Boxes.sameS (hB.sel [1] (by decide) rfl) hsm1 (by simp)
  obtain ⟨w8, hw_w8⟩ : ∃ x, x = World.setCell w7 (⟨b1, 0, none⟩ : Addr) (.slice l2 l2n l2c) := ⟨_, rfl⟩
  refine XR.LW.eff hL rfl (Wants.free rfl) rfl (stE hw_w8 (Ef.st rfl rfl rfl (by kernel_rfl) (box_cell (v := .slice c1 c1n c1c) (hB.at (i := 0) rfl) rfl) (free_of (hB.at (i := 0) rfl) 0))) ?_
  replace hB : Boxes w8 [(b1, [.slice l2 l2n l2c], 63)] := Boxes.store1  (i := 0) (o := 0) hB rfl rfl rfl rfl hw_w8
  have hc_w8 : Chg [b1] w7 w8 := sil_more (Chg.refl [] w7) (sil_c1 hw_w8)
  refine XR.LW.nil hL rfl ?_
  refine NW.block ?_
  replace h := h  w8  hc_w8
  exact fun a_ ha_ => ⟨h.1, ⟨l2, l2n, l2c, h.2.1, hB⟩, h.2.2⟩
 ·intro d1 O2 xs1 w9 hO_ hd_ hdh_ hS_ hi_
  obtain ⟨c1, c1n, c1c, hi_, hB⟩ := hi_
  have h := hdn_ d1 O2 xs1 c1 c1n c1c w9 hO_ hd_ hS_ hi_
  have hK := XR.Marks.cons (XR.Marks.nil _) hdh_ (by simp)
  refine NW.block ?_
  refine NW.then ?_
  refine CW.seq ?_
  refine CW.region fun L hL => ?_
  refine LW.rd hL rfl (Wants.free rfl) rfl (Rd.ld (v := .slice c1 c1n c1c) rfl (by kernel_rfl) (eqs (box_cell (hB.at (i := 0) rfl) rfl))) ?_
  refine LW.rd hL rfl (Wants.free rfl) rfl (Rd.assign (v := .slice c1 c1n c1c) rfl) ?_
  refine LW.nil hL rfl ?_
  refine NW.then ?_
  refine CW.ret ?_
  exact XR.resM (ms := [d1]) (vs := [.slice c1 c1n c1c]) hK rfl (fun w_ hc_ => ⟨(ResOK.t rfl ResOK.nil), c1, c1n, c1c, rfl, h w_ hc_⟩)
 ·intro d2 c_ O3 xs2 w11 hO_ hd_ hdh_ hS_ hi_
  exact hi_.elim
/- slices.Collect[pomander/api.Place] -/
def W_slices_Collect_841 (seq1 : Value) (w : World) (R : (Option Addr) → Nat → Nat → World → Prop) : Prop :=
 Calls Tryz.prog 112 #[.slice none 0 0, seq1] w fun e w1 => ∃ (r2 : Option Addr) (r2n : Nat) (r2c : Nat), e = .returned (.slice r2 r2n r2c) ∧ (R r2 r2n r2c w1)
set_option maxRecDepth 100000 in
theorem go_slices_Collect_841 (seq1 : Value) (w : World) (R : (Option Addr) → Nat → Nat → World → Prop) (h : W_slices_Collect_841 seq1 w R) : Calls Tryz.prog 92 #[seq1] w (fun e w' => ∃ (r1 : Option Addr) (r1n : Nat) (r1c : Nat), e = .returned (.slice r1 r1n r1c) ∧ R r1 r1n r1c w') := by
 unfold W_slices_Collect_841 at h
 refine enter (N := 5) Tryz.func92 rfl rfl ?_
 refine CW.seq ?_
 refine CW.region fun L hL => ?_
 refine LW.rd hL rfl (Wants.free rfl) rfl (Rd.assign (v := .slice none 0 0) rfl) ?_
 refine LW.nil hL rfl ?_
 refine NW.then ?_
 refine CW.seq ?_
 refine CW.region fun L hL => ?_
 refine LW.rd hL rfl (Wants.free rfl) rfl (Rd.move (v := seq1) rfl) ?_
 refine LW.call hL rfl (Wants.free rfl) rfl (Cl.fn (f := 112) rfl Tryz.func112 (by kernel_rfl) rfl) h (fun e w1 h_ => ?_)
 clear h
 obtain ⟨r2, r2n, r2c, rfl, h⟩ := h_
 refine ⟨_, rfl, ?_⟩
 refine LW.rd hL rfl (Wants.free rfl) rfl (Rd.assign (v := .slice r2 r2n r2c) rfl) ?_
 refine LW.nil hL rfl ?_
 refine NW.then ?_
 refine CW.ret ?_
 exact res1 rfl rfl ⟨r2, r2n, r2c, rfl, h⟩
/- slices.SortedFunc[pomander/api.Place] -/
def W_slices_SortedFunc_841 (seq1 : Value) (cmp1 : Value) (w : World) (R : (Option Addr) → Nat → Nat → World → Prop) : Prop :=
 Calls Tryz.prog 92 #[seq1] w fun e w1 => ∃ (r2 : Option Addr) (r2n : Nat) (r2c : Nat), e = .returned (.slice r2 r2n r2c) ∧ (Calls Tryz.prog 93 #[.slice r2 r2n r2c, cmp1] w1 fun e w2 => e = .returned (.tuple #[]) ∧ (R r2 r2n r2c w2))
set_option maxRecDepth 100000 in
theorem go_slices_SortedFunc_841 (seq1 : Value) (cmp1 : Value) (w : World) (R : (Option Addr) → Nat → Nat → World → Prop) (h : W_slices_SortedFunc_841 seq1 cmp1 w R) : Calls Tryz.prog 70 #[seq1, cmp1] w (fun e w' => ∃ (r1 : Option Addr) (r1n : Nat) (r1c : Nat), e = .returned (.slice r1 r1n r1c) ∧ R r1 r1n r1c w') := by
 unfold W_slices_SortedFunc_841 at h
 refine enter (N := 12) Tryz.func70 rfl rfl ?_
 refine CW.seq ?_
 refine CW.region fun L hL => ?_
 refine LW.rd hL rfl (Wants.free rfl) rfl (Rd.assign (v := .slice none 0 0) rfl) ?_
 refine LW.nil hL rfl ?_
 refine NW.then ?_
 refine CW.seq ?_
 refine CW.region fun L hL => ?_
 refine LW.rd hL rfl (Wants.free rfl) rfl (Rd.move (v := seq1) rfl) ?_
 refine LW.call hL rfl (Wants.free rfl) rfl (Cl.fn (f := 92) rfl Tryz.func92 (by kernel_rfl) rfl) h (fun e w1 h_ => ?_)
 clear h
 obtain ⟨r2, r2n, r2c, rfl, h⟩ := h_
 refine ⟨_, rfl, ?_⟩
 refine LW.rd hL rfl (Wants.free rfl) rfl (Rd.assign (v := .slice r2 r2n r2c) rfl) ?_
 refine LW.nil hL rfl ?_
 refine NW.then ?_
 refine CW.seq ?_
 refine CW.region fun L hL => ?_
 refine LW.rd hL rfl (Wants.free rfl) rfl (Rd.move (v := .slice r2 r2n r2c) rfl) ?_
 refine LW.rd hL rfl (Wants.free rfl) rfl (Rd.move (v := cmp1) rfl) ?_
 refine LW.call hL rfl (Wants.free rfl) rfl (Cl.fn (f := 93) rfl Tryz.func93 (by kernel_rfl) rfl) h (fun e w2 h_ => ?_)
 clear h
 obtain ⟨rfl, h⟩ := h_
 refine ⟨_, rfl, ?_⟩
 refine LW.nil hL rfl ?_
 refine NW.then ?_
 refine CW.seq ?_
 refine CW.region fun L hL => ?_
 refine LW.rd hL rfl (Wants.free rfl) rfl (Rd.move (v := .slice r2 r2n r2c) rfl) ?_
 refine LW.rd hL rfl (Wants.free rfl) rfl (Rd.assign (v := .slice r2 r2n r2c) rfl) ?_
 refine LW.nil hL rfl ?_
 refine NW.then ?_
 refine CW.ret ?_
 exact res1 rfl rfl ⟨r2, r2n, r2c, rfl, h⟩
/- cmp.Compare[pomander/api.PlaceKind] -/
def W_cmp_Compare_942 (x1 : Int) (y1 : Int) (w : World) (R : Int → World → Prop) : Prop :=
 Calls Tryz.prog 115 #[.int .i64 x1] w fun e w1 => ∃ (r2 : Bool), e = .returned (.bool r2) ∧ (Calls Tryz.prog 115 #[.int .i64 y1] w1 fun e w2 => ∃ (r3 : Bool), e = .returned (.bool r3) ∧ ((r2 = true → (r3 = true → R 0 w2) ∧ (r3 = false → R (-1) w2)) ∧ (r2 = false → (r3 = true → R 1 w2) ∧ (r3 = false → ((decide (x1 < y1)) = true → R (-1) w2) ∧ ((decide (x1 < y1)) = false → ((decide (x1 > y1)) = true → R 1 w2) ∧ ((decide (x1 > y1)) = false → R 0 w2))))))
set_option maxRecDepth 100000 in
theorem go_cmp_Compare_942 (x1 : Int) (y1 : Int) (w : World) (R : Int → World → Prop) (h : W_cmp_Compare_942 x1 y1 w R) : Calls Tryz.prog 95 #[.int .i64 x1, .int .i64 y1] w (fun e w' => ∃ (r1 : Int), e = .returned (.int .i64 r1) ∧ R r1 w') := by
 unfold W_cmp_Compare_942 at h
 refine enter (N := 20) Tryz.func95 rfl rfl ?_
 refine CW.seq ?_
 refine CW.region fun L hL => ?_
 refine LW.rd hL rfl (Wants.free rfl) rfl (Rd.assign (v := .int .i64 0) rfl) ?_
 refine LW.nil hL rfl ?_
 refine NW.then ?_
 refine CW.seq ?_
 refine CW.region fun L hL => ?_
 refine LW.rd hL rfl (Wants.free rfl) rfl (Rd.move (v := .int .i64 x1) rfl) ?_
 refine LW.call hL rfl (Wants.free rfl) rfl (Cl.fn (f := 115) rfl Tryz.func115 (by kernel_rfl) rfl) h (fun e w1 h_ => ?_)
 clear h
 obtain ⟨r2, rfl, h⟩ := h_
 refine ⟨_, rfl, ?_⟩
 refine LW.rd hL rfl (Wants.free rfl) rfl (Rd.assign (v := .bool r2) rfl) ?_
 refine LW.nil hL rfl ?_
 refine NW.then ?_
 refine CW.seq ?_
 refine CW.region fun L hL => ?_
 refine LW.rd hL rfl (Wants.free rfl) rfl (Rd.move (v := .int .i64 y1) rfl) ?_
 refine LW.call hL rfl (Wants.free rfl) rfl (Cl.fn (f := 115) rfl Tryz.func115 (by kernel_rfl) rfl) h (fun e w2 h_ => ?_)
 clear h
 obtain ⟨r3, rfl, h⟩ := h_
 refine ⟨_, rfl, ?_⟩
 refine LW.rd hL rfl (Wants.free rfl) rfl (Rd.assign (v := .bool r3) rfl) ?_
 refine LW.nil hL rfl ?_
 refine NW.then ?_
 refine CW.seq ?_
 refine CW.seq ?_
 refine CW.region fun L hL => ?_
 refine LW.rd hL rfl (Wants.free rfl) rfl (Rd.move (v := .bool r2) rfl) ?_
 refine LW.nil hL rfl ?_
 refine NW.then ?_
 refine CW.cond rfl (fun hb1 => ?_) (fun hb1 => ?_)
 ·replace h := h.1 hb1
  refine CW.seq ?_
  refine CW.seq ?_
  refine CW.region fun L hL => ?_
  refine LW.rd hL rfl (Wants.free rfl) rfl (Rd.move (v := .bool r3) rfl) ?_
  refine LW.nil hL rfl ?_
  refine NW.then ?_
  refine CW.cond rfl (fun hb2 => ?_) (fun hb2 => ?_)
  ·replace h := h.1 hb2
   refine CW.seq ?_
   refine CW.region fun L hL => ?_
   refine LW.rd hL rfl (Wants.free rfl) rfl (Rd.assign (v := .int .i64 0) rfl) ?_
   refine LW.nil hL rfl ?_
   refine NW.then ?_
   refine CW.ret ?_
   refine RW.then ?_
   refine RW.then ?_
   exact res1 rfl rfl ⟨0, rfl, h⟩
  ·replace h := h.2 hb2
   refine CW.skip ?_
   refine NW.then ?_
   refine CW.seq ?_
   refine CW.region fun L hL => ?_
   refine LW.rd hL rfl (Wants.free rfl) rfl (Rd.assign (v := .int .i64 (-1)) rfl) ?_
   refine LW.nil hL rfl ?_
   refine NW.then ?_
   refine CW.ret ?_
   refine RW.then ?_
   exact res1 rfl rfl ⟨(-1), rfl, h⟩
 ·replace h := h.2 hb1
  refine CW.skip ?_
  refine NW.then ?_
  refine CW.seq ?_
  refine CW.seq ?_
  refine CW.region fun L hL => ?_
  refine LW.rd hL rfl (Wants.free rfl) rfl (Rd.move (v := .bool r3) rfl) ?_
  refine LW.nil hL rfl ?_
  refine NW.then ?_
  refine CW.cond rfl (fun hb3 => ?_) (fun hb3 => ?_)
  ·replace h := h.1 hb3
   refine CW.seq ?_
   refine CW.region fun L hL => ?_
   refine LW.rd hL rfl (Wants.free rfl) rfl (Rd.assign (v := .int .i64 1) rfl) ?_
   refine LW.nil hL rfl ?_
   refine NW.then ?_
   refine CW.ret ?_
   refine RW.then ?_
   exact res1 rfl rfl ⟨1, rfl, h⟩
  ·replace h := h.2 hb3
   refine CW.skip ?_
   refine NW.then ?_
   refine CW.seq ?_
   refine CW.seq ?_
   refine CW.region fun L hL => ?_
   refine LW.rd hL rfl (Wants.free rfl) rfl (Rd.move (v := .int .i64 x1) rfl) ?_
   refine LW.rd hL rfl (Wants.free rfl) rfl (Rd.move (v := .int .i64 y1) rfl) ?_
   refine LW.rd hL rfl (Wants.free rfl) rfl (Rd.bin (v := .bool (decide (x1 < y1))) rfl rfl (fun w => by kernel_rfl)) ?_
   refine LW.nil hL rfl ?_
   refine NW.then ?_
   refine CW.cond rfl (fun hb4 => ?_) (fun hb4 => ?_)
   ·replace h := h.1 hb4
    refine CW.seq ?_
    refine CW.region fun L hL => ?_
    refine LW.rd hL rfl (Wants.free rfl) rfl (Rd.assign (v := .int .i64 (-1)) rfl) ?_
    refine LW.nil hL rfl ?_
    refine NW.then ?_
    refine CW.ret ?_
    refine RW.then ?_
    exact res1 rfl rfl ⟨(-1), rfl, h⟩
   ·replace h := h.2 hb4
    refine CW.skip ?_
    refine NW.then ?_
    refine CW.seq ?_
    refine CW.seq ?_
    refine CW.region fun L hL => ?_
    refine LW.rd hL rfl (Wants.free rfl) rfl (Rd.move (v := .int .i64 x1) rfl) ?_
    refine LW.rd hL rfl (Wants.free rfl) rfl (Rd.move (v := .int .i64 y1) rfl) ?_
    refine LW.rd hL rfl (Wants.free rfl) rfl (Rd.bin (v := .bool (decide (x1 > y1))) rfl rfl (fun w => by kernel_rfl)) ?_
    refine LW.nil hL rfl ?_
    refine NW.then ?_
    refine CW.cond rfl (fun hb5 => ?_) (fun hb5 => ?_)
    ·replace h := h.1 hb5
     refine CW.seq ?_
     refine CW.region fun L hL => ?_
     refine LW.rd hL rfl (Wants.free rfl) rfl (Rd.assign (v := .int .i64 1) rfl) ?_
     refine LW.nil hL rfl ?_
     refine NW.then ?_
     refine CW.ret ?_
     refine RW.then ?_
     exact res1 rfl rfl ⟨1, rfl, h⟩
    ·replace h := h.2 hb5
     refine CW.skip ?_
     refine NW.then ?_
     refine CW.seq ?_
     refine CW.region fun L hL => ?_
     refine LW.rd hL rfl (Wants.free rfl) rfl (Rd.assign (v := .int .i64 0) rfl) ?_
     refine LW.nil hL rfl ?_
     refine NW.then ?_
     refine CW.ret ?_
     exact res1 rfl rfl ⟨0, rfl, h⟩
/- cmp.Compare[int] -/
def W_cmp_Compare_61 (x1 : Int) (y1 : Int) (w : World) (R : Int → World → Prop) : Prop :=
 Calls Tryz.prog 116 #[.int .i64 x1] w fun e w1 => ∃ (r2 : Bool), e = .returned (.bool r2) ∧ (Calls Tryz.prog 116 #[.int .i64 y1] w1 fun e w2 => ∃ (r3 : Bool), e = .returned (.bool r3) ∧ ((r2 = true → (r3 = true → R 0 w2) ∧ (r3 = false → R (-1) w2)) ∧ (r2 = false → (r3 = true → R 1 w2) ∧ (r3 = false → ((decide (x1 < y1)) = true → R (-1) w2) ∧ ((decide (x1 < y1)) = false → ((decide (x1 > y1)) = true → R 1 w2) ∧ ((decide (x1 > y1)) = false → R 0 w2))))))
set_option maxRecDepth 100000 in
theorem go_cmp_Compare_61 (x1 : Int) (y1 : Int) (w : World) (R : Int → World → Prop) (h : W_cmp_Compare_61 x1 y1 w R) : Calls Tryz.prog 96 #[.int .i64 x1, .int .i64 y1] w (fun e w' => ∃ (r1 : Int), e = .returned (.int .i64 r1) ∧ R r1 w') := by
 unfold W_cmp_Compare_61 at h
 refine enter (N := 20) Tryz.func96 rfl rfl ?_
 refine CW.seq ?_
 refine CW.region fun L hL => ?_
 refine LW.rd hL rfl (Wants.free rfl) rfl (Rd.assign (v := .int .i64 0) rfl) ?_
 refine LW.nil hL rfl ?_
 refine NW.then ?_
 refine CW.seq ?_
 refine CW.region fun L hL => ?_
 refine LW.rd hL rfl (Wants.free rfl) rfl (Rd.move (v := .int .i64 x1) rfl) ?_
 refine LW.call hL rfl (Wants.free rfl) rfl (Cl.fn (f := 116) rfl Tryz.func116 (by kernel_rfl) rfl) h (fun e w1 h_ => ?_)
 clear h
 obtain ⟨r2, rfl, h⟩ := h_
 refine ⟨_, rfl, ?_⟩
 refine LW.rd hL rfl (Wants.free rfl) rfl (Rd.assign (v := .bool r2) rfl) ?_
 refine LW.nil hL rfl ?_
 refine NW.then ?_
 refine CW.seq ?_
 refine CW.region fun L hL => ?_
 refine LW.rd hL rfl (Wants.free rfl) rfl (Rd.move (v := .int .i64 y1) rfl) ?_
 refine LW.call hL rfl (Wants.free rfl) rfl (Cl.fn (f := 116) rfl Tryz.func116 (by kernel_rfl) rfl) h (fun e w2 h_ => ?_)
 clear h
 obtain ⟨r3, rfl, h⟩ := h_
 refine ⟨_, rfl, ?_⟩
 refine LW.rd hL rfl (Wants.free rfl) rfl (Rd.assign (v := .bool r3) rfl) ?_
 refine LW.nil hL rfl ?_
 refine NW.then ?_
 refine CW.seq ?_
 refine CW.seq ?_
 refine CW.region fun L hL => ?_
 refine LW.rd hL rfl (Wants.free rfl) rfl (Rd.move (v := .bool r2) rfl) ?_
 refine LW.nil hL rfl ?_
 refine NW.then ?_
 refine CW.cond rfl (fun hb1 => ?_) (fun hb1 => ?_)
 ·replace h := h.1 hb1
  refine CW.seq ?_
  refine CW.seq ?_
  refine CW.region fun L hL => ?_
  refine LW.rd hL rfl (Wants.free rfl) rfl (Rd.move (v := .bool r3) rfl) ?_
  refine LW.nil hL rfl ?_
  refine NW.then ?_
  refine CW.cond rfl (fun hb2 => ?_) (fun hb2 => ?_)
  ·replace h := h.1 hb2
   refine CW.seq ?_
   refine CW.region fun L hL => ?_
   refine LW.rd hL rfl (Wants.free rfl) rfl (Rd.assign (v := .int .i64 0) rfl) ?_
   refine LW.nil hL rfl ?_
   refine NW.then ?_
   refine CW.ret ?_
   refine RW.then ?_
   refine RW.then ?_
   exact res1 rfl rfl ⟨0, rfl, h⟩
  ·replace h := h.2 hb2
   refine CW.skip ?_
   refine NW.then ?_
   refine CW.seq ?_
   refine CW.region fun L hL => ?_
   refine LW.rd hL rfl (Wants.free rfl) rfl (Rd.assign (v := .int .i64 (-1)) rfl) ?_
   refine LW.nil hL rfl ?_
   refine NW.then ?_
   refine CW.ret ?_
   refine RW.then ?_
   exact res1 rfl rfl ⟨(-1), rfl, h⟩
 ·replace h := h.2 hb1
  refine CW.skip ?_
  refine NW.then ?_
  refine CW.seq ?_
  refine CW.seq ?_
  refine CW.region fun L hL => ?_
  refine LW.rd hL rfl (Wants.free rfl) rfl (Rd.move (v := .bool r3) rfl) ?_
  refine LW.nil hL rfl ?_
  refine NW.then ?_
  refine CW.cond rfl (fun hb3 => ?_) (fun hb3 => ?_)
  ·replace h := h.1 hb3
   refine CW.seq ?_
   refine CW.region fun L hL => ?_
   refine LW.rd hL rfl (Wants.free rfl) rfl (Rd.assign (v := .int .i64 1) rfl) ?_
   refine LW.nil hL rfl ?_
   refine NW.then ?_
   refine CW.ret ?_
   refine RW.then ?_
   exact res1 rfl rfl ⟨1, rfl, h⟩
  ·replace h := h.2 hb3
   refine CW.skip ?_
   refine NW.then ?_
   refine CW.seq ?_
   refine CW.seq ?_
   refine CW.region fun L hL => ?_
   refine LW.rd hL rfl (Wants.free rfl) rfl (Rd.move (v := .int .i64 x1) rfl) ?_
   refine LW.rd hL rfl (Wants.free rfl) rfl (Rd.move (v := .int .i64 y1) rfl) ?_
   refine LW.rd hL rfl (Wants.free rfl) rfl (Rd.bin (v := .bool (decide (x1 < y1))) rfl rfl (fun w => by kernel_rfl)) ?_
   refine LW.nil hL rfl ?_
   refine NW.then ?_
   refine CW.cond rfl (fun hb4 => ?_) (fun hb4 => ?_)
   ·replace h := h.1 hb4
    refine CW.seq ?_
    refine CW.region fun L hL => ?_
    refine LW.rd hL rfl (Wants.free rfl) rfl (Rd.assign (v := .int .i64 (-1)) rfl) ?_
    refine LW.nil hL rfl ?_
    refine NW.then ?_
    refine CW.ret ?_
    refine RW.then ?_
    exact res1 rfl rfl ⟨(-1), rfl, h⟩
   ·replace h := h.2 hb4
    refine CW.skip ?_
    refine NW.then ?_
    refine CW.seq ?_
    refine CW.seq ?_
    refine CW.region fun L hL => ?_
    refine LW.rd hL rfl (Wants.free rfl) rfl (Rd.move (v := .int .i64 x1) rfl) ?_
    refine LW.rd hL rfl (Wants.free rfl) rfl (Rd.move (v := .int .i64 y1) rfl) ?_
    refine LW.rd hL rfl (Wants.free rfl) rfl (Rd.bin (v := .bool (decide (x1 > y1))) rfl rfl (fun w => by kernel_rfl)) ?_
    refine LW.nil hL rfl ?_
    refine NW.then ?_
    refine CW.cond rfl (fun hb5 => ?_) (fun hb5 => ?_)
    ·replace h := h.1 hb5
     refine CW.seq ?_
     refine CW.region fun L hL => ?_
     refine LW.rd hL rfl (Wants.free rfl) rfl (Rd.assign (v := .int .i64 1) rfl) ?_
     refine LW.nil hL rfl ?_
     refine NW.then ?_
     refine CW.ret ?_
     refine RW.then ?_
     exact res1 rfl rfl ⟨1, rfl, h⟩
    ·replace h := h.2 hb5
     refine CW.skip ?_
     refine NW.then ?_
     refine CW.seq ?_
     refine CW.region fun L hL => ?_
     refine LW.rd hL rfl (Wants.free rfl) rfl (Rd.assign (v := .int .i64 0) rfl) ?_
     refine LW.nil hL rfl ?_
     refine NW.then ?_
     refine CW.ret ?_
     exact res1 rfl rfl ⟨0, rfl, h⟩
/- cmp.isNaN[pomander/api.PlaceKind] -/
def W_cmp_isNaN_942 (x1 : Int) (w : World) (R : Bool → World → Prop) : Prop :=
 R (!(x1 == x1)) w
set_option maxRecDepth 100000 in
theorem go_cmp_isNaN_942 (x1 : Int) (w : World) (R : Bool → World → Prop) (h : W_cmp_isNaN_942 x1 w R) : Calls Tryz.prog 115 #[.int .i64 x1] w (fun e w' => ∃ (r1 : Bool), e = .returned (.bool r1) ∧ R r1 w') := by
 unfold W_cmp_isNaN_942 at h
 refine enter (N := 6) Tryz.func115 rfl rfl ?_
 refine CW.seq ?_
 refine CW.region fun L hL => ?_
 refine LW.rd hL rfl (Wants.free rfl) rfl (Rd.assign (v := .bool false) rfl) ?_
 refine LW.nil hL rfl ?_
 refine NW.then ?_
 refine CW.seq ?_
 refine CW.region fun L hL => ?_
 refine LW.rd hL rfl (Wants.free rfl) rfl (Rd.move (v := .int .i64 x1) rfl) ?_
 refine LW.rd hL rfl (Wants.free rfl) rfl (Rd.move (v := .int .i64 x1) rfl) ?_
 refine LW.rd hL rfl (Wants.free rfl) rfl (Rd.bin (v := .bool (!(x1 == x1))) rfl rfl (fun w => by kernel_rfl)) ?_
 refine LW.rd hL rfl (Wants.free rfl) rfl (Rd.assign (v := .bool (!(x1 == x1))) rfl) ?_
 refine LW.nil hL rfl ?_
 refine NW.then ?_
 refine CW.ret ?_
 exact res1 rfl rfl ⟨!(x1 == x1), rfl, h⟩
/- cmp.isNaN[int] -/
def W_cmp_isNaN_61 (x1 : Int) (w : World) (R : Bool → World → Prop) : Prop :=
 R (!(x1 == x1)) w
set_option maxRecDepth 100000 in
theorem go_cmp_isNaN_61 (x1 : Int) (w : World) (R : Bool → World → Prop) (h : W_cmp_isNaN_61 x1 w R) : Calls Tryz.prog 116 #[.int .i64 x1] w (fun e w' => ∃ (r1 : Bool), e = .returned (.bool r1) ∧ R r1 w') := by
 unfold W_cmp_isNaN_61 at h
 refine enter (N := 6) Tryz.func116 rfl rfl ?_
 refine CW.seq ?_
 refine CW.region fun L hL => ?_
 refine LW.rd hL rfl (Wants.free rfl) rfl (Rd.assign (v := .bool false) rfl) ?_
 refine LW.nil hL rfl ?_
 refine NW.then ?_
 refine CW.seq ?_
 refine CW.region fun L hL => ?_
 refine LW.rd hL rfl (Wants.free rfl) rfl (Rd.move (v := .int .i64 x1) rfl) ?_
 refine LW.rd hL rfl (Wants.free rfl) rfl (Rd.move (v := .int .i64 x1) rfl) ?_
 refine LW.rd hL rfl (Wants.free rfl) rfl (Rd.bin (v := .bool (!(x1 == x1))) rfl rfl (fun w => by kernel_rfl)) ?_
 refine LW.rd hL rfl (Wants.free rfl) rfl (Rd.assign (v := .bool (!(x1 == x1))) rfl) ?_
 refine LW.nil hL rfl ?_
 refine NW.then ?_
 refine CW.ret ?_
 exact res1 rfl rfl ⟨!(x1 == x1), rfl, h⟩
/- (*pomander/flow.Flow).All -/
def W_flow_Flow_All (f1 : Option Addr) (w : World) (R : Value → World → Prop) : Prop :=
 ∀ b1 : Nat, b1 = World.size w → ∀ w1 : World, w1 = World.alloc w (.map #[] 0) → (∀ b2 : Nat, b2 = World.size w1 → ∀ w2 : World, w2 = World.alloc w1 (.cells #[.map none] 99) → ((∃ o : Value, w2.cell? (⟨b2, 0, none⟩ : Addr) = some o) ∧ w2.frozen? (⟨b2, 0, none⟩ : Addr) = false ∧ ∀ w3 : World, w3 = World.setCell w2 (⟨b2, 0, none⟩ : Addr) (.map (some b1)) → (∃ J1 : World → Prop, (∀ (w4 : World), J1 w4 → R (.func (.func 69) #[] #[.pointer (some (⟨b2, 0, none⟩ : Addr))]) w4) ∧ (Calls Tryz.prog 43 #[.pointer f1] w3 fun e w5 => ∃ (r2 : Bool), e = .returned (.bool r2) ∧ (((!r2) = true → Calls Tryz.prog 55 #[.pointer f1] w5 fun e w6 => ∃ (r3 : Option Nat), e = .returned (.map r3) ∧ ((∃ o : Value, w6.cell? (⟨b2, 0, none⟩ : Addr) = some o) ∧ w6.frozen? (⟨b2, 0, none⟩ : Addr) = false ∧ ∀ w7 : World, w7 = World.setCell w6 (⟨b2, 0, none⟩ : Addr) (.map r3) → (J1 w7))) ∧ ((!r2) = false → J1 w5))))))
set_option maxRecDepth 100000 in
theorem go_flow_Flow_All (f1 : Option Addr) (w : World) (R : Value → World → Prop) (h : W_flow_Flow_All f1 w R) : Calls Tryz.prog 34 #[.pointer f1] w (fun e w' => ∃ (r1 : Value), e = .returned (r1) ∧ R r1 w') := by
 unfold W_flow_Flow_All at h
 refine enter (N := 11) Tryz.func34 rfl rfl ?_
 refine CW.seq ?_
 refine CW.region fun L hL => ?_
 refine LW.rd hL rfl (Wants.free rfl) rfl (Rd.assign (v := .nilFunc) rfl) ?_
 refine LW.nil hL rfl ?_
 refine NW.then ?_
 refine CW.seq ?_
 refine CW.region fun L hL => ?_
 obtain ⟨b1, hb_b1⟩ : ∃ b1, b1 = World.size w := ⟨_, rfl⟩
 obtain ⟨w1, hw_w1⟩ : ∃ w1, w1 = World.alloc w (.map #[] 0) := ⟨_, rfl⟩
 replace h := h b1 hb_b1 w1 hw_w1
 refine LW.val hL rfl (Wants.free rfl) rfl (mapE hb_b1 hw_w1 Vl.makeMap) ?_
 obtain ⟨b2, hb_b2⟩ : ∃ b2, b2 = World.size w1 := ⟨_, rfl⟩
 obtain ⟨w2, hw_w2⟩ : ∃ w2, w2 = World.alloc w1 (.cells #[.map none] 99) := ⟨_, rfl⟩
 replace h := h b2 hb_b2 w2 hw_w2
 refine LW.val hL rfl (Wants.free rfl) rfl (boxE hb_b2 hw_w2 (Vl.alloc (z := .map none) (by kernel_rfl))) ?_
 obtain ⟨⟨o_w3, ho1⟩, hf1, h⟩ := h
 obtain ⟨w3, hw_w3⟩ : ∃ w3, w3 = World.setCell w2 (⟨b2, 0, none⟩ : Addr) (.map (some b1)) := ⟨_, rfl⟩
 replace h := h w3 hw_w3
 refine LW.eff hL rfl (Wants.free rfl) rfl (stE hw_w3 (Ef.st rfl rfl rfl (by kernel_rfl) ho1 hf1)) ?_
 refine LW.nil hL rfl ?_
 refine NW.then ?_
 obtain ⟨J1, hJ1, h⟩ := h
 refine CW.cut (S := Unit) (fun s1 => [(2, .nilFunc), (3, .pointer (some (⟨b2, 0, none⟩ : Addr)))]) (fun s1 w4 => J1 w4) (fun s1 w4 h_ => ?_) ?_
 ·replace h := hJ1 w4 h_; clear h_
  refine CW.seq ?_
  refine CW.region fun L hL => ?_
  refine LW.rd hL rfl (Wants.free rfl) rfl (Rd.makeFunc rfl) ?_
  refine LW.rd hL rfl (Wants.free rfl) rfl (Rd.assign (v := .func (.func 69) #[] #[.pointer (some (⟨b2, 0, none⟩ : Addr))]) rfl) ?_
  refine LW.nil hL rfl ?_
  refine NW.then ?_
  refine CW.ret ?_
  exact res1 rfl rfl ⟨.func (.func 69) #[] #[.pointer (some (⟨b2, 0, none⟩ : Addr))], rfl, h⟩
 ·skip
  refine CW.seq ?_
  refine CW.region fun L hL => ?_
  refine LW.rd hL rfl (Wants.free rfl) rfl (Rd.move (v := .pointer f1) rfl) ?_
  refine LW.call hL rfl (Wants.free rfl) rfl (Cl.fn (f := 43) rfl Tryz.func43 (by kernel_rfl) rfl) h (fun e w5 h_ => ?_)
  clear h
  obtain ⟨r2, rfl, h⟩ := h_
  refine ⟨_, rfl, ?_⟩
  refine LW.rd hL rfl (Wants.free rfl) rfl (Rd.un (v := .bool (!r2)) rfl (fun _ => by kernel_rfl)) ?_
  refine LW.nil hL rfl ?_
  refine NW.then ?_
  refine CW.cond rfl (fun hb1 => ?_) (fun hb1 => ?_)
  ·replace h := h.1 hb1
   refine CW.region fun L hL => ?_
   refine LW.rd hL rfl (Wants.free rfl) rfl (Rd.move (v := .pointer f1) rfl) ?_
   refine LW.call hL rfl (Wants.free rfl) rfl (Cl.fn (f := 55) rfl Tryz.func55 (by kernel_rfl) rfl) h (fun e w6 h_ => ?_)
   clear h
   obtain ⟨r3, rfl, h⟩ := h_
   refine ⟨_, rfl, ?_⟩
   obtain ⟨⟨o_w7, ho2⟩, hf2, h⟩ := h
   obtain ⟨w7, hw_w7⟩ : ∃ w7, w7 = World.setCell w6 (⟨b2, 0, none⟩ : Addr) (.map r3) := ⟨_, rfl⟩
   replace h := h w7 hw_w7
   refine LW.eff hL rfl (Wants.free rfl) rfl (stE hw_w7 (Ef.st rfl rfl rfl (by kernel_rfl) ho2 hf2)) ?_
   refine LW.nil hL rfl ?_
   exact NW.cut (S := Unit) (Ek := fun s1 => [(2, .nilFunc), (3, .pointer (some (⟨b2, 0, none⟩ : Addr)))]) () (by exact ⟨rfl, rfl, trivial⟩) h
  ·replace h := h.2 hb1
   refine CW.skip ?_
   exact NW.cut (S := Unit) (Ek := fun s1 => [(2, .nilFunc), (3, .pointer (some (⟨b2, 0, none⟩ : Addr)))]) () (by exact ⟨rfl, rfl, trivial⟩) h
end Go.Proofs.YtfcfkhbkkfpehaaGreat
end
section
/- flow.order: which place is ahead; as slices.SortFunc asks it. -/
namespace Go.Proofs.YtfcfkhbkkfpehaaGreat
open Go Go.RowKit Go.X Go.Shelf Go.Sort
def cmpI (x y : Int) : Int := if x < y then -1 else if y < x then 1 else 0
def cmpP (x y : Int × Int) : Int := if cmpI x.1 y.1 = 0 then cmpI x.2 y.2 else cmpI x.1 y.1
theorem isNaN139 (w : World) (x : Int) : Calls Tryz.prog 115 #[.int .i64 x] w fun e w' => ∃ r : Bool, e = .returned (.bool r) ∧ (r = false ∧ w' = w) := by
 refine go_cmp_isNaN_942 _ _ _ ?_
 unfold W_cmp_isNaN_942
 exact ⟨by simp, rfl⟩
theorem isNaN140 (w : World) (x : Int) : Calls Tryz.prog 116 #[.int .i64 x] w fun e w' => ∃ r : Bool, e = .returned (.bool r) ∧ (r = false ∧ w' = w) := by
 refine go_cmp_isNaN_61 _ _ _ ?_
 unfold W_cmp_isNaN_61
 exact ⟨by simp, rfl⟩
theorem cmp122 (w : World) (x y : Int) : Calls Tryz.prog 95 #[.int .i64 x, .int .i64 y] w fun e w' => ∃ r : Int, e = .returned (.int .i64 r) ∧ (r = cmpI x y ∧ w' = w) := by
 refine go_cmp_Compare_942 _ _ _ _ ?_
 unfold W_cmp_Compare_942
 refine (isNaN139 w x).mono ?_
 rintro _ w1 ⟨_, rfl, rfl, hw⟩
 subst w1
 refine ⟨_, rfl, ?_⟩
 refine (isNaN139 w y).mono ?_
 rintro _ w1 ⟨_, rfl, rfl, hw⟩
 subst w1
 refine ⟨_, rfl, fun h => by simp at h, fun _ => ⟨fun h => by simp at h, fun _ => ⟨fun h => ?_, fun h => ⟨fun h' => ?_, fun h' => ?_⟩⟩⟩⟩
 ·have := of_decide_eq_true h
  exact ⟨by unfold cmpI; rw [if_pos this], rfl⟩
 ·have h1 := of_decide_eq_false h
  have h2 := of_decide_eq_true h'
  exact ⟨by unfold cmpI; rw [if_neg h1, if_pos h2], rfl⟩
 ·have h1 := of_decide_eq_false h
  have h2 := of_decide_eq_false h'
  exact ⟨by unfold cmpI; rw [if_neg h1, if_neg h2], rfl⟩
theorem cmp123 (w : World) (x y : Int) : Calls Tryz.prog 96 #[.int .i64 x, .int .i64 y] w fun e w' => ∃ r : Int, e = .returned (.int .i64 r) ∧ (r = cmpI x y ∧ w' = w) := by
 refine go_cmp_Compare_61 _ _ _ _ ?_
 unfold W_cmp_Compare_61
 refine (isNaN140 w x).mono ?_
 rintro _ w1 ⟨_, rfl, rfl, hw⟩
 subst w1
 refine ⟨_, rfl, ?_⟩
 refine (isNaN140 w y).mono ?_
 rintro _ w1 ⟨_, rfl, rfl, hw⟩
 subst w1
 refine ⟨_, rfl, fun h => by simp at h, fun _ => ⟨fun h => by simp at h, fun _ => ⟨fun h => ?_, fun h => ⟨fun h' => ?_, fun h' => ?_⟩⟩⟩⟩
 ·have := of_decide_eq_true h
  exact ⟨by unfold cmpI; rw [if_pos this], rfl⟩
 ·have h1 := of_decide_eq_false h
  have h2 := of_decide_eq_true h'
  exact ⟨by unfold cmpI; rw [if_neg h1, if_pos h2], rfl⟩
 ·have h1 := of_decide_eq_false h
  have h2 := of_decide_eq_false h'
  exact ⟨by unfold cmpI; rw [if_neg h1, if_neg h2], rfl⟩
set_option maxHeartbeats 1000000 in
theorem order103 (x y : Int × Int) (W : World) : Calls Tryz.prog 72 #[.agg #[.int .i64 x.1, .int .i64 x.2], .agg #[.int .i64 y.1, .int .i64 y.2]] W fun e w' => e = .returned (.int .i64 (cmpP x y)) ∧ ∃ q os', w' = grow (W.drewN q) os' := by
 have h1 := fun W' => cmp122 W' x.1 y.1
 have h2 := fun W' => cmp123 W' x.2 y.2
 unfold cmpP
 generalize cmpI x.1 y.1 = r1 at h1 ⊢
 generalize cmpI x.2 y.2 = r2 at h2 ⊢
 go_enter Tryz.func72, Tryz.ntmps72
 go_wp2_with (first
  | (go_at_call 95; refine (h1 _).mono ?_; rintro e w' ⟨_, rfl, rfl, rfl⟩)
  | (go_at_call 96; refine (h2 _).mono ?_; rintro e w' ⟨_, rfl, rfl, rfl⟩))
 all_goals first
  | (exfalso; simp_all; done)
  | (go_ret; exact ⟨by simp_all, 0, _, by rw [alloc_eq_grow, alloc_eq_grow, grow_grow]; rfl⟩)
end Go.Proofs.YtfcfkhbkkfpehaaGreat
end
section
/- slices.SortFunc over places (by the shelf's contract). -/
namespace Go.Proofs.YtfcfkhbkkfpehaaGreat
open Go Go.RowKit Go.X Go.Shelf Go.Sort
/-! The shelf's laying of slices.SortFunc (written by the kit's lay-plain) -/
def sortP_ren : Go.Shelf.Ren := ⟨fun | 6 => 93 | 15 => 114 | 14 => 113 | 28 => 132 | 29 => 133 | 20 => 124 | 21 => 125 | 22 => 126 | 23 => 127 | 24 => 128 | 25 => 129 | 26 => 130 | 27 => 131 | 46 => 139 | 47 => 140 | 48 => 141 | 49 => 142 | 50 => 143 | 57 => 153 | n => n, fun | 22 => 63 | 24 => 62 | 25 => 141 | 3 => 3 | 39 => 198 | 0 => 0 | 53 => 22 | 55 => 214 | 4 => 4 | 46 => 208 | 45 => 207 | 50 => 193 | 5 => 5 | 9 => 9 | 66 => 219 | 70 => 223 | 76 => 231 | 77 => 92 | n => n, fun | n => n⟩
theorem sortP : Go.Proofs.SlLaysF0.n6 Tryz.prog sortP_ren := {
 mixed := by kernel_rfl
 f6 := ⟨Tryz.f93.name, by decide, Tryz.func93.trans (congrArg some (by kernel_rfl))⟩
 f14 := ⟨Tryz.f113.name, by decide, Tryz.func113.trans (congrArg some (by kernel_rfl))⟩
 f15 := Tryz.func114.trans (congrArg some (by kernel_rfl))
 f20 := ⟨Tryz.f124.name, by decide, Tryz.func124.trans (congrArg some (by kernel_rfl))⟩
 f21 := ⟨Tryz.f125.name, by decide, Tryz.func125.trans (congrArg some (by kernel_rfl))⟩
 f22 := ⟨Tryz.f126.name, by decide, Tryz.func126.trans (congrArg some (by kernel_rfl))⟩
 f23 := ⟨Tryz.f127.name, by decide, Tryz.func127.trans (congrArg some (by kernel_rfl))⟩
 f24 := ⟨Tryz.f128.name, by decide, Tryz.func128.trans (congrArg some (by kernel_rfl))⟩
 f25 := ⟨Tryz.f129.name, by decide, Tryz.func129.trans (congrArg some (by kernel_rfl))⟩
 f26 := ⟨Tryz.f130.name, by decide, Tryz.func130.trans (congrArg some (by kernel_rfl))⟩
 f27 := ⟨Tryz.f131.name, by decide, Tryz.func131.trans (congrArg some (by kernel_rfl))⟩
 f28 := Tryz.func132.trans (congrArg some (by kernel_rfl))
 f29 := Tryz.func133.trans (congrArg some (by kernel_rfl))
 f46 := ⟨Tryz.f139.name, by decide, Tryz.func139.trans (congrArg some (by kernel_rfl))⟩
 f47 := Tryz.func140.trans (congrArg some (by kernel_rfl))
 f48 := Tryz.func141.trans (congrArg some (by kernel_rfl))
 f49 := ⟨Tryz.f142.name, by decide, Tryz.func142.trans (congrArg some (by kernel_rfl))⟩
 f50 := ⟨Tryz.f143.name, by decide, Tryz.func143.trans (congrArg some (by kernel_rfl))⟩
 f57 := ⟨Tryz.f153.name, by decide, Tryz.func153.trans (congrArg some (by kernel_rfl))⟩
 t0 := Tryz.underlying0
 a0 := Tryz.isAgg0
 z0 := Tryz.sizeOf0
 v0 := Tryz.zeroValue0
 t3 := Tryz.underlying3
 a3 := Tryz.isAgg3
 z3 := Tryz.sizeOf3
 v3 := Tryz.zeroValue3
 t4 := Tryz.underlying4
 a4 := Tryz.isAgg4
 z4 := Tryz.sizeOf4
 v4 := Tryz.zeroValue4
 t5 := Tryz.underlying5
 a5 := Tryz.isAgg5
 z5 := Tryz.sizeOf5
 v5 := Tryz.zeroValue5
 t9 := Tryz.underlying9
 a9 := Tryz.isAgg9
 z9 := Tryz.sizeOf9
 v9 := Tryz.zeroValue9
 t22 := Tryz.underlying63
 a22 := Tryz.isAgg63
 z22 := Tryz.sizeOf63
 v22 := Tryz.zeroValue63
 t25 := Tryz.underlying141
 a25 := Tryz.isAgg141
 z25 := Tryz.sizeOf141
 v25 := Tryz.zeroValue141
 t39 := Tryz.underlying198
 a39 := Tryz.isAgg198
 z39 := Tryz.sizeOf198
 v39 := Tryz.zeroValue198
 t45 := Tryz.underlying207
 a45 := Tryz.isAgg207
 z45 := Tryz.sizeOf207
 v45 := Tryz.zeroValue207
 t46 := Tryz.underlying208
 a46 := Tryz.isAgg208
 z46 := Tryz.sizeOf208
 v46 := Tryz.zeroValue208
 t50 := Tryz.underlying193
 a50 := Tryz.isAgg193
 z50 := Tryz.sizeOf193
 v50 := Tryz.zeroValue193
 t53 := Tryz.underlying22
 a53 := Tryz.isAgg22
 z53 := Tryz.sizeOf22
 v53 := Tryz.zeroValue22
 t55 := Tryz.underlying214
 a55 := Tryz.isAgg214
 z55 := Tryz.sizeOf214
 v55 := Tryz.zeroValue214
 t66 := Tryz.underlying219
 a66 := Tryz.isAgg219
 z66 := Tryz.sizeOf219
 v66 := Tryz.zeroValue219
 t70 := Tryz.underlying223
 a70 := Tryz.isAgg223
 z70 := Tryz.sizeOf223
 v70 := Tryz.zeroValue223
 t76 := Tryz.underlying231
 a76 := Tryz.isAgg231
 z76 := Tryz.sizeOf231
 v76 := Tryz.zeroValue231
 t77 := Tryz.underlying92
 a77 := Tryz.isAgg92
 z77 := Tryz.sizeOf92
 v77 := Tryz.zeroValue92 }
def encPl (x : Int × Int) : List Value := [.int .i64 x.1, .int .i64 x.2]
def ltPl (x y : Int × Int) : Prop := x.1 < y.1 ∨ (x.1 = y.1 ∧ x.2 < y.2)
instance (x y : Int × Int) : Decidable (ltPl x y) := by unfold ltPl; exact inferInstance
theorem lt_cmpP (x y : Int × Int) : ltOf cmpP x y = decide (ltPl x y) := by
 unfold ltOf cmpP cmpI ltPl
 refine decide_eq_decide.2 ?_
 by_cases h1 : x.1 < y.1
 ·simp [h1]
 ·by_cases h2 : y.1 < x.1
  ·simp [h1, h2]; omega
  ·by_cases h3 : x.2 < y.2
   ·simp [h1, h2, h3]; omega
   ·by_cases h4 : y.2 < x.2
    ·simp [h1, h2, h3, h4]
    ·simp [h1, h2, h3, h4]
theorem swoP : SWO (ltOf cmpP) where
 irrefl x := by rw [lt_cmpP]; exact decide_eq_false (by unfold ltPl; omega)
 trans x y z h1 h2 := by rw [lt_cmpP] at *; have a := of_decide_eq_true h1; have b := of_decide_eq_true h2; exact decide_eq_true (by unfold ltPl at *; omega)
 ntrans x y z h1 h2 := by rw [lt_cmpP] at *; have a := of_decide_eq_false h1; have b := of_decide_eq_false h2; exact decide_eq_false (by unfold ltPl at *; omega)
theorem cmpLays103 (blk off size : Nat) (w : World) : CmpLays Tryz.prog 72 #[] encPl 2 cmpP blk off size w :=
 fun _ _ _ _ x y => order103 x y _
theorem flat_length2 (xs : List (Int × Int)) : (xs.flatMap encPl).length = xs.length * 2 := by
 induction xs with
 | nil => rfl
 | cons a l ih => rw [List.flatMap_cons, List.length_append, ih]; simp [encPl]; omega
theorem flat_get2 : ∀ (xs : List (Int × Int)) (j : Nat) (x : Int × Int), xs[j]? = some x → (xs.flatMap encPl)[j * 2]? = some (.int .i64 x.1) ∧ (xs.flatMap encPl)[j * 2 + 1]? = some (.int .i64 x.2)
 | [], j, x, h => by simp at h
 | a :: l, 0, x, h => by simp at h; subst h; simp [encPl]
 | a :: l, j + 1, x, h => by
  have := flat_get2 l j x (by simpa using h)
  simp only [List.flatMap_cons, encPl, List.cons_append, List.nil_append]
  rw [show (j + 1) * 2 = j * 2 + 1 + 1 by omega]
  simpa using this
theorem flatK_eq (xs : List (Int × Int)) : flatK encPl 2 xs.toArray = (xs.flatMap encPl).toArray := by
 refine ext_get! (by rw [size_flatK, List.size_toArray, List.size_toArray, flat_length2]) fun t ht => ?_
 have ht' : t < xs.length * 2 := by simpa using ht
 rw [get_flatK _ _ _ t (by simpa using ht')]
 have hj : t / 2 < xs.length := by omega
 have hx : xs[t / 2]? = some xs[t / 2] := List.getElem?_eq_getElem hj
 obtain ⟨g0, g1⟩ := flat_get2 xs (t / 2) _ hx
 have e1 : (xs.toArray[t / 2]!) = xs[t / 2] := by simp [hj]
 rw [e1]
 have hl : t < (xs.flatMap encPl).length := by rw [flat_length2]; exact ht'
 have e2 : (xs.flatMap encPl).toArray[t]! = (xs.flatMap encPl)[t] := by rw [getElem!_pos _ t (by simpa using hl)]; simp
 rw [e2]
 rcases Nat.mod_two_eq_zero_or_one t with h | h
 ·rw [h]
  have : t / 2 * 2 = t := by omega
  rw [this, List.getElem?_eq_getElem hl] at g0
  rw [Option.some.inj g0]; rfl
 ·rw [h]
  have : t / 2 * 2 + 1 = t := by omega
  rw [this, List.getElem?_eq_getElem hl] at g1
  rw [Option.some.inj g1]; rfl
theorem heap_sortedV {w : World} {g n : Nat} {os : Array Obj} {cur : Array Value} {e : TypeId} {fr : Nat × Nat} (F : Array Value) (hb : w.heap[g]? = some (.cells cur e fr)) :
  (grow (putRow id (Sort.ahead w n) g 0 F) os).heap[g]? = some (.cells (putCells id 0 F cur) e fr) := by
 have hg : g < w.heap.size := (Array.getElem?_eq_some_iff.1 hb).1
 rw [heap_grow_old _ _ (by simpa using hg)]
 simp [putRow, mapBlock, Sort.ahead, Array.getElem?_modify, hb, onCells]
theorem chg_sortedV {w : World} {g n : Nat} {os : Array Obj} (F : Array Value) : Chg [g] w (grow (putRow id (Sort.ahead w n) g 0 F) os) := by
 refine ⟨rfl, rfl, rfl, by simp, fun k hk hne => ?_⟩
 rw [heap_grow_old _ _ (by simpa using hk)]
 have : g ≠ k := fun e => hne (by simp [e])
 simp [putRow, mapBlock, Sort.ahead, Array.getElem?_modify, this]
theorem take_putCellsV (cur F : Array Value) (h : F.size ≤ cur.size) : (putCells id 0 F cur).toList.take F.size = F.toList := by
 apply List.ext_getElem?
 intro j
 by_cases hj : j < F.size
 ·rw [List.getElem?_take_of_lt hj, Array.getElem?_toList]
  simp [putCells, hj, show j < cur.size by omega]
 ·rw [List.getElem?_take_eq_none (by omega), List.getElem?_eq_none (by simp; omega)]
theorem sort_places {w : World} {p : Option Addr} {n c : Nat} {xs : List (Int × Int)} (h : RowAt w 62 2 p n c (xs.flatMap encPl)) (hn : n = xs.length) (hle : n ≤ 1000000000000) :
  Calls Tryz.prog 93 #[.slice p n c, .func (.func 72) #[] #[]] w fun e w' => e = .returned (.tuple #[]) ∧ ∃ ys : List (Int × Int), ys.Perm xs ∧ ys.Pairwise (fun a b => ¬ ltPl b a) ∧ RowAt w' 62 2 p n c (ys.flatMap encPl) ∧ Chg (rowB p) w w' := by
 subst hn
 rcases h.2 with ⟨hv, hz⟩ | ⟨g, cap, cur, hv, hb, hg, h1, h2, h3, h4⟩
 ·obtain rfl : xs = [] := List.eq_nil_of_length_eq_zero hz
  cases hv
  refine (AnyF.slices_SortFunc_none sortP none 0 _ w).mono ?_
  rintro e w' ⟨rfl, rfl⟩
  exact ⟨rfl, [], List.Perm.refl _, List.Pairwise.nil, h, Chg.refl _ _⟩
 ·cases hv
  have eg : ∀ args w, (callFunc 72 args).run Tryz.prog w = .ok (.enter 72 args) w := enters_of Tryz.func72 (by kernel_rfl) rfl
  have hH : HoldsK encPl 2 w g 0 xs.toArray := by
   unfold HoldsK
   rw [flatK_eq]
   intro j hj
   have hj' : j < (xs.flatMap encPl).length := by simpa using hj
   refine ⟨?_, by simp [World.frozen?, hg]⟩
   have e1 : cur.toList[j]? = (xs.flatMap encPl)[j]? := by
    rw [← h4, List.getElem?_take_of_lt (by rw [flat_length2] at hj'; omega)]
   simp only [World.cell?, hg, Nat.zero_add, Option.isSome_none, Bool.false_eq_true, if_false]
   rw [← Array.getElem?_toList, e1, List.getElem?_eq_getElem hj', getElem!_pos _ j (by simpa using hj')]
   simp
  have hcon := AnyQ.slices_SortFunc sortP 2 Tryz.isAgg62 Tryz.sizeOf62 encPl (fun _ => rfl) (fun x v hv => by simp [encPl] at hv; rcases hv with rfl | rfl <;> rfl) cmpP swoP 72 #[] g 0 c xs.toArray w eg (cmpLays103 g 0 _ w) hH (lt_of_heap hg) (by simp; omega)
  rw [List.size_toArray] at hcon
  refine Calls.mono hcon ?_
  rintro e w' ⟨rfl, d', nn, os, ⟨hs, _, hperm⟩, hsort, rfl⟩
  have hd : d'.toList.Perm xs := by
   have hs' : d'.size = xs.length := by simpa using hs
   have e1 : d'.extract 0 xs.length = d' := by rw [← hs']; simp
   have e2 : xs.toArray.extract 0 xs.length = xs.toArray := by simp
   rw [e1, e2] at hperm
   simpa using hperm
  have hlen : d'.toList.length = xs.length := hd.length_eq
  have hds : d' = d'.toList.toArray := by simp
  refine ⟨rfl, d'.toList, hd, ?_, ?_, ?_⟩
  ·rw [List.pairwise_iff_getElem]
   intro i j hi hj hij
   have := hsort i j (Nat.zero_le _) hij (by omega)
   rw [lt_cmpP] at this
   have := of_decide_eq_false this
   rw [getElem!_pos d' j (by simpa using hj), getElem!_pos d' i (by simpa using hi)] at this
   simpa using this
  ·unfold sortWorldK putRowK
   rw [hds, flatK_eq]
   have hF : ((d'.toList.flatMap encPl).toArray).size = xs.length * 2 := by rw [List.size_toArray, flat_length2, hlen]
   refine ⟨by rw [List.toList_toArray, flat_length2, hlen], .inr ⟨g, c, _, rfl, Nat.zero_le _, heap_sortedV _ hg, h1, h2, by simp [putCells, h3], ?_⟩⟩
   have := take_putCellsV cur (d'.toList.flatMap encPl).toArray (by rw [hF, h3]; exact Nat.mul_le_mul_right 2 h1)
   rw [hF] at this
   simpa using this
  ·unfold sortWorldK putRowK
   simpa [rowB] using chg_sortedV (w := w) (g := g) (n := nn) (os := os) (flatK encPl 2 d')
end Go.Proofs.YtfcfkhbkkfpehaaGreat
end
section
/- maps.Keys over places; slices.Collect, slices.SortedFunc over them. -/
namespace Go.Proofs.YtfcfkhbkkfpehaaGreat
open Go Go.RowKit Go.X Go.XR
theorem encP_inj : ∀ a b : Int × Int, encP a = encP b → a = b := fun a b h => by
 simp [encP] at h
 exact Prod.ext h.1 h.2
theorem maps_pkeys (w : World) (m : Option Nat) : Calls Tryz.prog 71 #[.map m] w fun e w' => ∃ r : Value, e = .returned r ∧ ∃ cb, r = .func (.func 94) #[] #[.pointer (some ⟨cb, 0, none⟩)] ∧ cb = w.heap.size ∧ w'.heap[cb]? = some (.cells #[.map m] 99 (0, 0)) ∧ Chg [] w w' := by
 refine go_maps_Keys_134 _ _ _ ?_
 unfold W_maps_Keys_134
 exact v_alloc fun b w1 e h c => ⟨b, rfl, e, h, c⟩
theorem isFn121 (cb : Nat) : IsFn Tryz.prog (.func (.func 94) #[] #[.pointer (some ⟨cb, 0, none⟩)]) := ⟨94, Tryz.f94, _, rfl, Tryz.func94, by kernel_rfl, by kernel_rfl⟩
theorem iterates_pkeys {w : World} {cb m : Nat} {l : List ((Int × Int) × Int)} (hcb : w.heap[cb]? = some (.cells #[.map (some m)] 99 (0, 0))) (hm : MapIs w m encP (fun n : Int => .int .u32 n) l) :
  Iterates Tryz.prog (.func (.func 94) #[] #[.pointer (some ⟨cb, 0, none⟩)]) (fun x : Int × Int => #[.agg #[.int .i64 x.1, .int .i64 x.2]]) (allS Prod.fst l) (allSp Prod.fst l) [cb, m] w := by
 intro W yv I Ix hW hI hIx h0 hround
 refine ⟨94, #[.pointer (some ⟨cb, 0, none⟩)], Tryz.f94, rfl, Tryz.func94, by kernel_rfl, by kernel_rfl, ?_⟩
 have hcW := hW.obj (by simp) hcb
 have hmW := hm.chg hW (by simp)
 have hlm := hmW.lt
 refine (go_maps_Keys_134_1 yv ⟨cb, 0, none⟩ W (fun w' => ∃ Own, InO W Own w' ∧ ((∃ xs, allS Prod.fst l xs ∧ I Own xs w') ∨ ∃ pre, allSp Prod.fst l pre ∧ Ix Own pre w')) ?_).mono (fun e w' h => ⟨⟨_, h.1⟩, h.2⟩)
 unfold W_maps_Keys_134_1
 obtain ⟨it, w1, hrg, c1, hit, hI1⟩ := iter_range (P := Tryz.prog) (T := 99) hmW u143
 refine ⟨_, by rw [cell_of hcW]; rfl, _, w1, hrg, ?_⟩
 have hne : it ≠ m := by omega
 have s1 := c1.size
 have hitlt := hI1.lt
 refine ⟨fun w2 => ∃ done, I [it] (done.map Prod.fst) w2 ∧ IterAt w2 it m encP (fun n : Int => .int .u32 n) l done ∧ w1.heap.size ≤ w2.heap.size, fun w2 => l.length - seenN w2 it, ⟨[], ?_, hI1, Nat.le_refl _⟩, ?_⟩
 ·exact hI [] [] [it] W w1 h0 (by intro i hi; cases hi) c1 (by intro i hi; simp at hi; omega) (by intro i hi; simp at hi; omega)
 rintro w2 ⟨done, hi, hIt, s2⟩
 have hin : ∀ {A : World}, w1.heap.size ≤ A.heap.size → InO W [it] A := fun hA i hi => by simp at hi; omega
 rcases iter_next (P := Tryz.prog) hIt hne encP_inj 0 with ⟨hnx, hall⟩ | ⟨k, v, w3, hkl, hnew, hrun, c3, hI3, hent⟩
 ·exact ⟨_, false, w2, hnx, rfl, fun h => by simp at h, fun _ => ⟨[it], hin s2, .inl ⟨_, ⟨done, rfl, hIt.sub.2.1, hIt.sub.1, hall⟩, hi⟩⟩⟩
 ·have s3 := c3.size
  refine ⟨_, true, w3, hrun, rfl, fun _ => ⟨k.1, k.2, v, hent, ?_⟩, fun h => by simp at h⟩
  rintro b1 w5 ⟨q1, q2⟩ c5
  have s5 := c5.size
  have hI5 := hI3.chg c5 (by simp) (by simp)
  have hi3 := hI (done.map Prod.fst) [it] [it] w2 w3 hi (hin s2) c3 (hin (by omega)) (fun i h => .inl h)
  have hi5 := hI (done.map Prod.fst) [it] [it] w3 w5 hi3 (hin (by omega)) c5.nil (hin (by omega)) (fun i h => .inl h)
  have e1 : done.map Prod.fst ++ [k] = (done ++ [(k, v)]).map Prod.fst := by simp
  refine (hround [it] (done.map Prod.fst) k w5 (hin (by omega)) ⟨done ++ [(k, v)], e1, hI3.sub.2.1, hI3.sub.1⟩ hi5).mono ?_
  rintro e w4 ⟨s4, ⟨rfl, hi4, hs4⟩ | ⟨rfl, hx4⟩⟩
  ·refine ⟨true, rfl, fun h => by simp at h, fun _ => ⟨⟨done ++ [(k, v)], by rw [← e1]; exact hi4, hI5.eq (hs4 it (by simp)) (hs4 m (by simp)), by omega⟩, ?_⟩⟩
   have a1 := hIt.count
   have a2 := hI5.count
   have a3 := hIt.more hkl hnew
   have a4 : seenN w4 it = seenN w5 it := by unfold seenN; rw [hs4 it (by simp)]
   simp at a2
   simp only []
   omega
  ·exact ⟨false, rfl, fun _ => ⟨[it], hin (by omega), .inr ⟨_, ⟨done ++ [(k, v)], e1, hI3.sub.2.1, hI3.sub.1⟩, hx4⟩⟩, fun h => by simp at h⟩
theorem Iterates_later {α : Type} {P : Program} {fv : Value} {enc : α → Array Value} {S Sp : List α → Prop} {keep : List Nat} {w w1 : World} (h : Iterates P fv enc S Sp keep w) (hc : Chg [] w w1) : Iterates P fv enc S Sp keep w1 :=
 fun W yv I Ix hW => h W yv I Ix (hc.trans0 hW)
theorem append_pseq {w : World} {fv : Value} {S Sp : List (Int × Int) → Prop} {keep : List Nat} (hf : IsFn Tryz.prog fv) (hi : Iterates Tryz.prog fv (fun x : Int × Int => #[.agg #[.int .i64 x.1, .int .i64 x.2]]) S Sp keep w) (hk : ∀ i ∈ keep, i < w.heap.size)
  (hle : ∀ pre, Sp pre → pre.length ≤ 1000000000000) :
  Calls Tryz.prog 112 #[.slice none 0 0, fv] w fun e w' => ∃ (p : Option Addr) (n c : Nat), e = .returned (.slice p n c) ∧ ∃ xs, S xs ∧ n = xs.length ∧ RowAt w' 62 2 p n c (xs.flatMap encPl) ∧ Chg [] w w' ∧ ∀ b ∈ rowB p, w.heap.size ≤ b := by
 refine go_slices_AppendSeq_194 _ _ _ _ _ _ ?_
 unfold W_slices_AppendSeq_194
 rintro b1 w1 ⟨hb1, hb2⟩ c1
 have s1 := c1.size
 refine ⟨S, Sp, keep, hf, Iterates_later hi c1, fun i h => Nat.lt_of_lt_of_le (hk i h) s1,
  fun p n c O pre w' => n = pre.length ∧ RowAt w' 62 2 p n c (pre.flatMap encPl) ∧ (∀ b ∈ rowB p, b ∉ O ∧ w1.heap.size ≤ b) ∧ Chg [] w w' ∧ w1.heap.size ≤ w'.heap.size, ?_, ?_, ?_, ?_⟩
 ·rintro p n c pre O O' A B ⟨k1, k2, k3, k4, k5⟩ hO hc hO' hg
  have hsz := hc.size
  refine ⟨k1, k2.chg hc (fun b hb => (k3 b hb).1), fun b hb => ⟨fun hm => ?_, (k3 b hb).2⟩, k4.trans hc (fun i hi hlt => by have := (hO i hi).1; omega), by omega⟩
  rcases hg _ hm with h | h
  ·exact (k3 b hb).1 h
  ·have := k2.lt b hb; omega
 ·intro O w2 c2 hO
  exact ⟨rfl, RowAt.nil, by simp [rowB], c1.trans0 c2, c2.size⟩
 ·rintro l1 O pre x1 x2 p n c w2 hO hl1 hsp ⟨k1, k2, k3, k4, k5⟩ b2 w3 ⟨q1, q2⟩ c3
  have s3 := c3.size
  have hl := hO l1 hl1
  have hlp : ∀ b ∈ rowB p, b ∉ [l1] := fun b hb hm => by simp at hm; subst hm; exact (k3 _ hb).1 hl1
  refine v_alloc fun b3 w4 e2 hb2' c4 => ?_
  have s4 := c4.size
  have hlen := hle _ hsp
  simp at hlen
  have hr4 : RowAt w4 62 2 p n c (pre.flatMap encPl) := (k2.chg c3 hlp).chg c4 (by simp)
  obtain ⟨p', c', w5, hrun, hr5, c5, hnew⟩ := hr4.append (P := Tryz.prog) (t := 63) (ty := 63) (i := Tryz.t62) (z := .agg #[.int .i64 0, .int .i64 0]) (bytes := 16) (by kernel_rfl) (by kernel_rfl) (by kernel_rfl) (by kernel_rfl) (by kernel_rfl) rfl (by omega) (a := ⟨b3, 0, none⟩) (m := 1) (mc := 1) (news := [Value.int .i64 x1, Value.int .i64 x2]) (by simp)
   (fun j u hj => by
    match j, hj with
    | 0, hj => simp at hj; subst hj; rw [add_at, cell_of hb2']; rfl
    | 1, hj => simp at hj; subst hj; rw [add_at, cell_of hb2']; rfl
    | j + 2, hj => simp at hj) (by simp; exact ⟨rfl, rfl⟩) (by subst k1; unfold maxLen; omega) (by omega)
  have s5 := c5.size
  refine ⟨p', n + 1, c', w5, hrun, Same.of c5 (fun b hb => ⟨by simp at hb; omega, fun hm => by simp at hb; have := (k3 _ hm).2; omega⟩), fun w6 c6 => ?_⟩
  have s6 := c6.size
  have hnew' : ∀ b ∈ rowB p', b ∉ O ∧ w1.heap.size ≤ b := fun b hb => by
   rcases hnew b hb with h | h
   ·exact k3 b h
   ·exact ⟨fun hm => by have := (hO _ hm).2; omega, by omega⟩
  have c46 : Chg (b1 :: rowB p) w4 w6 := (c5.mono (fun i hi _ => List.mem_cons_of_mem _ hi)).trans c6 (fun i hi _ => by simp at hi; simp [hi])
  have c36 : Chg (b1 :: rowB p) w3 w6 := (c4.nil (f := b1 :: rowB p)).trans c46 (fun i hi _ => hi)
  refine ⟨by omega, ⟨by simp [k1], ?_, hnew', ?_, by omega⟩, ?_⟩
  ·rw [List.flatMap_append]
   exact hr5.chg c6 (fun b hb hm => by simp at hm; have := (hnew' b hb).2; omega)
  ·have c03 : Chg [] w w3 := k4.trans c3 (fun i hi hlt => by simp at hi; omega)
   exact c03.trans c36 (fun i hi hlt => by
    rcases List.mem_cons.1 hi with h | h
    ·omega
    ·have := (k3 i h).2; omega)
  ·refine Same.of c36 (fun b hb => ?_)
   rcases List.mem_append.1 hb with h | h
   ·have := hk b h
    refine ⟨by omega, fun hm => ?_⟩
    rcases List.mem_cons.1 hm with h | h
    ·omega
    ·have := (k3 b h).2; omega
   ·have := hO b h
    refine ⟨by omega, fun hm => ?_⟩
    rcases List.mem_cons.1 hm with h' | h'
    ·omega
    ·exact (k3 b h').1 h
 ·rintro d O xs p n c w7 hO hd hS ⟨k1, k2, k3, k4, k5⟩ w8 c8
  exact ⟨xs, hS, k1, k2.chg c8 (fun b hb hm => by simp at hm; subst hm; exact (k3 _ hb).1 hd), k4.trans c8 (fun i hi hlt => by simp at hi; subst hi; have := (hO _ hd).1; omega), fun b hb => by have := (k3 b hb).2; omega⟩
theorem sorted_places {w : World} {fv : Value} {S Sp : List (Int × Int) → Prop} {keep : List Nat} (hf : IsFn Tryz.prog fv) (hi : Iterates Tryz.prog fv (fun x : Int × Int => #[.agg #[.int .i64 x.1, .int .i64 x.2]]) S Sp keep w) (hk : ∀ i ∈ keep, i < w.heap.size)
  (hle : ∀ pre, Sp pre → pre.length ≤ 1000000000000) (hSp : ∀ xs, S xs → Sp xs) :
  Calls Tryz.prog 70 #[fv, .func (.func 72) #[] #[]] w fun e w' => ∃ (p : Option Addr) (n c : Nat), e = .returned (.slice p n c) ∧ ∃ xs ys : List (Int × Int), S xs ∧ ys.Perm xs ∧ ys.Pairwise (fun a b => ¬ ltPl b a) ∧ n = ys.length ∧ RowAt w' 62 2 p n c (ys.flatMap encPl) ∧ Chg [] w w' ∧ ∀ b ∈ rowB p, w.heap.size ≤ b := by
 refine go_slices_SortedFunc_841 _ _ _ _ ?_
 unfold W_slices_SortedFunc_841
 refine (go_slices_Collect_841 _ _ (fun p n c w' => ∃ xs, S xs ∧ n = xs.length ∧ RowAt w' 62 2 p n c (xs.flatMap encPl) ∧ Chg [] w w' ∧ ∀ b ∈ rowB p, w.heap.size ≤ b) ?_).mono ?_
 ·unfold W_slices_Collect_841
  refine (append_pseq hf hi hk hle).mono ?_
  rintro _ w1 ⟨p, n, c, rfl, h⟩
  exact ⟨p, n, c, rfl, h⟩
 rintro _ w1 ⟨p, n, c, rfl, xs, hS, hn, hr, c1, hb⟩
 refine ⟨p, n, c, rfl, ?_⟩
 refine (sort_places hr hn (by have := hle _ (hSp _ hS); omega)).mono ?_
 rintro _ w2 ⟨rfl, ys, hp, hs, hr2, c2⟩
 exact ⟨rfl, xs, ys, hS, hp, hs, by rw [hp.length_eq]; exact hn, hr2, c1.trans c2 (fun i hi hlt => by have := hb i hi; omega), hb⟩
end Go.Proofs.YtfcfkhbkkfpehaaGreat
end
section
/- Regions that draw their order, in codes that call rounds. -/
namespace Go.XR
open Go Go.X Go.RowKit
section
variable {P : Program} {ops : Array Oper} {Q : Exit → Act → World → Prop} {S : World → Prop} {z : Nat} {ro : Option Nat}
def noDefer (ops : Array Oper) : Bool := ops.toList.all fun o => !isDefer o
theorem noDefer_at {j : Nat} {o : Oper} (h : noDefer ops = true) (hj : ops[j]? = some o) : isDefer o = false := by
 have := List.all_eq_true.1 h o (by rw [Array.getElem?_eq_some_iff] at hj; obtain ⟨hi, rfl⟩ := hj; simp)
 simpa using this
theorem YieldsIf.wpOpIn {i : Nat} {o : Oper} {v : Value} {a : Act} (hi : ops[i]? = some o) (hdf : isDefer o = false) (hy : YieldsIf P ops S o v a)
  {K : Act → World → Prop} {w : World} (hS : S w) (h : K (a.put o.dst v) w) : wpOpIn (FR ro) 0 P ops Q i K a w := by
 unfold Go.wpOpIn
 simp only [hi]
 rcases hy with ⟨hw, hv⟩ | ⟨hw, rfl⟩
 ·simp only [hw, if_true, Oper.wpIn]; rw [semAt_of hdf, hv w hS]; exact ⟨fun _ _ => trivial, h⟩
 ·simp only [hw, Bool.false_eq_true, if_false]; exact ⟨fun _ _ => trivial, h⟩
theorem wpOpIn_putIf {j : Nat} {oi oj : Oper} {v : Value} (hj : ops[j]? = some oj) (hdf : isDefer oj = false) (hap : oi.apart ops oj = true)
  (hsi : ∀ cs b, oi.op ≠ .select cs b) (hsj : ∀ cs b, oj.op ≠ .select cs b)
  (hQ : ∀ c a w, Q (.panic c) (a.put oi.dst v) w → Q (.panic c) a w) {K : Act → World → Prop} {a : Act} {w : World}
  (hy : YieldsIf P ops S oi v a) (h : wpOpIn (FR ro) 0 P ops Q j K (a.put oi.dst v) w) :
  wpOpIn (FR ro) 0 P ops Q j (fun a' w' => YieldsIf P ops S oi v a' ∧ K (a'.put oi.dst v) w') a w := by
 obtain ⟨h1, h2, h3⟩ := Oper.apart_spec hap
 have keep : ∀ (a : Act), YieldsIf P ops S oi v a → ∀ u, YieldsIf P ops S oi v (a.put oj.dst u) := fun a hy u =>
  hy.of_same (execOp_put oi hsi a oj.dst u h3) (wanted_put oi a oj.dst u h3)
 have keepD : ∀ d, YieldsIf P ops S oi v { a with defers := d :: a.defers } := fun d => hy.of_same rfl rfl
 unfold wpOpIn at *
 simp only [hj] at *
 rw [wanted_put oj a oi.dst v h1] at h
 split
 ·rename_i hw
  simp only [hw, if_true] at h
  unfold Oper.wpIn at *
  refine ⟨fun _ _ => trivial, ?_⟩
  have h := h.2
  rw [semAt_of hdf, execOp_put oj hsj a oi.dst v h1] at h
  rw [semAt_of hdf]
  generalize (execOp a.eval oj).run P w = r at *
  cases r with
  | ok x w' =>
   cases x <;> simp only [Oper.uponIn] at h ⊢
   case value u => exact ⟨keep a hy u, by rw [← Act.put_comm a v u h2]; exact h⟩
   case skip => exact ⟨keep a hy _, by rw [← Act.put_comm a v undef h2]; exact h⟩
   case defer d =>
    refine ⟨keep _ (keepD d) _, ?_⟩
    rw [← Act.put_comm _ v undef h2, ← Act.put_defers]
    exact h
   case enter f args =>
    refine ⟨h.1, CallsIn.mono h.2 fun e w'' he => ?_⟩
    cases e with
    | returned u => exact ⟨keep a hy u, by rw [← Act.put_comm a v u h2]; exact he⟩
    | panicked c => exact hQ _ _ _ he
    | outgrown => exact he
   case row row args => exact ⟨h.1, RowsIn.mono h.2 fun u w'' he => ⟨keep a hy u, by rw [← Act.put_comm a v u h2]; exact he⟩⟩
   case round l f tmps assign body =>
    refine ⟨h.1, RoundIn.mono h.2 fun e w'' he => ?_⟩
    cases e with
    | returned u => exact ⟨keep a hy u, by rw [← Act.put_comm a v u h2]; exact he⟩
    | panicked c => exact hQ _ _ _ he
    | outgrown => exact he
  | halt x w' =>
   cases x <;> simp only [Oper.uponIn] at h ⊢
   case panic u => exact hQ _ _ _ h
 ·rename_i hw
  simp only [hw] at h
  exact ⟨fun _ _ => trivial, keep a hy _, by rw [← Act.put_comm a v undef h2]; exact h.2⟩
def AH (ro : Option Nat) (P : Program) (ops : Array Oper) (Q : Exit → Act → World → Prop) (S : World → Prop) (z : Nat) : Nat → Array Bool → Act → World → Prop
 | 0, l, a, w => Region.ready .any ops l = [] ∧ Q .normal a w
 | n + 1, l, a, w => (Region.ready .any ops l = [] → Q .normal a w) ∧
  ∀ i ∈ Region.ready .any ops l, wpOpIn (FR ro) 0 P ops Q i (fun a' w' => ((l.setIfInBounds i true).getD z false = false → S w') ∧ AH ro P ops Q S z n (l.setIfInBounds i true) a' w') a w
theorem AH.any : ∀ (n : Nat) (l : Array Bool) (a : Act) (w : World), AH ro P ops Q S z n l a w → wpAnyIn (FR ro) 0 P .any ops Q n l a w
 | 0, _, _, _, h => h
 | n + 1, _, _, _, h => ⟨h.1, fun i hi => wpOpIn_mono (fun a' w' h' => AH.any n _ a' w' h'.2) (h.2 i hi)⟩
theorem AH.first {S₀ : World → Prop} {i : Nat} {oi : Oper} {v : Value} (hnd : noDefer ops = true) (hi : ops[i]? = some oi) (hsel : ∀ (j : Nat) (o : Oper) cs b, ops[j]? = some o → o.op ≠ .select cs b)
  (hQ : ∀ c a w, Q (.panic c) (a.put oi.dst v) w → Q (.panic c) a w) (hz : i ≠ z)
  (hS₀ : ∀ l w, Shut ops l → l.getD i true = false → (l.getD z false = false → S w) → S₀ w) :
  ∀ (n : Nat) (l : Array Bool) (a : Act) (w : World),
   (∀ j oj, ops[j]? = some oj → j ≠ i → l.getD j true = false → (∀ e ∈ oj.after, Region.binds .any e = true → e.on ≠ i) → oi.apart ops oj = true) →
   Shut ops l → i ∈ Region.ready .any ops l → YieldsIf P ops S₀ oi v a → (l.getD z false = false → S w) → AH ro P ops Q S z n (l.setIfInBounds i true) (a.put oi.dst v) w → AH ro P ops Q S z (n + 1) l a w := by
 intro n
 induction n with
 | zero =>
  intro l a w _ hsh hr hy hS H
  have hpend : l.getD i true = false := (mem_ready.1 hr).1
  refine ⟨fun h => (by rw [h] at hr; cases hr), fun j hj => ?_⟩
  by_cases hji : j = i
  ·subst hji; exact YieldsIf.wpOpIn hi (noDefer_at hnd hi) hy (hS₀ l w hsh hpend hS) ⟨fun h => hS (by rwa [getD_set_ne false hz] at h), H⟩
  ·have hm := ready_mono hj hji
   rw [H.1] at hm; cases hm
 | succ n ih =>
  intro l a w hfree hsh hr hy hS H
  have hpend : l.getD i true = false := (mem_ready.1 hr).1
  refine ⟨fun h => (by rw [h] at hr; cases hr), fun j hj => ?_⟩
  by_cases hji : j = i
  ·subst hji; exact YieldsIf.wpOpIn hi (noDefer_at hnd hi) hy (hS₀ l w hsh hpend hS) ⟨fun h => hS (by rwa [getD_set_ne false hz] at h), H⟩
  ·have h1 := H.2 j (ready_mono hj hji)
   obtain ⟨hjun, oj, hoj, hall⟩ := mem_ready.1 hj
   have hnot : ∀ e ∈ oj.after, Region.binds .any e = true → e.on ≠ i := fun e he hb heq => by
    have h2 := hall e he hb
    rw [heq, getD_both hpend] at h2; cases h2
   have h2 := wpOpIn_putIf hoj (noDefer_at hnd hoj) (hfree j oj hoj hji hjun hnot) (fun cs b => hsel i oi cs b hi) (fun cs b => hsel j oj cs b hoj) hQ hy h1
   refine wpOpIn_mono (fun a' w' h3 => ?_) h2
   obtain ⟨hy', hS', hA'⟩ := h3
   have hS'' : (l.setIfInBounds j true).getD z false = false → S w' := fun h => hS' (by rw [Array.setIfInBounds_comm _ _ (Ne.symm hji), getD_set_ne false hz]; exact h)
   refine ⟨hS'', ih (l.setIfInBounds j true) a' w' (fun k ok hk hki hun hno => hfree k ok hk hki ?_ hno) (hsh.set hj) (ready_mono hr (Ne.symm hji)) hy' hS'' ?_⟩
   ·by_cases hjk : j = k
    ·subst hjk; exact hjun
    ·rw [getD_set_ne true hjk] at hun; exact hun
   ·rw [Array.setIfInBounds_comm _ _ hji]; exact hA'
variable {N : Nat} {D : List Deferred} {E : Env} {w w' : World} {H : Nat → Array Bool → Env → World → Prop} {n : Nat} {l : Array Bool} {i : Nat} {o : Oper} {v : Value}
def HW (ro : Option Nat) (P : Program) (N : Nat) (D : List Deferred) (ops : Array Oper) (Q : Exit → Act → World → Prop) (S : World → Prop) (z : Nat) (n : Nat) (l : Array Bool) (E : Env) (w : World) : Prop :=
 ∀ a, Sat N D E a → Shut ops l → AH ro P ops (NP Q) S z n l a w
theorem CW.drawn {id : Nat} (S : World → Prop) (z : Nat) (hm : P.follows .mixedOrders = true) (h : ∀ H, H = HW ro P N D ops Q S z → H ops.size (Array.replicate ops.size false) E w.drew) :
  CW ro P N D (.region id ops true) Q E w := fun a ha =>
 wpIn_mono (wpIn_region_any hm (AH.any _ _ _ _ (h _ rfl a ha Shut.none))) fun e a w hq => by
  cases e with
  | normal => exact hq
  | _ => exact hq.elim
theorem HW.first {S₀ : World → Prop} (hH : H = HW ro P N D ops Q S z) (ho : ops[i]? = some o) (hc : chk ops z l i = true) (hd : okd N o.dst = true) (hS : l.getD z false = false → S w)
  (hS₀ : ∀ l w, Shut ops l → l.getD i true = false → (l.getD z false = false → S w) → S₀ w)
  (hy : ∀ a, Sat N D E a → YieldsIf P ops S₀ o v a) (k : H n (l.setIfInBounds i true) (putE o.dst v E) w) (hnd : noDefer ops = true := by kernel_rfl) : H (n + 1) l E w := by
 subst hH
 intro a ha hsh
 simp only [chk, Bool.and_eq_true] at hc
 have hr : i ∈ Region.ready .any ops l := by simpa using hc.2.2.1
 have hz : i ≠ z := fun e => by have := hc.2.2.2; subst e; simp at this
 exact AH.first hnd ho (Region.noSelect_spec hc.1) (fun _ _ _ h => h) hz hS₀ n l a w (Region.free_spec ho hc.2.1) hsh hr (hy a ha) hS (k _ (ha.put hd) (hsh.set hr))
theorem HW.take (hH : H = HW ro P N D ops Q S z) (ho : ops[i]? = some o) (hc : chk ops z l i = true) (hcr : chkR ops z i = true) (hw : Wants N ops E o) (hd : okd N o.dst = true) (hS : l.getD z false = false → S w)
  (hv : ∀ a, Sat N D E a → ∀ w, S w → (execOp a.eval o).run P w = .ok (.value v) w) (k : H n (l.setIfInBounds i true) (putE o.dst v E) w) (hnd : noDefer ops = true := by kernel_rfl) : H (n + 1) l E w :=
 HW.first hH ho hc hd hS (chkR_spec hcr) (fun a ha => .inl ⟨hw _ _ ha, hv a ha⟩) k hnd
theorem HW.pure (hH : H = HW ro P N D ops Q S z) (ho : ops[i]? = some o) (hc : chk ops z l i = true) (hw : Wants N ops E o) (hd : okd N o.dst = true) (hS : l.getD z false = false → S w)
  (hv : ∀ a, Sat N D E a → ∀ w, True → (execOp a.eval o).run P w = .ok (.value v) w) (k : H n (l.setIfInBounds i true) (putE o.dst v E) w) (hnd : noDefer ops = true := by kernel_rfl) : H (n + 1) l E w :=
 HW.first (S₀ := fun _ => True) hH ho hc hd hS (fun _ _ _ _ _ => trivial) (fun a ha => .inl ⟨hw _ _ ha, hv a ha⟩) k hnd
theorem HW.skip (hH : H = HW ro P N D ops Q S z) (ho : ops[i]? = some o) (hc : chk ops z l i = true) (hs : Skips N ops E o) (hd : okd N o.dst = true) (hS : l.getD z false = false → S w)
  (k : H n (l.setIfInBounds i true) (putE o.dst undef E) w) (hnd : noDefer ops = true := by kernel_rfl) : H (n + 1) l E w :=
 HW.first (S₀ := fun _ => True) hH ho hc hd hS (fun _ _ _ _ _ => trivial) (fun a ha => .inr ⟨hs _ _ ha, rfl⟩) k hnd
theorem HW.one (hH : H = HW ro P N D ops Q S z) (hr : Region.ready .any ops l = [i]) (ho : ops[i]? = some o) (hw : Wants N ops E o)
  (h : ∀ a, Sat N D E a → Shut ops l → o.wpIn (FR ro) 0 P a w (fun a' w' => ((l.setIfInBounds i true).getD z false = false → S w') ∧ AH ro P ops (NP Q) S z n (l.setIfInBounds i true) a' w') (NP Q)) : H (n + 1) l E w := by
 subst hH
 intro a ha hsh
 refine ⟨fun h0 => (by rw [hr] at h0; cases h0), fun j hj => ?_⟩
 rw [hr] at hj
 have hji : j = i := by simpa using hj
 subst hji
 unfold wpOpIn
 simp only [ho, hw _ _ ha, if_true]
 exact h a ha hsh
theorem HW.val (hH : H = HW ro P N D ops Q S z) (hr : Region.ready .any ops l = [i]) (ho : ops[i]? = some o) (hw : Wants N ops E o) (hd : okd N o.dst = true)
  (hv : ∀ a, Sat N D E a → (execOp a.eval o).run P w = .ok (.value v) w') (hS : (l.setIfInBounds i true).getD z false = false → S w') (k : H n (l.setIfInBounds i true) (putE o.dst v E) w') (hn : isDefer o = false := by rfl) : H (n + 1) l E w :=
 HW.one hH hr ho hw fun a ha hsh => by
  refine ⟨fun _ _ => trivial, ?_⟩
  rw [semAt_of hn, hv a ha, Oper.uponIn_value]
  rw [hH] at k; exact ⟨hS, k _ (ha.put hd) (hsh.set (by rw [hr]; simp))⟩
theorem HW.eff (hH : H = HW ro P N D ops Q S z) (hr : Region.ready .any ops l = [i]) (ho : ops[i]? = some o) (hw : Wants N ops E o) (hd : okd N o.dst = true)
  (hv : ∀ a, Sat N D E a → (execOp a.eval o).run P w = .ok .skip w') (hS : (l.setIfInBounds i true).getD z false = false → S w') (k : H n (l.setIfInBounds i true) (putE o.dst undef E) w') (hn : isDefer o = false := by rfl) : H (n + 1) l E w :=
 HW.one hH hr ho hw fun a ha hsh => by
  refine ⟨fun _ _ => trivial, ?_⟩
  rw [semAt_of hn, hv a ha, Oper.uponIn_skip]
  rw [hH] at k; exact ⟨hS, k _ (ha.put hd) (hsh.set (by rw [hr]; simp))⟩
theorem HW.call {f : Nat} {args : Array Value} {R : Ending → World → Prop} (hH : H = HW ro P N D ops Q S z) (hr : Region.ready .any ops l = [i]) (ho : ops[i]? = some o) (hw : Wants N ops E o) (hd : okd N o.dst = true)
  (hv : ∀ a, Sat N D E a → (execOp a.eval o).run P w = .ok (.enter f args) w') (hc : Calls P f args w' R)
  (k : ∀ e w'', R e w'' → ∃ v, e = .returned v ∧ ((l.setIfInBounds i true).getD z false = false → S w'') ∧ H n (l.setIfInBounds i true) (putE o.dst v E) w'') (hn : isDefer o = false := by rfl) : H (n + 1) l E w :=
 HW.one hH hr ho hw fun a ha hsh => by
  refine ⟨fun _ _ => trivial, ?_⟩
  rw [semAt_of hn, hv a ha, Oper.uponIn_enter]
  refine ⟨fun h => (by cases h), FR.callsIn (hc.mono fun e w'' hR => ?_)⟩
  obtain ⟨v, rfl, hS, hk⟩ := k e w'' hR
  rw [hH] at hk; exact ⟨hS, hk _ (ha.put hd) (hsh.set (by rw [hr]; simp))⟩
theorem HW.skip1 (hH : H = HW ro P N D ops Q S z) (hr : Region.ready .any ops l = [i]) (ho : ops[i]? = some o) (hs : Skips N ops E o) (hd : okd N o.dst = true) (hS : (l.setIfInBounds i true).getD z false = false → S w)
  (k : H n (l.setIfInBounds i true) (putE o.dst undef E) w) : H (n + 1) l E w := by
 subst hH
 intro a ha hsh
 refine ⟨fun h0 => (by rw [hr] at h0; cases h0), fun j hj => ?_⟩
 have hj' := hj
 rw [hr] at hj
 have hji : j = i := by simpa using hj
 subst hji
 unfold wpOpIn
 simp only [ho, hs _ _ ha, Bool.false_eq_true, if_false]
 exact ⟨fun _ _ => trivial, hS, k _ (ha.put hd) (hsh.set hj')⟩
theorem HW.callY {x : Operand} {args : Array Operand} {ts : Array TypeId} {d : Option Nat} {T : TypeId} {p : String} {af : Array Edge} {gd : Option (Nat × Bool)} {fv : Value} {vs : List Value} {R : Ending → World → Prop}
  (hH : H = HW ro P N D ops Q S z) (hr : Region.ready .any ops l = [i]) (ho : ops[i]? = some ⟨d, .call ⟨.value x, args, ts⟩, T, p, af, gd⟩) (hw : Wants N ops E ⟨d, .call ⟨.value x, args, ts⟩, T, p, af, gd⟩) (hd : okd N d = true)
  (hx : opd E x = some fv) (ha' : opdL E args.toList = some vs) (hc : CallsY P fv vs.toArray w R)
  (k : ∀ e w'', R e w'' → ∃ v, e = .returned v ∧ ((l.setIfInBounds i true).getD z false = false → S w'') ∧ H n (l.setIfInBounds i true) (putE d v E) w'') : H (n + 1) l E w := by
 rcases hc with ⟨f, cap, fn, rfl, h2, h3, h4, h5⟩ | ⟨lb, rfl, fn, tmps, as', bd, h2, h3⟩
 ·refine HW.one hH hr ho hw fun a ha hsh => ⟨fun _ _ => trivial, ?_⟩
  rw [semAt_of rfl, Cl.fv hx ha' h2 h3 h4 a ha, Oper.uponIn_enter]
  refine ⟨fun h => (by cases h), FR.callsIn (h5.mono fun e w'' hR => ?_)⟩
  obtain ⟨v, rfl, hS, hk⟩ := k e w'' hR
  rw [hH] at hk; exact ⟨hS, hk _ (ha.put hd) (hsh.set (by rw [hr]; simp))⟩
 ·refine HW.one hH hr ho hw fun a ha hsh => ⟨fun _ _ => trivial, ?_⟩
  have e1 : (execOp a.eval ⟨d, .call ⟨.value x, args, ts⟩, T, p, af, gd⟩).run P w = .ok (.round lb fn tmps as' bd) w := by
   have e2 : args.map a.eval = vs.toArray := opdL_map ha ha'
   simp [execOp, resolve, ha.eval hx, Deferred.ofValue, invoke, e2, h2]
  rw [semAt_of rfl, e1, Oper.uponIn_round]
  refine ⟨fun h => (by cases h), h3.mono fun e w'' hR => ?_⟩
  obtain ⟨v, rfl, hS, hk⟩ := k e w'' hR
  rw [hH] at hk; exact ⟨hS, hk _ (ha.put hd) (hsh.set (by rw [hr]; simp))⟩
def H1 (ro : Option Nat) (P : Program) (N : Nat) (D : List Deferred) (ops : Array Oper) (Q : Exit → Act → World → Prop) (S : World → Prop) (z : Nat) (n : Nat) (l : Array Bool) (i : Nat) (E : Env) (w : World) : Prop :=
 i ∈ Region.ready .any ops l → ∀ a, Sat N D E a → Shut ops l → wpOpIn (FR ro) 0 P ops (NP Q) i (fun a' w' => ((l.setIfInBounds i true).getD z false = false → S w') ∧ AH ro P ops (NP Q) S z n (l.setIfInBounds i true) a' w') a w
theorem HW.two {j : Nat} (hH : H = HW ro P N D ops Q S z) (hr : Region.ready .any ops l = [i, j]) (h1 : H1 ro P N D ops Q S z n l i E w) (h2 : H1 ro P N D ops Q S z n l j E w) : H (n + 1) l E w := by
 subst hH
 intro a ha hsh
 refine ⟨fun h0 => (by rw [hr] at h0; cases h0), fun k hk => ?_⟩
 have hk' := hk
 rw [hr] at hk
 rcases List.mem_cons.1 hk with rfl | hk
 ·exact h1 hk' a ha hsh
 ·have : k = j := by simpa using hk
  subst this
  exact h2 hk' a ha hsh
theorem H1.val (hH : H = HW ro P N D ops Q S z) (ho : ops[i]? = some o) (hw : Wants N ops E o) (hd : okd N o.dst = true)
  (hv : ∀ a, Sat N D E a → (execOp a.eval o).run P w = .ok (.value v) w') (hS : (l.setIfInBounds i true).getD z false = false → S w') (k : H n (l.setIfInBounds i true) (putE o.dst v E) w') (hn : isDefer o = false := by rfl) : H1 ro P N D ops Q S z n l i E w := by
 intro hr a ha hsh
 unfold wpOpIn
 simp only [ho, hw _ _ ha, if_true, Oper.wpIn]
 rw [semAt_of hn, hv a ha, Oper.uponIn_value]
 rw [hH] at k; exact ⟨fun _ _ => trivial, hS, k _ (ha.put hd) (hsh.set hr)⟩
theorem H1.call {f : Nat} {args : Array Value} {R : Ending → World → Prop} (hH : H = HW ro P N D ops Q S z) (ho : ops[i]? = some o) (hw : Wants N ops E o) (hd : okd N o.dst = true)
  (hv : ∀ a, Sat N D E a → (execOp a.eval o).run P w = .ok (.enter f args) w') (hc : Calls P f args w' R)
  (k : ∀ e w'', R e w'' → ∃ v, e = .returned v ∧ ((l.setIfInBounds i true).getD z false = false → S w'') ∧ H n (l.setIfInBounds i true) (putE o.dst v E) w'') (hn : isDefer o = false := by rfl) : H1 ro P N D ops Q S z n l i E w := by
 intro hr a ha hsh
 unfold wpOpIn
 simp only [ho, hw _ _ ha, if_true, Oper.wpIn]
 rw [semAt_of hn, hv a ha, Oper.uponIn_enter]
 refine ⟨fun _ _ => trivial, fun h => (by cases h), FR.callsIn (hc.mono fun e w'' hR => ?_)⟩
 obtain ⟨v, rfl, hS, hk⟩ := k e w'' hR
 rw [hH] at hk; exact ⟨hS, hk _ (ha.put hd) (hsh.set hr)⟩
theorem HW.done (hH : H = HW ro P N D ops Q S z) (hr : Region.ready .any ops l = []) (k : NW N D Q E w) : H n l E w := by
 subst hH
 intro a ha _
 cases n with
 | zero => exact ⟨hr, k a ha⟩
 | succ n => exact ⟨fun _ => k a ha, by rw [hr]; simp⟩
theorem HW.sub (hH : H = HW ro P N D ops Q S z) {F : Env} (s : Sub E F) (k : H n l E w) : H n l F w := by
 subst hH; exact fun a ha => k a (ha.sub s)
end
end Go.XR
end
section
namespace Go.Proofs.YtfcfkhbkkfpehaaGreat
open Go Go.X
/- (*pomander/flow.Flow).All$1 -/
def W_flow_Flow_All_1 (yield1 : Value) (cap1 : Addr) (w : World) (R : World → Prop) : Prop :=
 ∃ (t1 : Option Nat), w.cell? cap1 = some (.map t1) ∧ (Calls Tryz.prog 71 #[.map t1] w fun e w1 => ∃ (r1 : Value), e = .returned (r1) ∧ (Calls Tryz.prog 70 #[r1, .func (.func 72) #[] #[]] w1 fun e w2 => ∃ (r2 : Option Addr) (r2n : Nat) (r2c : Nat), e = .returned (.slice r2 r2n r2c) ∧ (∃ (I1 : Int → World → Prop) (m1 : Int → World → Nat), I1 0 w2 ∧ ∀ (x1 : Int) (w3 : World), I1 x1 w3 → ((decide (x1 < (r2n : Int))) = true → ∃ a1 : Addr, r2 = some a1 ∧ (0 : Int) ≤ x1 ∧ x1 < (r2n : Int) ∧ (∃ (t2 : Int) (t3 : Int), CellsAt w3 (a1.add (Int.toNat x1 * 2)) 0 [.int .i64 t2, .int .i64 t3] ∧ (∀ (b1 : Nat) (w6 : World), (w3.heap.size ≤ b1 ∧ b1 < w6.heap.size) → Chg [] w3 w6 → (∃ (t4 : Option Nat), w6.cell? cap1 = some (.map t4) ∧ (∃ (v1 : Int), (Instr.lookup 99 (.map t4) (.agg #[.int .i64 t2, .int .i64 t3]) false).run Tryz.prog w6 = .ok (.int .u32 v1) w6 ∧ (XR.CallsY Tryz.prog yield1 #[.agg #[.int .i64 t2, .int .i64 t3], .int .u32 v1] w6 fun e w7 => ∃ (r3 : Bool), e = .returned (.bool r3) ∧ (((!r3) = true → R w7) ∧ ((!r3) = false → (I1 (IntKind.wrap .i64 (x1 + 1)) w7 ∧ m1 (IntKind.wrap .i64 (x1 + 1)) w7 < m1 x1 w3))))))))) ∧ ((decide (x1 < (r2n : Int))) = false → R w3))))
set_option maxRecDepth 100000 in
theorem go_flow_Flow_All_1 (yield1 : Value) (cap1 : Addr) (w : World) (R : World → Prop) (h : W_flow_Flow_All_1 yield1 cap1 w R) : Calls Tryz.prog 69 #[yield1, .pointer (some cap1)] w (fun e w' => e = .returned (.tuple #[]) ∧ R w') := by
 unfold W_flow_Flow_All_1 at h
 refine enter (N := 21) Tryz.func69 rfl rfl ?_
 refine CW.seq ?_
 refine CW.region fun L hL => ?_
 obtain ⟨t1, hc1, h⟩ := h
 refine LW.rd hL rfl (Wants.free rfl) rfl (Rd.ld (v := .map t1) rfl (by kernel_rfl) (eqs hc1)) ?_
 refine LW.call hL rfl (Wants.free rfl) rfl (Cl.fn (f := 71) rfl Tryz.func71 (by kernel_rfl) rfl) h (fun e w1 h_ => ?_)
 clear h
 obtain ⟨r1, rfl, h⟩ := h_
 refine ⟨_, rfl, ?_⟩
 refine LW.call hL rfl (Wants.free rfl) rfl (Cl.fn (f := 70) rfl Tryz.func70 (by kernel_rfl) rfl) h (fun e w2 h_ => ?_)
 clear h
 obtain ⟨r2, r2n, r2c, rfl, h⟩ := h_
 refine ⟨_, rfl, ?_⟩
 refine LW.rd hL rfl (Wants.free rfl) rfl (Rd.builtin (v := .int .i64 (r2n : Int)) rfl (fun _ _ => by kernel_rfl)) ?_
 refine LW.rd hL rfl (Wants.free rfl) rfl (Rd.move (v := .int .i64 0) rfl) ?_
 refine LW.nil hL rfl ?_
 refine NW.then ?_
 refine CW.block ?_
 obtain ⟨I1, m1, hI1, h⟩ := h
 refine CW.loop (S := Int) (fun x1 => [(0, yield1), (1, .pointer (some cap1)), (7, .slice r2 r2n r2c), (8, .int .i64 (r2n : Int)), (9, .int .i64 x1)]) (fun x1 w3 => I1 x1 w3) (fun x1 w3 => m1 x1 w3) 0 (by exact ⟨rfl, rfl, rfl, rfl, rfl, trivial⟩) hI1 (fun x1 w3 hI1 => ?_)
 replace h := h x1 w3 hI1
 refine CW.seq ?_
 refine CW.region fun L hL => ?_
 refine LW.rd hL rfl (Wants.free rfl) rfl (Rd.bin (v := .bool (decide (x1 < (r2n : Int)))) rfl rfl (fun w => by kernel_rfl)) ?_
 refine LW.nil hL rfl ?_
 refine NW.then ?_
 refine CW.seq ?_
 refine CW.cond rfl (fun hb1 => ?_) (fun hb1 => ?_)
 ·replace h := h.1 hb1
  refine CW.skip ?_
  refine NW.then ?_
  refine CW.seq ?_
  refine CW.block ?_
  refine CW.seq ?_
  refine CW.region fun L hL => ?_
  obtain ⟨a1, he1, hi1, hi2, h⟩ := h
  refine LW.rd hL rfl (Wants.free rfl) rfl (Rd.iaS (q := a1) (sz := 2) (by rw [← he1]; rfl) rfl Tryz.underlying63 (by kernel_rfl) hi1 hi2) ?_
  obtain ⟨t2, t3, hc2, h⟩ := h
  refine LW.rd hL rfl (Wants.free rfl) rfl (Rd.ldN (cs := [.int .i64 t2, .int .i64 t3]) rfl (by kernel_rfl) (by kernel_rfl) (cellsS hc2)) ?_
  obtain ⟨b1, hb_b1⟩ : ∃ b1, b1 = World.size w3 := ⟨_, rfl⟩
  obtain ⟨w4, hw_w4⟩ : ∃ w4, w4 = World.alloc w3 (.cells #[.int .i64 0, .int .i64 0] 62) := ⟨_, rfl⟩
  refine LW.val hL rfl (Wants.free rfl) rfl (boxE hb_b1 hw_w4 (Vl.alloc (z := .agg #[.int .i64 0, .int .i64 0]) (by kernel_rfl))) ?_
  have hB := Boxes.alloc (cs := [.int .i64 0, .int .i64 0]) (T := 62) (Boxes.nil w3) hb_b1 hw_w4
  have hlo_b1 := sil_lo (Chg.refl [] w3) hb_b1
  have hc_w4 := sil_alloc (Chg.refl [] w3) hw_w4
  obtain ⟨w5, hw_w5⟩ : ∃ x, x = setCells w4 (⟨b1, 0, none⟩ : Addr) 0 [.int .i64 t2, .int .i64 t3] := ⟨_, rfl⟩
  refine LW.eff hL rfl (Wants.free rfl) rfl (stNE hw_w5 (Ef.stN (cs := [.int .i64 t2, .int .i64 t3]) rfl rfl (by kernel_rfl) (List.forall_mem_cons.2 ⟨rfl, (List.forall_mem_cons.2 ⟨rfl, (List.forall_mem_nil _)⟩)⟩) (has_of (hB.at (i := 0) rfl) (by simp)) (free_of' (hB.at (i := 0) rfl)))) ?_
  replace hB : Boxes w5 [(b1, [.int .i64 t2, .int .i64 t3], 62)] := Boxes.store (vs := [.int .i64 t2, .int .i64 t3]) (i := 0) (o := 0) hB rfl rfl rfl rfl hw_w5
  have hc_w5 := sil_new hc_w4 (sil_cN hw_w5) hlo_b1
  refine LW.nil hL rfl ?_
  refine NW.then ?_
  refine CW.seq ?_
  refine XR.CW.un ?_
  obtain ⟨w6, hw_w6⟩ : ∃ x, x = World.drew w5 := ⟨_, rfl⟩
  have hc_w6 := sil_drew hc_w5 hw_w6
  replace hB := hB.drew hw_w6
  refine XR.CW.drawn (fun w => w = w6) 5 (by kernel_rfl) fun H hH => ?_
  rw [← hw_w6]
  refine XR.HW.pure (i := 0) hH rfl (by kernel_rfl) (Wants.free rfl) rfl (fun _ => rfl) (Rd.move (v := yield1) rfl) ?_
  refine XR.HW.take (i := 1) hH rfl (by kernel_rfl) (by kernel_rfl) (Wants.free rfl) rfl (fun _ => rfl) (Rd.ldN (cs := [.int .i64 t2, .int .i64 t3]) rfl (by kernel_rfl) (by kernel_rfl) (cellsS (box_cells (hB.at (i := 0) rfl) rfl))) ?_
  replace h := h b1 w6 ⟨hlo_b1, lt_of_heap (hB.at (i := 0) rfl)⟩ hc_w6
  obtain ⟨t4, hc3, h⟩ := h
  refine XR.HW.take (i := 2) hH rfl (by kernel_rfl) (by kernel_rfl) (Wants.free rfl) rfl (fun _ => rfl) (Rd.ld (v := .map t4) rfl (by kernel_rfl) (eqs hc3)) ?_
  refine XR.HW.take (i := 3) hH rfl (by kernel_rfl) (by kernel_rfl) (Wants.free rfl) rfl (fun _ => rfl) (Rd.ldN (cs := [.int .i64 t2, .int .i64 t3]) rfl (by kernel_rfl) (by kernel_rfl) (cellsS (box_cells (hB.at (i := 0) rfl) rfl))) ?_
  obtain ⟨v1, hl1, h⟩ := h
  refine XR.HW.take (i := 4) hH rfl (by kernel_rfl) (by kernel_rfl) (Wants.free rfl) rfl (fun _ => rfl) (Rd.lookup (v := .int .u32 v1) rfl rfl (fun _ e => e ▸ hl1)) ?_
  refine XR.HW.callY (i := 5) hH (by kernel_rfl) rfl (Wants.free rfl) rfl rfl rfl h (fun e w7 h_ => ?_)
  clear h
  obtain ⟨r3, rfl, h⟩ := h_
  refine ⟨_, rfl, (fun hc => by cases hc), ?_⟩
  refine XR.HW.pure (i := 6) hH rfl (by kernel_rfl) (Wants.free rfl) rfl (fun hc => by cases hc) (Rd.un (v := .bool (!r3)) rfl (fun _ => by kernel_rfl)) ?_
  refine XR.HW.done hH (by kernel_rfl) ?_
  refine NW.then ?_
  refine CW.cond rfl (fun hb2 => ?_) (fun hb2 => ?_)
  ·replace h := h.1 hb2
   refine CW.ret ?_
   refine RW.block ?_
   refine RW.then ?_
   refine RW.then ?_
   refine RW.block ?_
   exact res0 rfl ⟨rfl, h⟩
  ·replace h := h.2 hb2
   refine CW.skip ?_
   refine NW.block ?_
   refine NW.then ?_
   refine CW.region fun L hL => ?_
   refine LW.rd hL rfl (Wants.free rfl) rfl (Rd.bin (v := .int .i64 (IntKind.wrap .i64 (x1 + 1))) rfl rfl (fun w => by kernel_rfl)) ?_
   refine LW.rd hL rfl (Wants.free rfl) rfl (Rd.move (v := .int .i64 (IntKind.wrap .i64 (x1 + 1))) rfl) ?_
   refine LW.nil hL rfl ?_
   exact NW.loop (S := Int) (Ek := fun x1 => [(0, yield1), (1, .pointer (some cap1)), (7, .slice r2 r2n r2c), (8, .int .i64 (r2n : Int)), (9, .int .i64 x1)]) (IntKind.wrap .i64 (x1 + 1)) (by exact ⟨rfl, rfl, rfl, rfl, rfl, trivial⟩) h
 ·replace h := h.2 hb1
  refine CW.exit ?_
  refine XW.then ?_
  refine XW.then ?_
  refine XW.hit ?_
  exact res0n rfl (by exact ⟨rfl, h⟩)
end Go.Proofs.YtfcfkhbkkfpehaaGreat
end
section
/- Flows: All. -/
namespace Go.Proofs.YtfcfkhbkkfpehaaGreat
open Go Go.RowKit Go.X Go.XR
theorem places_len (N : Nat) : ∀ K : Nat, ((List.range K).flatMap fun k : Nat => (List.range N).map fun n : Nat => ((k : Int), (n : Int))).length = K * N
 | 0 => by simp
 | K + 1 => by
  rw [List.range_succ, List.flatMap_append, List.length_append, places_len N K]
  simp [Nat.add_mul]
theorem keys_len {F : Fl} (hf : F.fr ≤ 32) (hs : F.se ≤ 32) {l : List (Int × Int)} (hn : l.Nodup) (h : ∀ p ∈ l, mayP F.fr F.se p) : l.length ≤ 1000000000000 := by
 have := nodup_sub_length hn (b := (List.range 18).flatMap fun k : Nat => (List.range 2147483648).map fun n : Nat => ((k : Int), (n : Int))) fun p hp => by
  obtain ⟨a, b, c, d⟩ := h p hp
  have hb : boundP F.fr F.se p.1 ≤ 2147483648 := by
   unfold boundP
   repeat' split
   all_goals omega
  exact List.mem_flatMap.2 ⟨p.1.toNat, List.mem_range.2 (by omega), List.mem_map.2 ⟨p.2.toNat, List.mem_range.2 (by omega), Prod.ext (by simp only []; omega) (by simp only []; omega)⟩⟩
 rw [places_len] at this
 omega
def tell (F : Fl) (p : Int × Int) : Int × Int × Int := (p.1, p.2, F.g p)
def fullF (F : Fl) (ys : List (Int × Int)) : Prop := ys.Pairwise ltPl ∧ ∀ p, p ∈ ys ↔ F.g p ≠ 0 ∧ mayP F.fr F.se p
def allF (F : Fl) (xs : List (Int × Int × Int)) : Prop := ∃ ys, fullF F ys ∧ xs = ys.map (tell F)
def allFp (F : Fl) (pre : List (Int × Int × Int)) : Prop := ∃ ys suf, fullF F ys ∧ pre ++ suf = ys.map (tell F)
theorem isFn100 (cb : Nat) : IsFn Tryz.prog (.func (.func 69) #[] #[.pointer (some ⟨cb, 0, none⟩)]) := ⟨69, Tryz.f69, _, rfl, Tryz.func69, by kernel_rfl, by kernel_rfl⟩
theorem iterates_flow {w : World} {cb m : Nat} {F : Fl} {L : List ((Int × Int) × Int)} (hcb : w.heap[cb]? = some (.cells #[.map (some m)] 99 (0, 0))) (h : AllIs w m F L) (hf : F.fr ≤ 32) (hs : F.se ≤ 32) :
  Iterates Tryz.prog (.func (.func 69) #[] #[.pointer (some ⟨cb, 0, none⟩)]) (fun x : Int × Int × Int => #[.agg #[.int .i64 x.1, .int .i64 x.2.1], .int .u32 x.2.2]) (allF F) (allFp F) [cb, m] w := by
 intro W yv I Ix hW hI hIx h0 hround
 refine ⟨69, #[.pointer (some ⟨cb, 0, none⟩)], Tryz.f69, rfl, Tryz.func69, by kernel_rfl, by kernel_rfl, ?_⟩
 have hcW := hW.obj (by simp) hcb
 have hmW := h.map.chg hW (by simp)
 have hlm := hmW.lt
 have hlcb := lt_of_heap hcW
 refine (go_flow_Flow_All_1 yv ⟨cb, 0, none⟩ W (fun w' => ∃ Own, InO W Own w' ∧ ((∃ xs, allF F xs ∧ I Own xs w') ∨ ∃ pre, allFp F pre ∧ Ix Own pre w')) ?_).mono (fun e w' h => ⟨⟨_, h.1⟩, h.2⟩)
 unfold W_flow_Flow_All_1
 refine ⟨_, by rw [cell_of hcW]; rfl, ?_⟩
 refine (maps_pkeys W (some m)).mono ?_
 rintro _ w2 ⟨_, rfl, kb, rfl, ekb, hkb, c2⟩
 have s2 := c2.size
 have hkl := lt_of_heap hkb
 refine ⟨_, rfl, ?_⟩
 have hnd : (L.map Prod.fst).Nodup := by obtain ⟨_, _, _, _, hnd, _⟩ := h.map; exact hnd
 refine (sorted_places (isFn121 kb) (iterates_pkeys hkb (hmW.chg c2 (by simp))) (by simp; omega) (fun pre hp => ?_) (fun xs ⟨d, e, n, a, _⟩ => ⟨d, e, n, a⟩)).mono ?_
 ·obtain ⟨d, rfl, n, a⟩ := hp
  exact keys_len hf hs n fun p hp => by obtain ⟨x, hx, rfl⟩ := List.mem_map.1 hp; exact h.may x (a x hx)
 rintro _ w3 ⟨p, n, c, rfl, xs, ys, hS, hperm, hsort, hn, hr, c3, hp⟩
 have s3 := c3.size
 obtain ⟨done, rfl, d1, d2, d3⟩ := hS
 have hmem : ∀ q, q ∈ ys ↔ F.g q ≠ 0 ∧ mayP F.fr F.se q := fun q => by
  rw [hperm.mem_iff]
  constructor
  ·intro hq
   obtain ⟨x, hx, rfl⟩ := List.mem_map.1 hq
   refine ⟨fun e => ?_, h.may x (d2 x hx)⟩
   have := h.look x.1
   rw [if_pos e] at this
   exact lookK_none.1 this x (d2 x hx) rfl
  ·rintro ⟨hq, _⟩
   have := h.look q
   rw [if_neg hq] at this
   exact List.mem_map.2 ⟨(q, F.g q), d3 _ (lookK_mem this), rfl⟩
 have hyn : ys.Nodup := hperm.nodup_iff.2 d1
 have hfull : fullF F ys := ⟨(hsort.and hyn).imp fun {a b} hab => by
  have h1 := hab.1
  have h2 := hab.2
  unfold ltPl at *
  rcases Decidable.em (a.1 = b.1) with e1 | e1
  ·rcases Decidable.em (a.2 = b.2) with e2 | e2
   ·exact absurd (Prod.ext e1 e2) h2
   ·omega
  ·omega, hmem⟩
 have hyl : ys.length ≤ 1000000000000 := keys_len hf hs hyn fun p hp => ((hmem p).1 hp).2
 refine ⟨p, n, c, rfl, ?_⟩
 have c03 : Chg [] W w3 := c2.trans0 c3
 have hO : ∀ {A : World}, w3.heap.size ≤ A.heap.size → InO W (rowB p) A := fun hA i hi => ⟨by have := hp i hi; omega, by have := hr.lt i hi; omega⟩
 have hI3 := hI [] [] (rowB p) W w3 h0 (by intro i hi; cases hi) c03 (hO (Nat.le_refl _)) (fun i hi => .inr (by have := hp i hi; omega))
 refine ⟨fun x1 w4 => ∃ j : Nat, x1 = j ∧ j ≤ n ∧ I (rowB p) ((ys.take j).map (tell F)) w4 ∧ Same w3 w4 ([cb, m] ++ rowB p) ∧ w3.heap.size ≤ w4.heap.size, fun x1 _ => n - x1.toNat,
  ⟨0, rfl, Nat.zero_le _, hI3, Same.refl _ _, Nat.le_refl _⟩, ?_⟩
 rintro x1 w4 ⟨j, rfl, hj, hI4, hs4, s4⟩
 refine ⟨fun hlt => ?_, fun hge => ?_⟩
 ·have hlt' : j < n := by have := of_decide_eq_true hlt; omega
  have hjl : j < ys.length := by omega
  obtain ⟨k, hk⟩ : ∃ k, ys[j]? = some k := ⟨_, List.getElem?_eq_getElem hjl⟩
  have hkm := (hmem k).1 (List.mem_of_getElem? hk)
  obtain ⟨g0, g1⟩ := flat_get2 ys j k hk
  obtain ⟨a, rfl, hc0⟩ := RowAt.at hr g0
  obtain ⟨a', e, hc1⟩ := RowAt.at hr g1
  cases e
  have ha : ∃ g, a = ⟨g, 0, none⟩ := by
   rcases hr.2 with ⟨hv, _⟩ | ⟨g, _, _, hv, _⟩
   ·cases hv
   ·cases hv; exact ⟨g, rfl⟩
  obtain ⟨ga, rfl⟩ := ha
  have hsb : w4.heap[(⟨ga, 0, none⟩ : Addr).block]? = w3.heap[(⟨ga, 0, none⟩ : Addr).block]? := hs4 _ (by simp [rowB])
  have ej : Int.toNat (j : Int) * 2 = j * 2 := by omega
  rw [ej]
  refine ⟨_, rfl, by omega, by omega, k.1, k.2, ⟨?_, ?_, trivial⟩, ?_⟩
  ·rw [add_at, add_at, Nat.add_zero]
   rw [add_at] at hc0
   exact same_cell hsb hc0
  ·rw [add_at, add_at]
   rw [add_at] at hc1
   exact same_cell hsb (by rw [show 0 + j * 2 + (0 + 1) = 0 + (j * 2 + 1) by omega]; exact hc1)
  rintro b1 w6 ⟨q1, q2⟩ c6
  have s6 := c6.size
  have hlk : ∀ x ∈ [cb, m] ++ rowB (some ⟨ga, 0, none⟩), x < w4.heap.size := fun x hx => by
   rcases List.mem_append.1 hx with hx | hx
   ·have h1 := c2.size; have h2 := c3.size
    simp at hx
    rcases hx with e | e <;> subst e <;> omega
   ·have := hr.lt x hx; omega
  have hs6 : Same w3 w6 ([cb, m] ++ rowB (some ⟨ga, 0, none⟩)) := fun x hx => (c6.block x (hlk x hx) (by simp)).trans (hs4 x hx)
  have hcb6 := (hs6 cb (by simp)).trans (c03.obj (by simp) hcW)
  have hm6 : MapIs w6 m encP (fun n : Int => .int .u32 n) L := by
   obtain ⟨es, clk, m1, m2⟩ := hmW.chg c03 (by simp)
   exact ⟨es, clk, (hs6 m (by simp)).trans m1, m2⟩
  have hlook := hm6.lookup (P := Tryz.prog) (T := 99) u143 keyPlace (z := .int .u32 0) (fun _ => by kernel_rfl) k false
  rw [h.look, if_neg hkm.1] at hlook
  refine ⟨some m, by rw [cell_of hcb6]; rfl, F.g k, by rw [show (.agg #[.int .i64 k.1, .int .i64 k.2] : Value) = encP k from rfl, hlook]; rfl, ?_⟩
  have hI6 := hI ((ys.take j).map (tell F)) (rowB (some ⟨ga, 0, none⟩)) (rowB (some ⟨ga, 0, none⟩)) w4 w6 hI4 (hO s4) c6.nil (hO (by omega)) (fun i hi => .inl hi)
  have htake : ys.take (j + 1) = ys.take j ++ [k] := by rw [List.take_add_one, hk]; rfl
  have hpre : allFp F ((ys.take j).map (tell F) ++ [tell F k]) := ⟨ys, (ys.drop (j + 1)).map (tell F), hfull, by
   rw [show [tell F k] = [k].map (tell F) from rfl, ← List.map_append, ← htake, ← List.map_append, List.take_append_drop]⟩
  refine (hround (rowB (some ⟨ga, 0, none⟩)) _ (tell F k) w6 (hO (by omega)) hpre hI6).mono ?_
  have ew1 : IntKind.wrap .i64 ((j : Int) + 1) = ((j + 1 : Nat) : Int) := by rw [wr (by omega) (by omega)]; omega
  rintro e w7 ⟨s7, ⟨rfl, hI7, hs7⟩ | ⟨rfl, hx7⟩⟩
  ·refine ⟨true, rfl, fun h => by simp at h, fun _ => ⟨⟨j + 1, ew1, by omega, ?_, fun x hx => (hs7 x hx).trans (hs6 x hx), by omega⟩, by rw [ew1]; simp only []; omega⟩⟩
   rw [htake, List.map_append]; exact hI7
  ·exact ⟨false, rfl, fun _ => ⟨rowB (some ⟨ga, 0, none⟩), hO (by omega), .inr ⟨_, hpre, hx7⟩⟩, fun h => by simp at h⟩
 ·have : j = n := by have := of_decide_eq_false hge; omega
  subst this
  rw [List.take_of_length_le (by omega)] at hI4
  exact ⟨rowB p, hO s4, .inl ⟨_, ⟨ys, hfull, rfl⟩, hI4⟩⟩
theorem flow_all {w : World} {b : Nat} {F : Fl} {fp : List Nat} (h : FlowAt w b F fp) :
  Calls Tryz.prog 34 #[.pointer (some ⟨b, 0, none⟩)] w fun e w' => ∃ r : Value, e = .returned r ∧ ∃ cb m L, r = .func (.func 69) #[] #[.pointer (some ⟨cb, 0, none⟩)] ∧ w'.heap[cb]? = some (.cells #[.map (some m)] 99 (0, 0)) ∧ AllIs w' m F L ∧ Chg [] w w' ∧ w.heap.size ≤ cb ∧ w.heap.size ≤ m := by
 refine go_flow_Flow_All _ _ _ ?_
 unfold W_flow_Flow_All
 refine v_alloc fun b1 w1 e1 hb1 c1 => ?_
 refine v_alloc fun b2 w2 e2 hb2 c2 => ?_
 have s1 := c1.size
 have s2 := c2.size
 have l2 := lt_of_heap hb2
 refine v_set0 hb2 (by simp) fun w3 hb3 c3 s3 => ?_
 have c03 : Chg [] w w3 := (c1.trans0 c2).trans c3 (fun i hi hlt => by simp at hi; omega)
 have h3 := h.chg c03 (by simp)
 refine ⟨fun w' => ∃ m L, w'.heap[b2]? = some (.cells #[.map (some m)] 99 (0, 0)) ∧ AllIs w' m F L ∧ Chg [] w w' ∧ w.heap.size ≤ m, ?_, ?_⟩
 ·rintro w4 ⟨m, L, k1, k2, k3, k4⟩
  exact ⟨b2, m, L, rfl, k1, k2, k3, by omega, k4⟩
 refine (flow_none h3).mono ?_
 rintro _ w5 ⟨_, rfl, rfl, hw⟩
 subst w5
 refine ⟨_, rfl, fun _ => ?_, fun h => by simp at h⟩
 refine (flow_all_map h3).mono ?_
 rintro _ w6 ⟨_, rfl, m, L, rfl, hA, c6, hm⟩
 refine ⟨_, rfl, ?_⟩
 refine v_set0 (c6.obj (by simp) hb3) (by simp) fun w7 hb7 c7 s7 => ?_
 have hmne : m ≠ b2 := by have := c03.size; omega
 exact ⟨m, L, hb7, ⟨hA.map.chg c7 (by simp; omega), hA.look, hA.may⟩, (c03.trans0 c6).trans c7 (fun i hi hlt => by simp at hi; omega), by have := c03.size; omega⟩
end Go.Proofs.YtfcfkhbkkfpehaaGreat
end
section
namespace Go.Proofs.YtfcfkhbkkfpehaaGreat
open Go Go.X
/- pomander/flow.Same -/
def W_flow_Same (a1 : Option Addr) (b1 : Option Addr) (w : World) (R : Bool → World → Prop) : Prop :=
 Calls Tryz.prog 43 #[.pointer a1] w fun e w1 => ∃ (r2 : Bool), e = .returned (.bool r2) ∧ (∃ J1 : Bool → World → Prop, (∀ (b2 : Bool) (w2 : World), J1 b2 w2 → (b2 = true → Calls Tryz.prog 43 #[.pointer a1] w2 fun e w4 => ∃ (r4 : Bool), e = .returned (.bool r4) ∧ (∃ J2 : Bool → World → Prop, (∀ (b3 : Bool) (w5 : World), J2 b3 w5 → R b3 w5) ∧ ((r4 = true → Calls Tryz.prog 43 #[.pointer b1] w4 fun e w6 => ∃ (r5 : Bool), e = .returned (.bool r5) ∧ (J2 r5 w6)) ∧ (r4 = false → J2 false w4)))) ∧ (b2 = false → ∀ (w7 : World), Chg [] w2 w7 → (∃ a2 : Addr, a1 = some a2 ∧ (∃ (t1 : Int) (t2 : Int), CellsAt w7 a2 0 [.int .i64 t1, .int .i64 t2] ∧ (∃ a3 : Addr, b1 = some a3 ∧ (∃ (t3 : Int) (t4 : Int), CellsAt w7 a3 0 [.int .i64 t3, .int .i64 t4] ∧ (∃ (t5 : Option Addr), w7.cell? (a2.add 2) = some (.pointer t5) ∧ (∃ (t6 : Option Addr), w7.cell? (a3.add 2) = some (.pointer t6) ∧ (∃ J3 : Bool → World → Prop, (∀ (b4 : Bool) (w8 : World), J3 b4 w8 → ∃ J4 : Bool → World → Prop, (∀ (b5 : Bool) (w10 : World), J4 b5 w10 → R b5 w10) ∧ ((b4 = true → Calls Tryz.prog 55 #[.pointer a1] w8 fun e w11 => ∃ (r7 : Option Nat), e = .returned (.map r7) ∧ ((CellsAt w11 a2 0 [.int .i64 t1, .int .i64 t2] ∧ CellsAt w11 a3 0 [.int .i64 t3, .int .i64 t4] ∧ w11.cell? (a2.add 2) = some (.pointer t5) ∧ w11.cell? (a3.add 2) = some (.pointer t6)) ∧ (Calls Tryz.prog 55 #[.pointer b1] w11 fun e w12 => ∃ (r8 : Option Nat), e = .returned (.map r8) ∧ ((CellsAt w12 a2 0 [.int .i64 t1, .int .i64 t2] ∧ CellsAt w12 a3 0 [.int .i64 t3, .int .i64 t4] ∧ w12.cell? (a2.add 2) = some (.pointer t5) ∧ w12.cell? (a3.add 2) = some (.pointer t6)) ∧ (Calls Tryz.prog 54 #[.map r7, .map r8] w12 fun e w13 => ∃ (r9 : Bool), e = .returned (.bool r9) ∧ (J4 r9 w13)))))) ∧ (b4 = false → J4 false w8))) ∧ ((((t1 == t3) && (t2 == t4)) = true → Calls Tryz.prog 53 #[.pointer t5, .pointer t6] w7 fun e w9 => ∃ (r6 : Bool), e = .returned (.bool r6) ∧ ((CellsAt w9 a2 0 [.int .i64 t1, .int .i64 t2] ∧ CellsAt w9 a3 0 [.int .i64 t3, .int .i64 t4] ∧ w9.cell? (a2.add 2) = some (.pointer t5) ∧ w9.cell? (a3.add 2) = some (.pointer t6)) ∧ (J3 r6 w9))) ∧ (((t1 == t3) && (t2 == t4)) = false → J3 false w7))))))))))) ∧ ((r2 = false → Calls Tryz.prog 43 #[.pointer b1] w1 fun e w3 => ∃ (r3 : Bool), e = .returned (.bool r3) ∧ (J1 r3 w3)) ∧ (r2 = true → J1 true w1)))
set_option maxRecDepth 100000 in
theorem go_flow_Same (a1 : Option Addr) (b1 : Option Addr) (w : World) (R : Bool → World → Prop) (h : W_flow_Same a1 b1 w R) : Calls Tryz.prog 23 #[.pointer a1, .pointer b1] w (fun e w' => ∃ (r1 : Bool), e = .returned (.bool r1) ∧ R r1 w') := by
 unfold W_flow_Same at h
 refine enter (N := 44) Tryz.func23 rfl rfl ?_
 refine CW.seq ?_
 refine CW.region fun L hL => ?_
 refine LW.rd hL rfl (Wants.free rfl) rfl (Rd.assign (v := .bool false) rfl) ?_
 refine LW.nil hL rfl ?_
 refine NW.then ?_
 refine CW.seq ?_
 refine CW.seq ?_
 refine CW.region fun L hL => ?_
 refine LW.rd hL rfl (Wants.free rfl) rfl (Rd.move (v := .pointer a1) rfl) ?_
 refine LW.call hL rfl (Wants.free rfl) rfl (Cl.fn (f := 43) rfl Tryz.func43 (by kernel_rfl) rfl) h (fun e w1 h_ => ?_)
 clear h
 obtain ⟨r2, rfl, h⟩ := h_
 refine ⟨_, rfl, ?_⟩
 refine LW.rd hL rfl (Wants.free rfl) rfl (Rd.move (v := .bool r2) rfl) ?_
 obtain ⟨J1, hJ1, h1_J1, h0_J1⟩ := h
 suffices K1 : ∀ (b2 : Bool) (w2 : World), J1 b2 w2 → L 6 [(0, .pointer a1), (1, .pointer b1), (4, .bool false), (10, .bool b2)] w2 by
  rcases Bool.eq_false_or_eq_true r2 with hb1 | hb1
  ·have h := h0_J1 hb1
   refine LW.skip hL rfl (Skips.on rfl rfl rfl rfl rfl hb1) rfl ?_
   refine LW.skip hL rfl (Skips.on rfl rfl rfl rfl rfl hb1) rfl ?_
   refine LW.rd hL rfl (Wants.free rfl) rfl (Rd.pickT rfl hb1 rfl) ?_
   exact LW.sub hL (by exact ⟨rfl, rfl, rfl, rfl, trivial⟩) (K1 true w1 h)
  ·have h := h1_J1 hb1
   refine LW.rd hL rfl (Wants.on rfl rfl rfl rfl rfl hb1) rfl (Rd.move (v := .pointer b1) rfl) ?_
   refine LW.call hL rfl (Wants.on rfl rfl rfl rfl rfl hb1) rfl (Cl.fn (f := 43) rfl Tryz.func43 (by kernel_rfl) rfl) h (fun e w3 h_ => ?_)
   clear h
   obtain ⟨r3, rfl, h⟩ := h_
   refine ⟨_, rfl, ?_⟩
   refine LW.rd hL rfl (Wants.free rfl) rfl (Rd.pickF rfl hb1 rfl) ?_
   exact LW.sub hL (by exact ⟨rfl, rfl, rfl, rfl, trivial⟩) (K1 r3 w3 h)
 intro b2 w2 h_
 have h := hJ1 b2 w2 h_; clear h_
 refine LW.nil hL rfl ?_
 refine NW.then ?_
 refine CW.cond rfl (fun hb2 => ?_) (fun hb2 => ?_)
 ·replace h := h.1 hb2
  refine CW.seq ?_
  refine CW.region fun L hL => ?_
  refine LW.rd hL rfl (Wants.free rfl) rfl (Rd.move (v := .pointer a1) rfl) ?_
  refine LW.call hL rfl (Wants.free rfl) rfl (Cl.fn (f := 43) rfl Tryz.func43 (by kernel_rfl) rfl) h (fun e w4 h_ => ?_)
  clear h
  obtain ⟨r4, rfl, h⟩ := h_
  refine ⟨_, rfl, ?_⟩
  refine LW.rd hL rfl (Wants.free rfl) rfl (Rd.move (v := .bool r4) rfl) ?_
  obtain ⟨J2, hJ2, h1_J2, h0_J2⟩ := h
  suffices K2 : ∀ (b3 : Bool) (w5 : World), J2 b3 w5 → L 6 [(0, .pointer a1), (1, .pointer b1), (4, .bool false), (16, .bool b3)] w5 by
   rcases Bool.eq_false_or_eq_true r4 with hb3 | hb3
   ·have h := h1_J2 hb3
    refine LW.rd hL rfl (Wants.on rfl rfl rfl rfl rfl hb3) rfl (Rd.move (v := .pointer b1) rfl) ?_
    refine LW.call hL rfl (Wants.on rfl rfl rfl rfl rfl hb3) rfl (Cl.fn (f := 43) rfl Tryz.func43 (by kernel_rfl) rfl) h (fun e w6 h_ => ?_)
    clear h
    obtain ⟨r5, rfl, h⟩ := h_
    refine ⟨_, rfl, ?_⟩
    refine LW.rd hL rfl (Wants.free rfl) rfl (Rd.pickT rfl hb3 rfl) ?_
    exact LW.sub hL (by exact ⟨rfl, rfl, rfl, rfl, trivial⟩) (K2 r5 w6 h)
   ·have h := h0_J2 hb3
    refine LW.skip hL rfl (Skips.on rfl rfl rfl rfl rfl hb3) rfl ?_
    refine LW.skip hL rfl (Skips.on rfl rfl rfl rfl rfl hb3) rfl ?_
    refine LW.rd hL rfl (Wants.free rfl) rfl (Rd.pickF rfl hb3 rfl) ?_
    exact LW.sub hL (by exact ⟨rfl, rfl, rfl, rfl, trivial⟩) (K2 false w4 h)
  intro b3 w5 h_
  have h := hJ2 b3 w5 h_; clear h_
  refine LW.rd hL rfl (Wants.free rfl) rfl (Rd.assign (v := .bool b3) rfl) ?_
  refine LW.nil hL rfl ?_
  refine NW.then ?_
  refine CW.ret ?_
  refine RW.then ?_
  exact res1 rfl rfl ⟨b3, rfl, h⟩
 ·replace h := h.2 hb2
  refine CW.skip ?_
  refine NW.then ?_
  refine CW.seq ?_
  obtain ⟨w7, hw_w7⟩ : ∃ x, x = World.drew w2 := ⟨_, rfl⟩
  have hc_w7 := sil_drew (Chg.refl [] w2) hw_w7
  replace h := h  w7  hc_w7
  obtain ⟨a2, ha1, h⟩ := h
  obtain ⟨t1, t2, hc1, h⟩ := h
  obtain ⟨a3, ha2, h⟩ := h
  obtain ⟨t3, t4, hc2, h⟩ := h
  obtain ⟨t5, hc3, h⟩ := h
  obtain ⟨t6, hc4, h⟩ := h
  refine CW.drawn (fun w => CellsAt w a2 0 [.int .i64 t1, .int .i64 t2] ∧ CellsAt w a3 0 [.int .i64 t3, .int .i64 t4] ∧ w.cell? (a2.add 2) = some (.pointer t5) ∧ w.cell? (a3.add 2) = some (.pointer t6) ∧ True) 25 (by kernel_rfl) fun H hH => ?_
  rw [← hw_w7]
  have hS1 : CellsAt w7 a2 0 [.int .i64 t1, .int .i64 t2] ∧ CellsAt w7 a3 0 [.int .i64 t3, .int .i64 t4] ∧ w7.cell? (a2.add 2) = some (.pointer t5) ∧ w7.cell? (a3.add 2) = some (.pointer t6) ∧ True := ⟨hc1, hc2, hc3, hc4, trivial⟩
  refine HW.pure (i := 0) hH rfl (by kernel_rfl) (Wants.free rfl) rfl (fun _ => hS1) (Rd.move (v := .pointer a1) rfl) ?_
  refine HW.pure (i := 1) hH rfl (by kernel_rfl) (Wants.free rfl) rfl (fun _ => hS1) (Rd.nil (q := a2) (by rw [← ha1]; rfl)) ?_
  refine HW.pure (i := 2) hH rfl (by kernel_rfl) (Wants.free rfl) rfl (fun _ => hS1) (Rd.fa (v := .pointer (some a2)) rfl (fun _ => by kernel_rfl)) ?_
  refine HW.take (i := 3) hH rfl (by kernel_rfl) (by kernel_rfl) (Wants.free rfl) rfl (fun _ => hS1) (Rd.ldN (cs := [.int .i64 t1, .int .i64 t2]) rfl (by kernel_rfl) (by kernel_rfl) (fun w h => cellsAt_get h.1)) ?_
  refine HW.pure (i := 4) hH rfl (by kernel_rfl) (Wants.free rfl) rfl (fun _ => hS1) (Rd.move (v := .pointer b1) rfl) ?_
  refine HW.pure (i := 5) hH rfl (by kernel_rfl) (Wants.free rfl) rfl (fun _ => hS1) (Rd.nil (q := a3) (by rw [← ha2]; rfl)) ?_
  refine HW.pure (i := 6) hH rfl (by kernel_rfl) (Wants.free rfl) rfl (fun _ => hS1) (Rd.fa (v := .pointer (some a3)) rfl (fun _ => by kernel_rfl)) ?_
  refine HW.take (i := 7) hH rfl (by kernel_rfl) (by kernel_rfl) (Wants.free rfl) rfl (fun _ => hS1) (Rd.ldN (cs := [.int .i64 t3, .int .i64 t4]) rfl (by kernel_rfl) (by kernel_rfl) (fun w h => cellsAt_get h.2.1)) ?_
  refine HW.pure (i := 8) hH rfl (by kernel_rfl) (Wants.free rfl) rfl (fun _ => hS1) (Rd.bin (v := .bool ((t1 == t3) && (t2 == t4))) rfl rfl (fun w => eqS_37 _ _ _ _ w)) ?_
  refine HW.pure (i := 9) hH rfl (by kernel_rfl) (Wants.free rfl) rfl (fun _ => hS1) (Rd.move (v := .bool ((t1 == t3) && (t2 == t4))) rfl) ?_
  obtain ⟨J3, hJ3, h1_J3, h0_J3⟩ := h
  suffices K3 : ∀ (b4 : Bool) (w8 : World), (CellsAt w8 a2 0 [.int .i64 t1, .int .i64 t2] ∧ CellsAt w8 a3 0 [.int .i64 t3, .int .i64 t4] ∧ w8.cell? (a2.add 2) = some (.pointer t5) ∧ w8.cell? (a3.add 2) = some (.pointer t6) ∧ True) → J3 b4 w8 → H 8 #[true, true, true, true, true, true, true, true, true, true, true, true, true, true, true, true, true, true, true, true, false, false, false, false, false, false, false, false] [(0, .pointer a1), (1, .pointer b1), (4, .bool false), (36, .bool b4)] w8 by
   rcases Bool.eq_false_or_eq_true ((t1 == t3) && (t2 == t4)) with hb4 | hb4
   ·have h := h1_J3 hb4
    refine HW.pure (i := 10) hH rfl (by kernel_rfl) (Wants.on rfl rfl rfl rfl rfl hb4) rfl (fun _ => hS1) (Rd.move (v := .pointer a1) rfl) ?_
    refine HW.pure (i := 11) hH rfl (by kernel_rfl) (Wants.on rfl rfl rfl rfl rfl hb4) rfl (fun _ => hS1) (Rd.nil (q := a2) (by rw [← ha1]; rfl)) ?_
    refine HW.pure (i := 12) hH rfl (by kernel_rfl) (Wants.on rfl rfl rfl rfl rfl hb4) rfl (fun _ => hS1) (Rd.fa (v := .pointer (some (a2.add 2))) rfl (fun _ => by kernel_rfl)) ?_
    refine HW.take (i := 13) hH rfl (by kernel_rfl) (by kernel_rfl) (Wants.on rfl rfl rfl rfl rfl hb4) rfl (fun _ => hS1) (Rd.ld (v := .pointer t5) rfl (by kernel_rfl) (fun w h => h.2.2.1)) ?_
    refine HW.pure (i := 14) hH rfl (by kernel_rfl) (Wants.on rfl rfl rfl rfl rfl hb4) rfl (fun _ => hS1) (Rd.move (v := .pointer b1) rfl) ?_
    refine HW.pure (i := 15) hH rfl (by kernel_rfl) (Wants.on rfl rfl rfl rfl rfl hb4) rfl (fun _ => hS1) (Rd.nil (q := a3) (by rw [← ha2]; rfl)) ?_
    refine HW.pure (i := 16) hH rfl (by kernel_rfl) (Wants.on rfl rfl rfl rfl rfl hb4) rfl (fun _ => hS1) (Rd.fa (v := .pointer (some (a3.add 2))) rfl (fun _ => by kernel_rfl)) ?_
    refine HW.take (i := 17) hH rfl (by kernel_rfl) (by kernel_rfl) (Wants.on rfl rfl rfl rfl rfl hb4) rfl (fun _ => hS1) (Rd.ld (v := .pointer t6) rfl (by kernel_rfl) (fun w h => h.2.2.2.1)) ?_
    refine HW.call (i := 18) hH (by kernel_rfl) rfl (Wants.on rfl rfl rfl rfl rfl hb4) rfl (Cl.fn (f := 53) rfl Tryz.func53 (by kernel_rfl) rfl) h (fun e w9 h_ => ?_)
    clear h
    obtain ⟨r6, rfl, hS2, h⟩ := h_
    have hS3 := (⟨hS2.1, hS2.2.1, hS2.2.2.1, hS2.2.2.2, trivial⟩ : CellsAt w9 a2 0 [.int .i64 t1, .int .i64 t2] ∧ CellsAt w9 a3 0 [.int .i64 t3, .int .i64 t4] ∧ w9.cell? (a2.add 2) = some (.pointer t5) ∧ w9.cell? (a3.add 2) = some (.pointer t6) ∧ True)
    refine ⟨_, rfl, (fun _ => hS3), ?_⟩
    refine HW.pure (i := 19) hH rfl (by kernel_rfl) (Wants.free rfl) rfl (fun _ => hS3) (Rd.pickT rfl hb4 rfl) ?_
    exact HW.sub hH (by exact ⟨rfl, rfl, rfl, rfl, trivial⟩) (K3 r6 w9 hS3 h)
   ·have h := h0_J3 hb4
    refine HW.skip (i := 10) hH rfl (by kernel_rfl) (Skips.on rfl rfl rfl rfl rfl hb4) rfl (fun _ => hS1) ?_
    refine HW.skip (i := 11) hH rfl (by kernel_rfl) (Skips.on rfl rfl rfl rfl rfl hb4) rfl (fun _ => hS1) ?_
    refine HW.skip (i := 12) hH rfl (by kernel_rfl) (Skips.on rfl rfl rfl rfl rfl hb4) rfl (fun _ => hS1) ?_
    refine HW.skip (i := 13) hH rfl (by kernel_rfl) (Skips.on rfl rfl rfl rfl rfl hb4) rfl (fun _ => hS1) ?_
    refine HW.skip (i := 14) hH rfl (by kernel_rfl) (Skips.on rfl rfl rfl rfl rfl hb4) rfl (fun _ => hS1) ?_
    refine HW.skip (i := 15) hH rfl (by kernel_rfl) (Skips.on rfl rfl rfl rfl rfl hb4) rfl (fun _ => hS1) ?_
    refine HW.skip (i := 16) hH rfl (by kernel_rfl) (Skips.on rfl rfl rfl rfl rfl hb4) rfl (fun _ => hS1) ?_
    refine HW.skip (i := 17) hH rfl (by kernel_rfl) (Skips.on rfl rfl rfl rfl rfl hb4) rfl (fun _ => hS1) ?_
    refine HW.skip (i := 18) hH rfl (by kernel_rfl) (Skips.on rfl rfl rfl rfl rfl hb4) rfl (fun _ => hS1) ?_
    refine HW.pure (i := 19) hH rfl (by kernel_rfl) (Wants.free rfl) rfl (fun _ => hS1) (Rd.pickF rfl hb4 rfl) ?_
    exact HW.sub hH (by exact ⟨rfl, rfl, rfl, rfl, trivial⟩) (K3 false w7 hS1 h)
  intro b4 w8 hS4 h_
  have h := hJ3 b4 w8 h_; clear h_
  refine HW.pure (i := 20) hH rfl (by kernel_rfl) (Wants.free rfl) rfl (fun _ => hS4) (Rd.move (v := .bool b4) rfl) ?_
  obtain ⟨J4, hJ4, h1_J4, h0_J4⟩ := h
  suffices K4 : ∀ (b5 : Bool) (w10 : World), J4 b5 w10 → H 1 #[true, true, true, true, true, true, true, true, true, true, true, true, true, true, true, true, true, true, true, true, true, true, true, true, true, true, true, false] [(4, .bool false), (43, .bool b5)] w10 by
   rcases Bool.eq_false_or_eq_true b4 with hb5 | hb5
   ·have h := h1_J4 hb5
    refine HW.pure (i := 21) hH rfl (by kernel_rfl) (Wants.on rfl rfl rfl rfl rfl hb5) rfl (fun _ => hS4) (Rd.move (v := .pointer a1) rfl) ?_
    refine HW.pure (i := 23) hH rfl (by kernel_rfl) (Wants.on rfl rfl rfl rfl rfl hb5) rfl (fun _ => hS4) (Rd.move (v := .pointer b1) rfl) ?_
    refine HW.call (i := 22) hH (by kernel_rfl) rfl (Wants.on rfl rfl rfl rfl rfl hb5) rfl (Cl.fn (f := 55) rfl Tryz.func55 (by kernel_rfl) rfl) h (fun e w11 h_ => ?_)
    clear h
    obtain ⟨r7, rfl, hS5, h⟩ := h_
    have hS6 := (⟨hS5.1, hS5.2.1, hS5.2.2.1, hS5.2.2.2, trivial⟩ : CellsAt w11 a2 0 [.int .i64 t1, .int .i64 t2] ∧ CellsAt w11 a3 0 [.int .i64 t3, .int .i64 t4] ∧ w11.cell? (a2.add 2) = some (.pointer t5) ∧ w11.cell? (a3.add 2) = some (.pointer t6) ∧ True)
    refine ⟨_, rfl, (fun _ => hS6), ?_⟩
    refine HW.call (i := 24) hH (by kernel_rfl) rfl (Wants.on rfl rfl rfl rfl rfl hb5) rfl (Cl.fn (f := 55) rfl Tryz.func55 (by kernel_rfl) rfl) h (fun e w12 h_ => ?_)
    clear h
    obtain ⟨r8, rfl, hS7, h⟩ := h_
    have hS8 := (⟨hS7.1, hS7.2.1, hS7.2.2.1, hS7.2.2.2, trivial⟩ : CellsAt w12 a2 0 [.int .i64 t1, .int .i64 t2] ∧ CellsAt w12 a3 0 [.int .i64 t3, .int .i64 t4] ∧ w12.cell? (a2.add 2) = some (.pointer t5) ∧ w12.cell? (a3.add 2) = some (.pointer t6) ∧ True)
    refine ⟨_, rfl, (fun _ => hS8), ?_⟩
    refine HW.call (i := 25) hH (by kernel_rfl) rfl (Wants.on rfl rfl rfl rfl rfl hb5) rfl (Cl.fn (f := 54) rfl Tryz.func54 (by kernel_rfl) rfl) h (fun e w13 h_ => ?_)
    clear h
    obtain ⟨r9, rfl, h⟩ := h_
    refine ⟨_, rfl, (fun hc => by cases hc), ?_⟩
    refine HW.pure (i := 26) hH rfl (by kernel_rfl) (Wants.free rfl) rfl (fun hc => by cases hc) (Rd.pickT rfl hb5 rfl) ?_
    exact HW.sub hH (by exact ⟨rfl, rfl, trivial⟩) (K4 r9 w13 h)
   ·have h := h0_J4 hb5
    refine HW.skip (i := 21) hH rfl (by kernel_rfl) (Skips.on rfl rfl rfl rfl rfl hb5) rfl (fun _ => hS4) ?_
    refine HW.skip (i := 22) hH rfl (by kernel_rfl) (Skips.on rfl rfl rfl rfl rfl hb5) rfl (fun _ => hS4) ?_
    refine HW.skip (i := 23) hH rfl (by kernel_rfl) (Skips.on rfl rfl rfl rfl rfl hb5) rfl (fun _ => hS4) ?_
    refine HW.skip (i := 24) hH rfl (by kernel_rfl) (Skips.on rfl rfl rfl rfl rfl hb5) rfl (fun _ => hS4) ?_
    refine HW.skip1 (i := 25) hH (by kernel_rfl) rfl (Skips.on rfl rfl rfl rfl rfl hb5) rfl (fun hc => by cases hc) ?_
    refine HW.pure (i := 26) hH rfl (by kernel_rfl) (Wants.free rfl) rfl (fun hc => by cases hc) (Rd.pickF rfl hb5 rfl) ?_
    exact HW.sub hH (by exact ⟨rfl, rfl, trivial⟩) (K4 false w8 h)
  intro b5 w10 h_
  have h := hJ4 b5 w10 h_; clear h_
  refine HW.pure (i := 27) hH rfl (by kernel_rfl) (Wants.free rfl) rfl (fun hc => by cases hc) (Rd.assign (v := .bool b5) rfl) ?_
  refine HW.done hH (by kernel_rfl) ?_
  refine NW.then ?_
  refine CW.ret ?_
  exact res1 rfl rfl ⟨b5, rfl, h⟩
/- pomander/pomanderlaw12.FlowFull -/
def W_pomanderlaw12_FlowFull (most1 : Int) (l1 : Option Addr) (l1n : Nat) (l1c : Nat) (w : World) (R : Bool → World → Prop) : Prop :=
 ∀ (b1 : Nat) (w1 : World), (w.heap.size ≤ b1 ∧ b1 < w1.heap.size) → Chg [] w w1 → (Calls Tryz.prog 24 #[.slice l1 l1n l1c] w1 fun e w2 => ∃ (r2 : Bool), e = .returned (.bool r2) ∧ (Same w1 w2 [b1] ∧ ((((r2 || decide (most1 < 1)) || decide (most1 > 40)) = true → Calls Tryz.prog 25 #[] w2 fun e w3 => ∃ (r3 : Bool), e = .returned (.bool r3) ∧ (Same w2 w3 [b1] ∧ (∀ (w4 : World), Chg [b1] w3 w4 → (R r3 w4)))) ∧ (((r2 || decide (most1 < 1)) || decide (most1 > 40)) = false → ∀ (b2 : Nat) (w6 : World), (w2.heap.size ≤ b2 ∧ b2 < w6.heap.size) → Chg [] w2 w6 → (Calls Tryz.prog 26 #[.agg #[.int .i64 2, .int .i64 2], .int .i64 most1] w6 fun e w7 => ∃ (r4 : Option Addr) (r5 : Int), e = .returned (.tuple #[.pointer r4, .int .i64 r5]) ∧ (Same w6 w7 [b1] ∧ (∃ (I1 : Int → (List Nat) → World → Prop) (m1 : Int → (List Nat) → World → Nat), I1 0 ([]) w7 ∧ ∀ (i1 : Int) (ms1 : List Nat) (w8 : World), I1 i1 ms1 w8 → ((decide (i1 < (l1n : Int))) = true → Calls Tryz.prog 15 #[.pointer r4] w8 fun e w9 => ∃ (r6 : Option Addr), e = .returned (.pointer r6) ∧ (Same w8 w9 ([b1] ++ ms1) ∧ (∀ (b3 : Nat) (w11 : World), (w9.heap.size ≤ b3 ∧ b3 < w11.heap.size) → Chg [] w9 w11 → (∃ J1 : Int → World → Prop, (∀ (ev1 : Int) (w12 : World), J1 ev1 w12 → Calls Tryz.prog 33 #[.pointer r4] w12 fun e w13 => ∃ (r7 : Option Addr) (r7n : Nat) (r7c : Nat), e = .returned (.slice r7 r7n r7c) ∧ (Same w12 w13 ([b1, b3] ++ ms1) ∧ (∃ J2 : Bool → World → Prop, (∀ (b4 : Bool) (w14 : World), J2 b4 w14 → ∃ J4 : Bool → World → Prop, (∀ (b6 : Bool) (w17 : World), J4 b6 w17 → (b6 = true → ∀ (w20 : World), Chg [b1] w17 w20 → (∀ w21 : World, Chg ms1 w20 w21 → (R false w21))) ∧ (b6 = false → ∃ J6 : (List Nat) → World → Prop, (∀ (ms2 : List Nat) (w22 : World), J6 ms2 w22 → Calls Tryz.prog 36 #[.pointer r4] w22 fun e w23 => ∃ (r10 : Int) (r11 : Int), e = .returned (.tuple #[.int .i64 r10, .int .i64 r11]) ∧ (Same w22 w23 ([b1] ++ ms2) ∧ (Calls Tryz.prog 37 #[.pointer r4, .int .i64 10] w23 fun e w24 => ∃ (r12 : Int), e = .returned (.int .i64 r12) ∧ (Same w23 w24 ([b1] ++ ms2) ∧ (∃ J7 : Bool → World → Prop, (∀ (b8 : Bool) (w25 : World), J7 b8 w25 → (b8 = true → ∀ (w27 : World), Chg [b1] w25 w27 → (∀ w28 : World, Chg ms2 w27 w28 → (R false w28))) ∧ (b8 = false → (I1 (IntKind.wrap .i64 (i1 + 1)) ms2 w25 ∧ m1 (IntKind.wrap .i64 (i1 + 1)) ms2 w25 < m1 i1 ms1 w8))) ∧ (((!(r10 == r12)) = false → Calls Tryz.prog 37 #[.pointer r4, .int .i64 12] w24 fun e w26 => ∃ (r13 : Int), e = .returned (.int .i64 r13) ∧ (Same w24 w26 ([b1] ++ ms2) ∧ (J7 (!(r11 == r13)) w26))) ∧ ((!(r10 == r12)) = true → J7 true w24))))))) ∧ (((ev1 == 120) = true → Calls Tryz.prog 34 #[.pointer r4] w17 fun e w29 => ∃ (r14 : Value), e = .returned (r14) ∧ (Same w17 w29 ([b1, b3] ++ ms1) ∧ (∃ (S1 Sp1 : List (Int × Int × Int) → Prop) (keep1 : List Nat), XR.IsFn Tryz.prog r14 ∧ XR.Iterates Tryz.prog r14 (fun x : Int × Int × Int => #[.agg #[.int .i64 x.1, .int .i64 x.2.1], .int .u32 x.2.2]) S1 Sp1 keep1 w29 ∧ (∀ i_ ∈ keep1, i_ < w29.heap.size) ∧ ∃ (I2 : List Nat → List (Int × Int × Int) → World → Prop) (X1 : Bool → List Nat → List (Int × Int × Int) → World → Prop), (∀ (pre_ : List (Int × Int × Int)), XR.Stab w29 (fun O_ w_ => I2 O_ pre_ w_)) ∧ (∀ (c1 : Bool) (pre_ : List (Int × Int × Int)), XR.Stab w29 (fun O_ w_ => X1 c1 O_ pre_ w_)) ∧ (∀ (O1 : List Nat) (w30 : World), Chg [] w29 w30 → XR.InO w29 O1 w30 → I2 O1 ([]) w30) ∧ (∀ (l2 : Nat) (O1 : List Nat) (pre1 : List (Int × Int × Int)) (x1 : Int) (x2 : Int) (x3 : Int) (w30 : World), XR.InO w29 O1 w30 → l2 ∈ O1 → Sp1 (pre1 ++ [(x1, x2, x3)]) → I2 O1 pre1 w30 → (∀ (b9 : Nat) (w33 : World), (w30.heap.size ≤ b9 ∧ b9 < w33.heap.size) → Chg [l2] w30 w33 → (Calls Tryz.prog 35 #[.pointer r6, .agg #[.int .i64 x1, .int .i64 x2]] w33 fun e w34 => ∃ (r15 : Int) (r16 : Int), e = .returned (.tuple #[.int .u32 r15, .int .i64 r16]) ∧ (Same w33 w34 ([b9, b1, b3] ++ ms1) ∧ (((!(r16 == 0) || !(r15 == x3)) = true → ∀ (w35 : World), Chg [b1] w34 w35 → ((w33.heap.size ≤ w35.heap.size ∧ X1 false O1 (pre1 ++ [(x1, x2, x3)]) w35 ∧ Same w33 w35 (keep1 ++ O1)))) ∧ ((!(r16 == 0) || !(r15 == x3)) = false → (w33.heap.size ≤ w34.heap.size ∧ I2 O1 (pre1 ++ [(x1, x2, x3)]) w34 ∧ Same w33 w34 (keep1 ++ O1)))))))) ∧ (∀ (d1 : Nat) (O2 : List Nat) (xs1 : List (Int × Int × Int)) (w36 : World), XR.InO w29 O2 w36 → d1 ∈ O2 → S1 xs1 → I2 O2 xs1 w36 → (J6 (d1 :: ms1) w36)) ∧ (∀ (d2 : Nat) (O3 : List Nat) (xs2 : List (Int × Int × Int)) (c1 : Bool) (w37 : World), XR.InO w29 O3 w37 → d2 ∈ O3 → Sp1 xs2 → X1 c1 O3 xs2 w37 → (∀ w38 : World, Chg (d2 :: ms1) w37 w38 → (R c1 w38)))))) ∧ ((ev1 == 120) = false → J6 ms1 w17)))) ∧ ((b4 = false → ∃ J5 : Bool → World → Prop, (∀ (b7 : Bool) (w18 : World), J5 b7 w18 → J4 b7 w18) ∧ (((!(ev1 == 0) && !(ev1 == 120)) = true → Calls Tryz.prog 23 #[.pointer r4, .pointer r6] w14 fun e w19 => ∃ (r9 : Bool), e = .returned (.bool r9) ∧ (Same w14 w19 ([b1, b3] ++ ms1) ∧ (J5 (!r9) w19))) ∧ ((!(ev1 == 0) && !(ev1 == 120)) = false → J5 false w14))) ∧ (b4 = true → J4 true w14))) ∧ (((decide ((r7n : Int) > most1)) = false → ∃ J3 : Bool → World → Prop, (∀ (b5 : Bool) (w15 : World), J3 b5 w15 → J2 b5 w15) ∧ (((ev1 == 120) = true → Calls Tryz.prog 33 #[.pointer r4] w13 fun e w16 => ∃ (r8 : Option Addr) (r8n : Nat) (r8c : Nat), e = .returned (.slice r8 r8n r8c) ∧ (Same w13 w16 ([b1, b3] ++ ms1) ∧ (J3 (!((r8n : Int) == most1)) w16))) ∧ ((ev1 == 120) = false → J3 false w13))) ∧ ((decide ((r7n : Int) > most1)) = true → J2 true w13))))) ∧ (∃ a1 : Addr, l1 = some a1 ∧ (0 : Int) ≤ i1 ∧ i1 < (l1n : Int) ∧ (∃ (t1 : Int), w11.cell? (a1.add (Int.toNat i1 * 6)) = some (.int .i64 t1) ∧ (((t1 == 1) = true → ∀ (w39 : World), Chg [] w11 w39 → (∃ (t2 : Int) (t3 : Int), CellsAt w39 ((a1.add (Int.toNat i1 * 6)).add 2) 0 [.int .i64 t2, .int .i64 t3] ∧ (∃ (t4 : Int), w39.cell? ((a1.add (Int.toNat i1 * 6)).add 1) = some (.int .i64 t4) ∧ (∃ (t5 : Int), w39.cell? ((a1.add (Int.toNat i1 * 6)).add 4) = some (.int .u32 t5) ∧ (Calls Tryz.prog 31 #[.pointer r4, .agg #[.int .i64 t2, .int .i64 t3], .int .i64 t4, .int .u32 t5] w39 fun e w40 => ∃ (r17 : Int), e = .returned (.int .i64 r17) ∧ (Same w39 w40 ([b3, b1] ++ ms1) ∧ (J1 r17 w40))))))) ∧ ((t1 == 1) = false → ∃ (t6 : Option Addr) (t6n : Nat) (t6c : Nat), w11.cell? ((a1.add (Int.toNat i1 * 6)).add 5) = some (.slice t6 t6n t6c) ∧ (Calls Tryz.prog 32 #[.pointer r4, .slice t6 t6n t6c] w11 fun e w41 => ∃ (r18 : Int), e = .returned (.int .i64 r18) ∧ (Same w11 w41 ([b3, b1] ++ ms1) ∧ (J1 r18 w41))))))))))) ∧ ((decide (i1 < (l1n : Int))) = false → Calls Tryz.prog 25 #[] w8 fun e w42 => ∃ (r19 : Bool), e = .returned (.bool r19) ∧ (Same w8 w42 ([b1] ++ ms1) ∧ (∀ (w43 : World), Chg [b1] w42 w43 → (∀ w44 : World, Chg ms1 w43 w44 → (R r19 w44))))))))))))
set_option maxRecDepth 100000 in
theorem go_pomanderlaw12_FlowFull (most1 : Int) (l1 : Option Addr) (l1n : Nat) (l1c : Nat) (w : World) (R : Bool → World → Prop) (h : W_pomanderlaw12_FlowFull most1 l1 l1n l1c w R) : Calls Tryz.prog 7 #[.int .i64 most1, .slice l1 l1n l1c] w (fun e w' => ∃ (r1 : Bool), e = .returned (.bool r1) ∧ R r1 w') := by
 unfold W_pomanderlaw12_FlowFull at h
 refine XR.enterM (N := 138) Tryz.func7 rfl rfl ?_
 refine CW.seq ?_
 refine CW.region fun L hL => ?_
 obtain ⟨b1, hb_b1⟩ : ∃ b1, b1 = World.size w := ⟨_, rfl⟩
 obtain ⟨w1, hw_w1⟩ : ∃ w1, w1 = World.alloc w (.cells #[.bool false] 4) := ⟨_, rfl⟩
 refine LW.val hL rfl (Wants.free rfl) rfl (boxE hb_b1 hw_w1 (Vl.alloc (z := .bool false) (by kernel_rfl))) ?_
 have hB := Boxes.alloc (cs := [.bool false]) (T := 4) (Boxes.nil w) hb_b1 hw_w1
 have hlo_b1 := sil_lo (Chg.refl [] w) hb_b1
 have hc_w1 := sil_alloc (Chg.refl [] w) hw_w1
 refine LW.nil hL rfl ?_
 refine NW.then ?_
 refine CW.seq ?_
 refine CW.seq ?_
 refine CW.region fun L hL => ?_
 refine LW.rd hL rfl (Wants.free rfl) rfl (Rd.move (v := .slice l1 l1n l1c) rfl) ?_
 replace h := h b1 w1 ⟨hlo_b1, lt_of_heap (hB.at (i := 0) rfl)⟩ hc_w1
 refine LW.call hL rfl (Wants.free rfl) rfl (Cl.fn (f := 24) rfl Tryz.func24 (by kernel_rfl) rfl) h (fun e w2 h_ => ?_)
 clear h
 obtain ⟨r2, rfl, h⟩ := h_
 obtain ⟨hsm1, h⟩ := h
 replace hB := Boxes.sameS hB hsm1 (by simp)
 refine ⟨_, rfl, ?_⟩
 refine LW.rd hL rfl (Wants.free rfl) rfl (Rd.move (v := .bool r2) rfl) ?_
 suffices K1 : L 6 [(0, .int .i64 most1), (1, .slice l1 l1n l1c), (4, .pointer (some (⟨b1, 0, none⟩ : Addr))), (22, .bool (r2 || decide (most1 < 1)))] w2 by
  rcases Bool.eq_false_or_eq_true r2 with hb2 | hb2
  ·skip
   refine LW.skip hL rfl (Skips.on rfl rfl rfl rfl rfl hb2) rfl ?_
   refine LW.skip hL rfl (Skips.on rfl rfl rfl rfl rfl hb2) rfl ?_
   refine LW.rd hL rfl (Wants.free rfl) rfl (Rd.pickT rfl hb2 rfl) ?_
   exact LW.sub hL (by exact ⟨rfl, rfl, rfl, (by rw [hb2]; rfl), trivial⟩) K1
  ·skip
   refine LW.rd hL rfl (Wants.on rfl rfl rfl rfl rfl hb2) rfl (Rd.move (v := .int .i64 most1) rfl) ?_
   refine LW.rd hL rfl (Wants.on rfl rfl rfl rfl rfl hb2) rfl (Rd.bin (v := .bool (decide (most1 < 1))) rfl rfl (fun w => by kernel_rfl)) ?_
   refine LW.rd hL rfl (Wants.free rfl) rfl (Rd.pickF rfl hb2 rfl) ?_
   exact LW.sub hL (by exact ⟨rfl, rfl, rfl, (by rw [hb2]; rfl), trivial⟩) K1
 refine LW.rd hL rfl (Wants.free rfl) rfl (Rd.move (v := .bool (r2 || decide (most1 < 1))) rfl) ?_
 suffices K2 : L 10 [(0, .int .i64 most1), (1, .slice l1 l1n l1c), (4, .pointer (some (⟨b1, 0, none⟩ : Addr))), (26, .bool ((r2 || decide (most1 < 1)) || decide (most1 > 40)))] w2 by
  rcases Bool.eq_false_or_eq_true (r2 || decide (most1 < 1)) with hb4 | hb4
  ·skip
   refine LW.skip hL rfl (Skips.on rfl rfl rfl rfl rfl hb4) rfl ?_
   refine LW.skip hL rfl (Skips.on rfl rfl rfl rfl rfl hb4) rfl ?_
   refine LW.rd hL rfl (Wants.free rfl) rfl (Rd.pickT rfl hb4 rfl) ?_
   exact LW.sub hL (by exact ⟨rfl, rfl, rfl, (by rw [hb4]; rfl), trivial⟩) K2
  ·skip
   refine LW.rd hL rfl (Wants.on rfl rfl rfl rfl rfl hb4) rfl (Rd.move (v := .int .i64 most1) rfl) ?_
   refine LW.rd hL rfl (Wants.on rfl rfl rfl rfl rfl hb4) rfl (Rd.bin (v := .bool (decide (most1 > 40))) rfl rfl (fun w => by kernel_rfl)) ?_
   refine LW.rd hL rfl (Wants.free rfl) rfl (Rd.pickF rfl hb4 rfl) ?_
   exact LW.sub hL (by exact ⟨rfl, rfl, rfl, (by rw [hb4]; rfl), trivial⟩) K2
 refine LW.nil hL rfl ?_
 refine NW.then ?_
 refine CW.cond rfl (fun hb5 => ?_) (fun hb5 => ?_)
 ·replace h := h.1 hb5
  refine CW.seq ?_
  refine CW.region fun L hL => ?_
  refine LW.call hL rfl (Wants.free rfl) rfl (Cl.fn (f := 25) rfl Tryz.func25 (by kernel_rfl) rfl) h (fun e w3 h_ => ?_)
  clear h
  obtain ⟨r3, rfl, h⟩ := h_
  obtain ⟨hsm2, h⟩ := h
  replace hB := Boxes.sameS hB hsm2 (by simp)
  refine ⟨_, rfl, ?_⟩
  obtain ⟨w4, hw_w4⟩ : ∃ x, x = World.setCell w3 (⟨b1, 0, none⟩ : Addr) (.bool r3) := ⟨_, rfl⟩
  refine LW.eff hL rfl (Wants.free rfl) rfl (stE hw_w4 (Ef.st rfl rfl rfl (by kernel_rfl) (box_cell (v := .bool false) (hB.at (i := 0) rfl) rfl) (free_of (hB.at (i := 0) rfl) 0))) ?_
  replace hB : Boxes w4 [(b1, [.bool r3], 4)] := Boxes.store1  (i := 0) (o := 0) hB rfl rfl rfl rfl hw_w4
  have hc_w4 : Chg [b1] w3 w4 := sil_more (Chg.refl [] w3) (sil_c1 hw_w4)
  refine LW.nil hL rfl ?_
  refine NW.then ?_
  replace h := h  w4  hc_w4
  refine CW.ret ?_
  refine RW.then ?_
  exact XR.res0M (vs := [.bool r3]) (by exact (ResOK.c rfl (lv1 (by kernel_rfl) (box_cell (Boxes.at (i := 0) hB rfl) rfl)) ResOK.nil)) rfl ⟨r3, rfl, h⟩
 ·replace h := h.2 hb5
  refine CW.skip ?_
  refine NW.then ?_
  refine CW.seq ?_
  refine CW.region fun L hL => ?_
  refine LW.rd hL rfl (Wants.free rfl) rfl (Rd.build (v := .agg #[.int .i64 2, .int .i64 2]) rfl (fun _ => by kernel_rfl)) ?_
  obtain ⟨b2, hb_b2⟩ : ∃ b2, b2 = World.size w2 := ⟨_, rfl⟩
  obtain ⟨w5, hw_w5⟩ : ∃ w5, w5 = World.alloc w2 (.cells #[.int .i64 0, .int .i64 0] 37) := ⟨_, rfl⟩
  refine LW.val hL rfl (Wants.free rfl) rfl (boxE hb_b2 hw_w5 (Vl.alloc (z := .agg #[.int .i64 0, .int .i64 0]) (by kernel_rfl))) ?_
  replace hB := Boxes.alloc (cs := [.int .i64 0, .int .i64 0]) (T := 37) hB hb_b2 hw_w5
  have hlo_b2 := sil_lo (Chg.refl [] w2) hb_b2
  have hc_w5 := sil_alloc (Chg.refl [] w2) hw_w5
  obtain ⟨w6, hw_w6⟩ : ∃ x, x = setCells w5 (⟨b2, 0, none⟩ : Addr) 0 [.int .i64 2, .int .i64 2] := ⟨_, rfl⟩
  refine LW.eff hL rfl (Wants.free rfl) rfl (stNE hw_w6 (Ef.stN (cs := [.int .i64 2, .int .i64 2]) rfl rfl (by kernel_rfl) (List.forall_mem_cons.2 ⟨rfl, (List.forall_mem_cons.2 ⟨rfl, (List.forall_mem_nil _)⟩)⟩) (has_of (hB.at (i := 0) rfl) (by simp)) (free_of' (hB.at (i := 0) rfl)))) ?_
  replace hB : Boxes w6 [(b2, [.int .i64 2, .int .i64 2], 37), (b1, [.bool false], 4)] := Boxes.store (vs := [.int .i64 2, .int .i64 2]) (i := 0) (o := 0) hB rfl rfl rfl rfl hw_w6
  have hc_w6 := sil_new hc_w5 (sil_cN hw_w6) hlo_b2
  refine LW.nil hL rfl ?_
  refine NW.then ?_
  refine CW.seq ?_
  refine CW.region fun L hL => ?_
  refine LW.rd hL rfl (Wants.free rfl) rfl (Rd.ldN (cs := [.int .i64 2, .int .i64 2]) rfl (by kernel_rfl) (by kernel_rfl) (cellsS (box_cells (hB.at (i := 0) rfl) rfl))) ?_
  refine LW.rd hL rfl (Wants.free rfl) rfl (Rd.move (v := .int .i64 most1) rfl) ?_
  replace h := h b2 w6 ⟨hlo_b2, lt_of_heap (hB.at (i := 0) rfl)⟩ hc_w6
  refine LW.call hL rfl (Wants.free rfl) rfl (Cl.fn (f := 26) rfl Tryz.func26 (by kernel_rfl) rfl) h (fun e w7 h_ => ?_)
  clear h
  obtain ⟨r4, r5, rfl, h⟩ := h_
  obtain ⟨hsm3, h⟩ := h
  replace hB := Boxes.sameS (hB.sel [1] (by decide) rfl) hsm3 (by simp)
  refine ⟨_, rfl, ?_⟩
  refine LW.rd hL rfl (Wants.free rfl) rfl (Rd.move (v := .tuple #[.pointer r4, .int .i64 r5]) rfl) ?_
  refine LW.rd hL rfl (Wants.free rfl) rfl (Rd.extract (v := .pointer r4) rfl rfl) ?_
  refine LW.rd hL rfl (Wants.free rfl) rfl (Rd.extract (v := .int .i64 r5) rfl rfl) ?_
  refine LW.rd hL rfl (Wants.free rfl) rfl (Rd.assign (v := .pointer r4) rfl) ?_
  refine LW.rd hL rfl (Wants.free rfl) rfl (Rd.assign (v := .int .i64 r5) rfl) ?_
  refine LW.nil hL rfl ?_
  refine NW.then ?_
  refine CW.seq ?_
  refine CW.seq ?_
  refine CW.region fun L hL => ?_
  refine LW.rd hL rfl (Wants.free rfl) rfl (Rd.assign (v := .int .i64 0) rfl) ?_
  refine LW.nil hL rfl ?_
  refine NW.then ?_
  refine CW.block ?_
  obtain ⟨I1, m1, hI1, h⟩ := h
  refine CW.loopD (S := Int × (List Nat)) (fun s1 => [(0, .int .i64 most1), (1, .slice l1 l1n l1c), (4, .pointer (some (⟨b1, 0, none⟩ : Addr))), (6, .pointer r4), (8, .int .i64 s1.1)]) (fun s1 => List.map XR.mk s1.2) (fun s1 w8 => I1 s1.1 s1.2 w8 ∧ XR.Marks w8 s1.2 ∧ ∃ (u1 : Value), Boxes w8 [(b1, [u1], 4)]) (fun s1 w8 => m1 s1.1 s1.2 w8) (0, []) (by exact ⟨rfl, rfl, rfl, rfl, rfl, trivial⟩) rfl ⟨hI1, (XR.Marks.nil _), .bool false, hB⟩ (fun s1 w8 hI1 => ?_)
  obtain ⟨hI1, hK, u1, hB⟩ := hI1
  obtain ⟨i1, ms1⟩ := s1; replace h := h i1 ms1 w8 hI1
  refine CW.seq ?_
  refine CW.seq ?_
  refine CW.region fun L hL => ?_
  refine LW.rd hL rfl (Wants.free rfl) rfl (Rd.move (v := .int .i64 i1) rfl) ?_
  refine LW.rd hL rfl (Wants.free rfl) rfl (Rd.move (v := .slice l1 l1n l1c) rfl) ?_
  refine LW.rd hL rfl (Wants.free rfl) rfl (Rd.builtin (v := .int .i64 (l1n : Int)) rfl (fun _ _ => by kernel_rfl)) ?_
  refine LW.rd hL rfl (Wants.free rfl) rfl (Rd.bin (v := .bool (decide (i1 < (l1n : Int)))) rfl rfl (fun w => by kernel_rfl)) ?_
  refine LW.nil hL rfl ?_
  refine NW.then ?_
  refine CW.cond rfl (fun hb6 => ?_) (fun hb6 => ?_)
  ·replace h := h.1 hb6
   refine CW.skip ?_
   refine NW.then ?_
   refine CW.seq ?_
   refine CW.block ?_
   refine CW.seq ?_
   refine CW.region fun L hL => ?_
   refine LW.rd hL rfl (Wants.free rfl) rfl (Rd.move (v := .pointer r4) rfl) ?_
   refine LW.call hL rfl (Wants.free rfl) rfl (Cl.fn (f := 15) rfl Tryz.func15 (by kernel_rfl) rfl) h (fun e w9 h_ => ?_)
   clear h
   obtain ⟨r6, rfl, h⟩ := h_
   obtain ⟨hsm4, h⟩ := h
   replace hB := Boxes.sameS hB hsm4 (by simp)
   replace hK := XR.Marks.same hK hsm4 (by simp +contextual)
   refine ⟨_, rfl, ?_⟩
   obtain ⟨b3, hb_b3⟩ : ∃ b3, b3 = World.size w9 := ⟨_, rfl⟩
   obtain ⟨w10, hw_w10⟩ : ∃ w10, w10 = World.alloc w9 (.cells #[.pointer none] 35) := ⟨_, rfl⟩
   refine LW.val hL rfl (Wants.free rfl) rfl (boxE hb_b3 hw_w10 (Vl.alloc (z := .pointer none) (by kernel_rfl))) ?_
   replace hB := Boxes.alloc (cs := [.pointer none]) (T := 35) hB hb_b3 hw_w10
   replace hK := XR.Marks.grow hK hw_w10
   have hlo_b3 := sil_lo (Chg.refl [] w9) hb_b3
   have hc_w10 := sil_alloc (Chg.refl [] w9) hw_w10
   obtain ⟨w11, hw_w11⟩ : ∃ x, x = World.setCell w10 (⟨b3, 0, none⟩ : Addr) (.pointer r6) := ⟨_, rfl⟩
   refine LW.eff hL rfl (Wants.free rfl) rfl (stE hw_w11 (Ef.st rfl rfl rfl (by kernel_rfl) (box_cell (v := .pointer none) (hB.at (i := 0) rfl) rfl) (free_of (hB.at (i := 0) rfl) 0))) ?_
   replace hK := XR.Marks.set hK (hB.at (i := 0) rfl) (sil_c1 hw_w11)
   replace hB : Boxes w11 [(b3, [.pointer r6], 35), (b1, [u1], 4)] := Boxes.store1  (i := 0) (o := 0) hB rfl rfl rfl rfl hw_w11
   have hc_w11 := sil_new hc_w10 (sil_c1 hw_w11) hlo_b3
   refine LW.nil hL rfl ?_
   refine NW.then ?_
   refine CW.seq ?_
   refine CW.region fun L hL => ?_
   refine LW.rd hL rfl (Wants.free rfl) rfl (Rd.assign (v := .int .i64 0) rfl) ?_
   refine LW.nil hL rfl ?_
   refine NW.then ?_
   replace h := h b3 w11 ⟨hlo_b3, lt_of_heap (hB.at (i := 0) rfl)⟩ hc_w11
   obtain ⟨J1, hJ1, h⟩ := h
   refine CW.cut (S := Int) (fun ev1 => [(0, .int .i64 most1), (1, .slice l1 l1n l1c), (4, .pointer (some (⟨b1, 0, none⟩ : Addr))), (6, .pointer r4), (8, .int .i64 i1), (9, .pointer (some (⟨b3, 0, none⟩ : Addr))), (10, .int .i64 ev1)]) (fun ev1 w12 => J1 ev1 w12 ∧ XR.Marks w12 ms1 ∧ Boxes w12 [(b1, [u1], 4), (b3, [.pointer r6], 35)]) (fun ev1 w12 h_ => ?_) ?_
   ·obtain ⟨h_, hK, hB⟩ := h_; replace h := hJ1 ev1 w12 h_; clear h_
    refine CW.seq ?_
    refine CW.seq ?_
    refine CW.region fun L hL => ?_
    refine LW.rd hL rfl (Wants.free rfl) rfl (Rd.move (v := .pointer r4) rfl) ?_
    refine LW.call hL rfl (Wants.free rfl) rfl (Cl.fn (f := 33) rfl Tryz.func33 (by kernel_rfl) rfl) h (fun e w13 h_ => ?_)
    clear h
    obtain ⟨r7, r7n, r7c, rfl, h⟩ := h_
    obtain ⟨hsm5, h⟩ := h
    replace hB := Boxes.sameS hB hsm5 (by simp)
    replace hK := XR.Marks.same hK hsm5 (by simp +contextual)
    refine ⟨_, rfl, ?_⟩
    refine LW.rd hL rfl (Wants.free rfl) rfl (Rd.builtin (v := .int .i64 (r7n : Int)) rfl (fun _ _ => by kernel_rfl)) ?_
    refine LW.rd hL rfl (Wants.free rfl) rfl (Rd.move (v := .int .i64 most1) rfl) ?_
    refine LW.rd hL rfl (Wants.free rfl) rfl (Rd.bin (v := .bool (decide ((r7n : Int) > most1))) rfl rfl (fun w => by kernel_rfl)) ?_
    refine LW.rd hL rfl (Wants.free rfl) rfl (Rd.move (v := .bool (decide ((r7n : Int) > most1))) rfl) ?_
    obtain ⟨J2, hJ2, h1_J2, h0_J2⟩ := h
    suffices K3 : ∀ (b4 : Bool) (w14 : World), XR.Marks w14 ms1 → Boxes w14 [(b1, [u1], 4), (b3, [.pointer r6], 35)] → J2 b4 w14 → L 16 [(0, .int .i64 most1), (1, .slice l1 l1n l1c), (4, .pointer (some (⟨b1, 0, none⟩ : Addr))), (6, .pointer r4), (8, .int .i64 i1), (9, .pointer (some (⟨b3, 0, none⟩ : Addr))), (10, .int .i64 ev1), (88, .bool b4)] w14 by
     rcases Bool.eq_false_or_eq_true (decide ((r7n : Int) > most1)) with hb7 | hb7
     ·have h := h0_J2 hb7
      refine LW.skip hL rfl (Skips.on rfl rfl rfl rfl rfl hb7) rfl ?_
      refine LW.skip hL rfl (Skips.on rfl rfl rfl rfl rfl hb7) rfl ?_
      refine LW.skip hL rfl (Skips.on rfl rfl rfl rfl rfl hb7) rfl ?_
      refine LW.skip hL rfl (Skips.un rfl rfl rfl rfl rfl) rfl ?_
      refine LW.skip hL rfl (Skips.un rfl rfl rfl rfl rfl) rfl ?_
      refine LW.skip hL rfl (Skips.un rfl rfl rfl rfl rfl) rfl ?_
      refine LW.skip hL rfl (Skips.un rfl rfl rfl rfl rfl) rfl ?_
      refine LW.skip hL rfl (Skips.un rfl rfl rfl rfl rfl) rfl ?_
      refine LW.skip hL rfl (Skips.on rfl rfl rfl rfl rfl hb7) rfl ?_
      refine LW.rd hL rfl (Wants.free rfl) rfl (Rd.pickT rfl hb7 rfl) ?_
      exact LW.sub hL (by exact ⟨rfl, rfl, rfl, rfl, rfl, rfl, rfl, rfl, trivial⟩) (K3 true w13 hK (by exact hB) h)
     ·have h := h1_J2 hb7
      refine LW.rd hL rfl (Wants.on rfl rfl rfl rfl rfl hb7) rfl (Rd.move (v := .int .i64 ev1) rfl) ?_
      refine LW.rd hL rfl (Wants.on rfl rfl rfl rfl rfl hb7) rfl (Rd.bin (v := .bool (ev1 == 120)) rfl rfl (fun w => by kernel_rfl)) ?_
      refine LW.rd hL rfl (Wants.on rfl rfl rfl rfl rfl hb7) rfl (Rd.move (v := .bool (ev1 == 120)) rfl) ?_
      obtain ⟨J3, hJ3, h1_J3, h0_J3⟩ := h
      suffices K4 : ∀ (b5 : Bool) (w15 : World), XR.Marks w15 ms1 → Boxes w15 [(b1, [u1], 4), (b3, [.pointer r6], 35)] → J3 b5 w15 → L 15 [(0, .int .i64 most1), (1, .slice l1 l1n l1c), (4, .pointer (some (⟨b1, 0, none⟩ : Addr))), (6, .pointer r4), (8, .int .i64 i1), (9, .pointer (some (⟨b3, 0, none⟩ : Addr))), (10, .int .i64 ev1), (78, .bool (decide ((r7n : Int) > most1))), (87, .bool b5)] w15 by
       rcases Bool.eq_false_or_eq_true (ev1 == 120) with hb8 | hb8
       ·have h := h1_J3 hb8
        refine LW.rd hL rfl (Wants.on rfl rfl rfl rfl rfl hb8) rfl (Rd.move (v := .pointer r4) rfl) ?_
        refine LW.call hL rfl (Wants.on rfl rfl rfl rfl rfl hb8) rfl (Cl.fn (f := 33) rfl Tryz.func33 (by kernel_rfl) rfl) h (fun e w16 h_ => ?_)
        clear h
        obtain ⟨r8, r8n, r8c, rfl, h⟩ := h_
        obtain ⟨hsm6, h⟩ := h
        replace hB := Boxes.sameS hB hsm6 (by simp)
        replace hK := XR.Marks.same hK hsm6 (by simp +contextual)
        refine ⟨_, rfl, ?_⟩
        refine LW.rd hL rfl (Wants.on rfl rfl rfl rfl rfl hb8) rfl (Rd.builtin (v := .int .i64 (r8n : Int)) rfl (fun _ _ => by kernel_rfl)) ?_
        refine LW.rd hL rfl (Wants.on rfl rfl rfl rfl rfl hb8) rfl (Rd.move (v := .int .i64 most1) rfl) ?_
        refine LW.rd hL rfl (Wants.on rfl rfl rfl rfl rfl hb8) rfl (Rd.bin (v := .bool (!((r8n : Int) == most1))) rfl rfl (fun w => by kernel_rfl)) ?_
        refine LW.rd hL rfl (Wants.on rfl rfl rfl rfl rfl hb7) rfl (Rd.pickT rfl hb8 rfl) ?_
        exact LW.sub hL (by exact ⟨rfl, rfl, rfl, rfl, rfl, rfl, rfl, rfl, rfl, trivial⟩) (K4 (!((r8n : Int) == most1)) w16 hK (by exact hB) h)
       ·have h := h0_J3 hb8
        refine LW.skip hL rfl (Skips.on rfl rfl rfl rfl rfl hb8) rfl ?_
        refine LW.skip hL rfl (Skips.on rfl rfl rfl rfl rfl hb8) rfl ?_
        refine LW.skip hL rfl (Skips.on rfl rfl rfl rfl rfl hb8) rfl ?_
        refine LW.skip hL rfl (Skips.on rfl rfl rfl rfl rfl hb8) rfl ?_
        refine LW.skip hL rfl (Skips.on rfl rfl rfl rfl rfl hb8) rfl ?_
        refine LW.rd hL rfl (Wants.on rfl rfl rfl rfl rfl hb7) rfl (Rd.pickF rfl hb8 rfl) ?_
        exact LW.sub hL (by exact ⟨rfl, rfl, rfl, rfl, rfl, rfl, rfl, rfl, rfl, trivial⟩) (K4 false w13 hK (by exact hB) h)
      intro b5 w15 hK hB h_
      have h := hJ3 b5 w15 h_; clear h_
      refine LW.rd hL rfl (Wants.free rfl) rfl (Rd.pickF rfl hb7 rfl) ?_
      exact LW.sub hL (by exact ⟨rfl, rfl, rfl, rfl, rfl, rfl, rfl, rfl, trivial⟩) (K3 b5 w15 hK (by exact hB) h)
    intro b4 w14 hK hB h_
    have h := hJ2 b4 w14 h_; clear h_
    refine LW.rd hL rfl (Wants.free rfl) rfl (Rd.move (v := .bool b4) rfl) ?_
    obtain ⟨J4, hJ4, h1_J4, h0_J4⟩ := h
    suffices K5 : ∀ (b6 : Bool) (w17 : World), XR.Marks w17 ms1 → Boxes w17 [(b1, [u1], 4), (b3, [.pointer r6], 35)] → J4 b6 w17 → L 30 [(0, .int .i64 most1), (1, .slice l1 l1n l1c), (4, .pointer (some (⟨b1, 0, none⟩ : Addr))), (6, .pointer r4), (8, .int .i64 i1), (9, .pointer (some (⟨b3, 0, none⟩ : Addr))), (10, .int .i64 ev1), (102, .bool b6)] w17 by
     rcases Bool.eq_false_or_eq_true b4 with hb9 | hb9
     ·have h := h0_J4 hb9
      refine LW.skip hL rfl (Skips.on rfl rfl rfl rfl rfl hb9) rfl ?_
      refine LW.skip hL rfl (Skips.on rfl rfl rfl rfl rfl hb9) rfl ?_
      refine LW.skip hL rfl (Skips.on rfl rfl rfl rfl rfl hb9) rfl ?_
      refine LW.skip hL rfl (Skips.un rfl rfl rfl rfl rfl) rfl ?_
      refine LW.skip hL rfl (Skips.un rfl rfl rfl rfl rfl) rfl ?_
      refine LW.skip hL rfl (Skips.on rfl rfl rfl rfl rfl hb9) rfl ?_
      refine LW.skip hL rfl (Skips.on rfl rfl rfl rfl rfl hb9) rfl ?_
      refine LW.skip hL rfl (Skips.un rfl rfl rfl rfl rfl) rfl ?_
      refine LW.skip hL rfl (Skips.un rfl rfl rfl rfl rfl) rfl ?_
      refine LW.skip hL rfl (Skips.un rfl rfl rfl rfl rfl) rfl ?_
      refine LW.skip hL rfl (Skips.un rfl rfl rfl rfl rfl) rfl ?_
      refine LW.skip hL rfl (Skips.on rfl rfl rfl rfl rfl hb9) rfl ?_
      refine LW.rd hL rfl (Wants.free rfl) rfl (Rd.pickT rfl hb9 rfl) ?_
      exact LW.sub hL (by exact ⟨rfl, rfl, rfl, rfl, rfl, rfl, rfl, rfl, trivial⟩) (K5 true w14 hK (by exact hB) h)
     ·have h := h1_J4 hb9
      refine LW.rd hL rfl (Wants.on rfl rfl rfl rfl rfl hb9) rfl (Rd.move (v := .int .i64 ev1) rfl) ?_
      refine LW.rd hL rfl (Wants.on rfl rfl rfl rfl rfl hb9) rfl (Rd.bin (v := .bool (!(ev1 == 0))) rfl rfl (fun w => by kernel_rfl)) ?_
      refine LW.rd hL rfl (Wants.on rfl rfl rfl rfl rfl hb9) rfl (Rd.move (v := .bool (!(ev1 == 0))) rfl) ?_
      suffices K6 : L 23 [(0, .int .i64 most1), (1, .slice l1 l1n l1c), (4, .pointer (some (⟨b1, 0, none⟩ : Addr))), (6, .pointer r4), (8, .int .i64 i1), (9, .pointer (some (⟨b3, 0, none⟩ : Addr))), (10, .int .i64 ev1), (89, .bool b4), (95, .bool (!(ev1 == 0) && !(ev1 == 120)))] w14 by
       rcases Bool.eq_false_or_eq_true (!(ev1 == 0)) with hb11 | hb11
       ·skip
        refine LW.rd hL rfl (Wants.on rfl rfl rfl rfl rfl hb11) rfl (Rd.move (v := .int .i64 ev1) rfl) ?_
        refine LW.rd hL rfl (Wants.on rfl rfl rfl rfl rfl hb11) rfl (Rd.bin (v := .bool (!(ev1 == 120))) rfl rfl (fun w => by kernel_rfl)) ?_
        refine LW.rd hL rfl (Wants.on rfl rfl rfl rfl rfl hb9) rfl (Rd.pickT rfl hb11 rfl) ?_
        exact LW.sub hL (by exact ⟨rfl, rfl, rfl, rfl, rfl, rfl, rfl, rfl, (by rw [hb11]; rfl), trivial⟩) K6
       ·skip
        refine LW.skip hL rfl (Skips.on rfl rfl rfl rfl rfl hb11) rfl ?_
        refine LW.skip hL rfl (Skips.on rfl rfl rfl rfl rfl hb11) rfl ?_
        refine LW.rd hL rfl (Wants.on rfl rfl rfl rfl rfl hb9) rfl (Rd.pickF rfl hb11 rfl) ?_
        exact LW.sub hL (by exact ⟨rfl, rfl, rfl, rfl, rfl, rfl, rfl, rfl, (by rw [hb11]; rfl), trivial⟩) K6
      refine LW.rd hL rfl (Wants.on rfl rfl rfl rfl rfl hb9) rfl (Rd.move (v := .bool (!(ev1 == 0) && !(ev1 == 120))) rfl) ?_
      obtain ⟨J5, hJ5, h1_J5, h0_J5⟩ := h
      suffices K7 : ∀ (b7 : Bool) (w18 : World), XR.Marks w18 ms1 → Boxes w18 [(b1, [u1], 4), (b3, [.pointer r6], 35)] → J5 b7 w18 → L 29 [(0, .int .i64 most1), (1, .slice l1 l1n l1c), (4, .pointer (some (⟨b1, 0, none⟩ : Addr))), (6, .pointer r4), (8, .int .i64 i1), (9, .pointer (some (⟨b3, 0, none⟩ : Addr))), (10, .int .i64 ev1), (89, .bool b4), (101, .bool b7)] w18 by
       rcases Bool.eq_false_or_eq_true (!(ev1 == 0) && !(ev1 == 120)) with hb12 | hb12
       ·have h := h1_J5 hb12
        refine LW.rd hL rfl (Wants.on rfl rfl rfl rfl rfl hb12) rfl (Rd.move (v := .pointer r4) rfl) ?_
        refine LW.rd hL rfl (Wants.on rfl rfl rfl rfl rfl hb12) rfl (Rd.ld (v := .pointer r6) rfl (by kernel_rfl) (eqs (box_cell (hB.at (i := 1) rfl) rfl))) ?_
        refine LW.call hL rfl (Wants.on rfl rfl rfl rfl rfl hb12) rfl (Cl.fn (f := 23) rfl Tryz.func23 (by kernel_rfl) rfl) h (fun e w19 h_ => ?_)
        clear h
        obtain ⟨r9, rfl, h⟩ := h_
        obtain ⟨hsm7, h⟩ := h
        replace hB := Boxes.sameS hB hsm7 (by simp)
        replace hK := XR.Marks.same hK hsm7 (by simp +contextual)
        refine ⟨_, rfl, ?_⟩
        refine LW.rd hL rfl (Wants.on rfl rfl rfl rfl rfl hb12) rfl (Rd.un (v := .bool (!r9)) rfl (fun _ => by kernel_rfl)) ?_
        refine LW.rd hL rfl (Wants.on rfl rfl rfl rfl rfl hb9) rfl (Rd.pickT rfl hb12 rfl) ?_
        exact LW.sub hL (by exact ⟨rfl, rfl, rfl, rfl, rfl, rfl, rfl, rfl, rfl, trivial⟩) (K7 (!r9) w19 hK (by exact hB) h)
       ·have h := h0_J5 hb12
        refine LW.skip hL rfl (Skips.on rfl rfl rfl rfl rfl hb12) rfl ?_
        refine LW.skip hL rfl (Skips.on rfl rfl rfl rfl rfl hb12) rfl ?_
        refine LW.skip hL rfl (Skips.on rfl rfl rfl rfl rfl hb12) rfl ?_
        refine LW.skip hL rfl (Skips.on rfl rfl rfl rfl rfl hb12) rfl ?_
        refine LW.rd hL rfl (Wants.on rfl rfl rfl rfl rfl hb9) rfl (Rd.pickF rfl hb12 rfl) ?_
        exact LW.sub hL (by exact ⟨rfl, rfl, rfl, rfl, rfl, rfl, rfl, rfl, rfl, trivial⟩) (K7 false w14 hK (by exact hB) h)
      intro b7 w18 hK hB h_
      have h := hJ5 b7 w18 h_; clear h_
      refine LW.rd hL rfl (Wants.free rfl) rfl (Rd.pickF rfl hb9 rfl) ?_
      exact LW.sub hL (by exact ⟨rfl, rfl, rfl, rfl, rfl, rfl, rfl, rfl, trivial⟩) (K5 b7 w18 hK (by exact hB) h)
    intro b6 w17 hK hB h_
    have h := hJ4 b6 w17 h_; clear h_
    refine LW.nil hL rfl ?_
    refine NW.then ?_
    refine CW.cond rfl (fun hb13 => ?_) (fun hb13 => ?_)
    ·replace h := h.1 hb13
     refine CW.seq ?_
     refine CW.region fun L hL => ?_
     obtain ⟨w20, hw_w20⟩ : ∃ x, x = World.setCell w17 (⟨b1, 0, none⟩ : Addr) (.bool false) := ⟨_, rfl⟩
     refine LW.eff hL rfl (Wants.free rfl) rfl (stE hw_w20 (Ef.st rfl rfl rfl (by kernel_rfl) (box_cell (v := u1) (hB.at (i := 0) rfl) rfl) (free_of (hB.at (i := 0) rfl) 0))) ?_
     replace hK := XR.Marks.set hK (hB.at (i := 0) rfl) (sil_c1 hw_w20)
     replace hB : Boxes w20 [(b1, [.bool false], 4), (b3, [.pointer r6], 35)] := Boxes.store1  (i := 0) (o := 0) hB rfl rfl rfl rfl hw_w20
     have hc_w20 : Chg [b1] w17 w20 := sil_more (Chg.refl [] w17) (sil_c1 hw_w20)
     refine LW.nil hL rfl ?_
     refine NW.then ?_
     replace h := h  w20  hc_w20
     refine CW.ret ?_
     refine RW.then ?_
     refine RW.block ?_
     refine RW.then ?_
     refine RW.then ?_
     refine RW.block ?_
     refine RW.then ?_
     exact XR.resM (ms := ms1) (vs := [.bool false]) hK rfl (fun w_ hc_ => ⟨(ResOK.c rfl (lv1 (by kernel_rfl) (box_cell (Boxes.at (i := 0) (hB.marks hK hc_) rfl) rfl)) ResOK.nil), false, rfl, h w_ hc_⟩)
    ·replace h := h.2 hb13
     refine CW.skip ?_
     refine NW.then ?_
     obtain ⟨J6, hJ6, h⟩ := h
     refine CW.cutD (S := (List Nat)) (fun ms2 => [(0, .int .i64 most1), (1, .slice l1 l1n l1c), (4, .pointer (some (⟨b1, 0, none⟩ : Addr))), (6, .pointer r4), (8, .int .i64 i1)]) (fun ms2 => List.map XR.mk ms2) (fun ms2 w22 => J6 ms2 w22 ∧ XR.Marks w22 ms2 ∧ ∃ (u2 : Value), Boxes w22 [(b1, [u2], 4)]) (fun ms2 w22 h_ => ?_) ?_
     ·obtain ⟨h_, hK, u2, hB⟩ := h_; replace h := hJ6 ms2 w22 h_; clear h_
      refine CW.seq ?_
      refine CW.region fun L hL => ?_
      refine LW.rd hL rfl (Wants.free rfl) rfl (Rd.move (v := .pointer r4) rfl) ?_
      refine LW.call hL rfl (Wants.free rfl) rfl (Cl.fn (f := 36) rfl Tryz.func36 (by kernel_rfl) rfl) h (fun e w23 h_ => ?_)
      clear h
      obtain ⟨r10, r11, rfl, h⟩ := h_
      obtain ⟨hsm8, h⟩ := h
      replace hB := Boxes.sameS hB hsm8 (by simp)
      replace hK := XR.Marks.same hK hsm8 (by simp +contextual)
      refine ⟨_, rfl, ?_⟩
      refine LW.rd hL rfl (Wants.free rfl) rfl (Rd.move (v := .tuple #[.int .i64 r10, .int .i64 r11]) rfl) ?_
      refine LW.rd hL rfl (Wants.free rfl) rfl (Rd.extract (v := .int .i64 r10) rfl rfl) ?_
      refine LW.rd hL rfl (Wants.free rfl) rfl (Rd.extract (v := .int .i64 r11) rfl rfl) ?_
      refine LW.rd hL rfl (Wants.free rfl) rfl (Rd.assign (v := .int .i64 r10) rfl) ?_
      refine LW.rd hL rfl (Wants.free rfl) rfl (Rd.assign (v := .int .i64 r11) rfl) ?_
      refine LW.nil hL rfl ?_
      refine NW.then ?_
      refine CW.seq ?_
      refine CW.region fun L hL => ?_
      refine LW.rd hL rfl (Wants.free rfl) rfl (Rd.move (v := .int .i64 r10) rfl) ?_
      refine LW.rd hL rfl (Wants.free rfl) rfl (Rd.move (v := .pointer r4) rfl) ?_
      refine LW.call hL rfl (Wants.free rfl) rfl (Cl.fn (f := 37) rfl Tryz.func37 (by kernel_rfl) rfl) h (fun e w24 h_ => ?_)
      clear h
      obtain ⟨r12, rfl, h⟩ := h_
      obtain ⟨hsm9, h⟩ := h
      replace hB := Boxes.sameS hB hsm9 (by simp)
      replace hK := XR.Marks.same hK hsm9 (by simp +contextual)
      refine ⟨_, rfl, ?_⟩
      refine LW.rd hL rfl (Wants.free rfl) rfl (Rd.bin (v := .bool (!(r10 == r12))) rfl rfl (fun w => by kernel_rfl)) ?_
      refine LW.rd hL rfl (Wants.free rfl) rfl (Rd.move (v := .bool (!(r10 == r12))) rfl) ?_
      obtain ⟨J7, hJ7, h1_J7, h0_J7⟩ := h
      suffices K8 : ∀ (b8 : Bool) (w25 : World), XR.Marks w25 ms2 → Boxes w25 [(b1, [u2], 4)] → J7 b8 w25 → L 10 [(0, .int .i64 most1), (1, .slice l1 l1n l1c), (4, .pointer (some (⟨b1, 0, none⟩ : Addr))), (6, .pointer r4), (8, .int .i64 i1), (136, .bool b8)] w25 by
       rcases Bool.eq_false_or_eq_true (!(r10 == r12)) with hb14 | hb14
       ·have h := h0_J7 hb14
        refine LW.skip hL rfl (Skips.on rfl rfl rfl rfl rfl hb14) rfl ?_
        refine LW.skip hL rfl (Skips.on rfl rfl rfl rfl rfl hb14) rfl ?_
        refine LW.skip hL rfl (Skips.on rfl rfl rfl rfl rfl hb14) rfl ?_
        refine LW.skip hL rfl (Skips.on rfl rfl rfl rfl rfl hb14) rfl ?_
        refine LW.rd hL rfl (Wants.free rfl) rfl (Rd.pickT rfl hb14 rfl) ?_
        exact LW.sub hL (by exact ⟨rfl, rfl, rfl, rfl, rfl, rfl, trivial⟩) (K8 true w24 hK (by exact hB) h)
       ·have h := h1_J7 hb14
        refine LW.rd hL rfl (Wants.on rfl rfl rfl rfl rfl hb14) rfl (Rd.move (v := .int .i64 r11) rfl) ?_
        refine LW.rd hL rfl (Wants.on rfl rfl rfl rfl rfl hb14) rfl (Rd.move (v := .pointer r4) rfl) ?_
        refine LW.call hL rfl (Wants.on rfl rfl rfl rfl rfl hb14) rfl (Cl.fn (f := 37) rfl Tryz.func37 (by kernel_rfl) rfl) h (fun e w26 h_ => ?_)
        clear h
        obtain ⟨r13, rfl, h⟩ := h_
        obtain ⟨hsm10, h⟩ := h
        replace hB := Boxes.sameS hB hsm10 (by simp)
        replace hK := XR.Marks.same hK hsm10 (by simp +contextual)
        refine ⟨_, rfl, ?_⟩
        refine LW.rd hL rfl (Wants.on rfl rfl rfl rfl rfl hb14) rfl (Rd.bin (v := .bool (!(r11 == r13))) rfl rfl (fun w => by kernel_rfl)) ?_
        refine LW.rd hL rfl (Wants.free rfl) rfl (Rd.pickF rfl hb14 rfl) ?_
        exact LW.sub hL (by exact ⟨rfl, rfl, rfl, rfl, rfl, rfl, trivial⟩) (K8 (!(r11 == r13)) w26 hK (by exact hB) h)
      intro b8 w25 hK hB h_
      have h := hJ7 b8 w25 h_; clear h_
      refine LW.nil hL rfl ?_
      refine NW.then ?_
      refine CW.cond rfl (fun hb15 => ?_) (fun hb15 => ?_)
      ·replace h := h.1 hb15
       refine CW.seq ?_
       refine CW.region fun L hL => ?_
       obtain ⟨w27, hw_w27⟩ : ∃ x, x = World.setCell w25 (⟨b1, 0, none⟩ : Addr) (.bool false) := ⟨_, rfl⟩
       refine LW.eff hL rfl (Wants.free rfl) rfl (stE hw_w27 (Ef.st rfl rfl rfl (by kernel_rfl) (box_cell (v := u2) (hB.at (i := 0) rfl) rfl) (free_of (hB.at (i := 0) rfl) 0))) ?_
       replace hK := XR.Marks.set hK (hB.at (i := 0) rfl) (sil_c1 hw_w27)
       replace hB : Boxes w27 [(b1, [.bool false], 4)] := Boxes.store1  (i := 0) (o := 0) hB rfl rfl rfl rfl hw_w27
       have hc_w27 : Chg [b1] w25 w27 := sil_more (Chg.refl [] w25) (sil_c1 hw_w27)
       refine LW.nil hL rfl ?_
       refine NW.then ?_
       replace h := h  w27  hc_w27
       refine CW.ret ?_
       refine RW.block ?_
       refine RW.then ?_
       refine RW.then ?_
       refine RW.block ?_
       refine RW.then ?_
       exact XR.resM (ms := ms2) (vs := [.bool false]) hK rfl (fun w_ hc_ => ⟨(ResOK.c rfl (lv1 (by kernel_rfl) (box_cell (Boxes.at (i := 0) (hB.marks hK hc_) rfl) rfl)) ResOK.nil), false, rfl, h w_ hc_⟩)
      ·replace h := h.2 hb15
       refine CW.skip ?_
       refine NW.block ?_
       refine NW.then ?_
       refine CW.region fun L hL => ?_
       refine LW.rd hL rfl (Wants.free rfl) rfl (Rd.move (v := .int .i64 i1) rfl) ?_
       refine LW.rd hL rfl (Wants.free rfl) rfl (Rd.bin (v := .int .i64 (IntKind.wrap .i64 (i1 + 1))) rfl rfl (fun w => by kernel_rfl)) ?_
       refine LW.rd hL rfl (Wants.free rfl) rfl (Rd.assign (v := .int .i64 (IntKind.wrap .i64 (i1 + 1))) rfl) ?_
       refine LW.nil hL rfl ?_
       exact NW.loopD (S := Int × (List Nat)) (Ek := fun s1 => [(0, .int .i64 most1), (1, .slice l1 l1n l1c), (4, .pointer (some (⟨b1, 0, none⟩ : Addr))), (6, .pointer r4), (8, .int .i64 s1.1)]) (Dk := (fun s1 => List.map XR.mk s1.2)) (IntKind.wrap .i64 (i1 + 1), ms2) (by exact ⟨rfl, rfl, rfl, rfl, rfl, trivial⟩) rfl ⟨⟨h.1, hK, u2, hB⟩, h.2⟩
     ·skip
      refine CW.seq ?_
      refine CW.region fun L hL => ?_
      refine LW.rd hL rfl (Wants.free rfl) rfl (Rd.move (v := .int .i64 ev1) rfl) ?_
      refine LW.rd hL rfl (Wants.free rfl) rfl (Rd.bin (v := .bool (ev1 == 120)) rfl rfl (fun w => by kernel_rfl)) ?_
      refine LW.nil hL rfl ?_
      refine NW.then ?_
      refine CW.cond rfl (fun hb16 => ?_) (fun hb16 => ?_)
      ·replace h := h.1 hb16
       refine CW.seq ?_
       refine CW.region fun L hL => ?_
       refine LW.rd hL rfl (Wants.free rfl) rfl (Rd.move (v := .pointer r4) rfl) ?_
       refine LW.call hL rfl (Wants.free rfl) rfl (Cl.fn (f := 34) rfl Tryz.func34 (by kernel_rfl) rfl) h (fun e w29 h_ => ?_)
       clear h
       obtain ⟨r14, rfl, h⟩ := h_
       obtain ⟨hsm11, h⟩ := h
       replace hB := Boxes.sameS hB hsm11 (by simp)
       replace hK := XR.Marks.same hK hsm11 (by simp +contextual)
       refine ⟨_, rfl, ?_⟩
       refine LW.nil hL rfl ?_
       refine NW.then ?_
       refine CW.block ?_
       obtain ⟨S1, Sp1, keep1, hfn_, hit_, hkp_, I2, X1, hst_I2, hst_X1, h0_, hrd_, hdn_, hso_X1⟩ := h
       refine XR.CW.rangeV (α := Int × Int × Int) (enc := (fun x : Int × Int × Int => #[.agg #[.int .i64 x.1, .int .i64 x.2.1], .int .u32 x.2.2])) (S := S1) (Sp := Sp1) (keep := keep1) rfl hfn_ (fun _ => rfl) (by decide) hit_ (fun (O_ : List Nat) (pre_ : List (Int × Int × Int)) (w_ : World) => I2 O_ pre_ w_ ∧ XR.Marks w_ ms1 ∧ ∃ (u3 : Value), Boxes w_ [(b1, [u3], 4), (b3, [.pointer r6], 35)]) (fun (c_ : Code) (O_ : List Nat) (pre_ : List (Int × Int × Int)) (w_ : World) => (c_ = Code.ret ∧ ∃ (c1 : Bool), X1 c1 O_ pre_ w_ ∧ XR.Marks w_ ms1 ∧ Boxes w_ [(b1, [.bool c1], 4), (b3, [.pointer r6], 35)])) ?_ ?_ ?_ hkp_ ?_ ?_ ?_
       ·intro pre_ O_ O2_ A_ B_ hi_ hO_ hc_ hO2_ hg_
        have hB0_ := hB
        have hK0_ := hK
        obtain ⟨hi_, hK, u3, hB⟩ := hi_
        exact ⟨hst_I2  pre_ O_ O2_ A_ B_ hi_ hO_ hc_ hO2_ hg_, hK.stab hK0_ hO_ hc_, u3, hB.stab hB0_ rfl hO_ hc_⟩
       ·intro c_ pre_ O_ O2_ A_ B_ hi_ hO_ hc_ hO2_ hg_
        have hB0_ := hB
        have hK0_ := hK
        rcases hi_ with ⟨hcc_, c1, hi_, hK, hB⟩
        ·exact ⟨hcc_, c1, hst_X1 c1 pre_ O_ O2_ A_ B_ hi_ hO_ hc_ hO2_ hg_, hK.stab hK0_ hO_ hc_, hB.stab hB0_ rfl hO_ hc_⟩
       ·intro O_ A_ hc_ hO_
        exact ⟨h0_ O_ A_ hc_ hO_, hK.chg hc_ (by simp), u1, Boxes.chg hB hc_ (by simp)⟩
       ·intro l2 O1 pre1 x_ w30 hO_ hl_ hSp_ hi_
        obtain ⟨x1, x2, x3⟩ := x_
        obtain ⟨hi_, hK, u3, hB⟩ := hi_
        have h := hrd_ l2 O1 pre1 x1 x2 x3 w30 hO_ hl_ hSp_ hi_
        refine XR.CW.seq ?_
        refine XR.CW.region fun L hL => ?_
        obtain ⟨b9, hb_b9⟩ : ∃ b9, b9 = World.size w30 := ⟨_, rfl⟩
        obtain ⟨w31, hw_w31⟩ : ∃ w31, w31 = World.alloc w30 (.cells #[.int .i64 0, .int .i64 0] 62) := ⟨_, rfl⟩
        refine XR.LW.val hL rfl (Wants.free rfl) rfl (boxE hb_b9 hw_w31 (Vl.alloc (z := .agg #[.int .i64 0, .int .i64 0]) (by kernel_rfl))) ?_
        replace hB := Boxes.alloc (cs := [.int .i64 0, .int .i64 0]) (T := 62) hB hb_b9 hw_w31
        replace hK := XR.Marks.grow hK hw_w31
        have hlo_b9 := sil_lo (Chg.refl [] w30) hb_b9
        have hc_w31 := sil_alloc (Chg.refl [] w30) hw_w31
        obtain ⟨w32, hw_w32⟩ : ∃ x, x = setCells w31 (⟨b9, 0, none⟩ : Addr) 0 [.int .i64 x1, .int .i64 x2] := ⟨_, rfl⟩
        refine XR.LW.eff hL rfl (Wants.free rfl) rfl (stNE hw_w32 (Ef.stN (cs := [.int .i64 x1, .int .i64 x2]) rfl rfl (by kernel_rfl) (List.forall_mem_cons.2 ⟨rfl, (List.forall_mem_cons.2 ⟨rfl, (List.forall_mem_nil _)⟩)⟩) (has_of (hB.at (i := 0) rfl) (by simp)) (free_of' (hB.at (i := 0) rfl)))) ?_
        replace hK := XR.Marks.set hK (hB.at (i := 0) rfl) (sil_cN hw_w32)
        replace hB : Boxes w32 [(b9, [.int .i64 x1, .int .i64 x2], 62), (b1, [u3], 4), (b3, [.pointer r6], 35)] := Boxes.store (vs := [.int .i64 x1, .int .i64 x2]) (i := 0) (o := 0) hB rfl rfl rfl rfl hw_w32
        have hc_w32 := sil_new hc_w31 (sil_cN hw_w32) hlo_b9
        refine XR.LW.nil hL rfl ?_
        refine XR.NW.then ?_
        refine XR.CW.region fun L hL => ?_
        refine XR.LW.rd hL rfl (Wants.free rfl) rfl (Rd.assign (v := .int .u32 x3) rfl) ?_
        refine XR.LW.nil hL rfl ?_
        refine XR.NW.begin hc_w32 (fun w33 hcb_w33 hlp_ hib_ => ?_)
        have hc_w33 : Chg [l2] w30 w33 := sil_more hc_w32 hcb_w33
        replace hB := hB.notloop hlp_ hcb_w33
        replace hK := hK.notloop hlp_ hcb_w33
        replace h := h b9 w33 ⟨hlo_b9, lt_of_heap (hB.at (i := 0) rfl)⟩ hc_w33
        refine XR.CW.block ?_
        refine XR.CW.seq ?_
        refine XR.CW.region fun L hL => ?_
        refine XR.LW.rd hL rfl (Wants.free rfl) rfl (Rd.ld (v := .pointer r6) rfl (by kernel_rfl) (eqs (box_cell (hB.at (i := 2) rfl) rfl))) ?_
        refine XR.LW.rd hL rfl (Wants.free rfl) rfl (Rd.ldN (cs := [.int .i64 x1, .int .i64 x2]) rfl (by kernel_rfl) (by kernel_rfl) (cellsS (box_cells (hB.at (i := 0) rfl) rfl))) ?_
        refine XR.LW.call hL rfl (Wants.free rfl) rfl (Cl.fn (f := 35) rfl Tryz.func35 (by kernel_rfl) rfl) h (fun e w34 h_ => ?_)
        clear h
        obtain ⟨r15, r16, rfl, h⟩ := h_
        obtain ⟨hsm12, h⟩ := h
        replace hB := Boxes.sameS hB hsm12 (by simp)
        replace hK := XR.Marks.same hK hsm12 (by simp +contextual)
        refine ⟨_, rfl, ?_⟩
        refine XR.LW.rd hL rfl (Wants.free rfl) rfl (Rd.move (v := .tuple #[.int .u32 r15, .int .i64 r16]) rfl) ?_
        refine XR.LW.rd hL rfl (Wants.free rfl) rfl (Rd.extract (v := .int .u32 r15) rfl rfl) ?_
        refine XR.LW.rd hL rfl (Wants.free rfl) rfl (Rd.extract (v := .int .i64 r16) rfl rfl) ?_
        refine XR.LW.rd hL rfl (Wants.free rfl) rfl (Rd.assign (v := .int .u32 r15) rfl) ?_
        refine XR.LW.rd hL rfl (Wants.free rfl) rfl (Rd.assign (v := .int .i64 r16) rfl) ?_
        refine XR.LW.nil hL rfl ?_
        refine XR.NW.then ?_
        refine XR.CW.seq ?_
        refine XR.CW.region fun L hL => ?_
        refine XR.LW.rd hL rfl (Wants.free rfl) rfl (Rd.move (v := .int .i64 r16) rfl) ?_
        refine XR.LW.rd hL rfl (Wants.free rfl) rfl (Rd.bin (v := .bool (!(r16 == 0))) rfl rfl (fun w => by kernel_rfl)) ?_
        refine XR.LW.rd hL rfl (Wants.free rfl) rfl (Rd.move (v := .bool (!(r16 == 0))) rfl) ?_
        suffices K9 : L 7 [(0, .int .i64 most1), (1, .slice l1 l1n l1c), (4, .pointer (some (⟨b1, 0, none⟩ : Addr))), (6, .pointer r4), (8, .int .i64 i1), (9, .pointer (some (⟨b3, 0, none⟩ : Addr))), (11, .pointer (some (⟨b9, 0, none⟩ : Addr))), (12, .int .u32 x3), (107, .agg #[.int .i64 x1, .int .i64 x2]), (108, .int .u32 x3), (121, .bool (!(r16 == 0) || !(r15 == x3)))] w34 by
         rcases Bool.eq_false_or_eq_true (!(r16 == 0)) with hb18 | hb18
         ·skip
          refine XR.LW.skip hL rfl (Skips.on rfl rfl rfl rfl rfl hb18) rfl ?_
          refine XR.LW.skip hL rfl (Skips.on rfl rfl rfl rfl rfl hb18) rfl ?_
          refine XR.LW.skip hL rfl (Skips.on rfl rfl rfl rfl rfl hb18) rfl ?_
          refine XR.LW.rd hL rfl (Wants.free rfl) rfl (Rd.pickT rfl hb18 rfl) ?_
          exact XR.LW.sub hL (by exact ⟨rfl, rfl, rfl, rfl, rfl, rfl, rfl, rfl, rfl, rfl, (by rw [hb18]; rfl), trivial⟩) K9
         ·skip
          refine XR.LW.rd hL rfl (Wants.on rfl rfl rfl rfl rfl hb18) rfl (Rd.move (v := .int .u32 r15) rfl) ?_
          refine XR.LW.rd hL rfl (Wants.on rfl rfl rfl rfl rfl hb18) rfl (Rd.move (v := .int .u32 x3) rfl) ?_
          refine XR.LW.rd hL rfl (Wants.on rfl rfl rfl rfl rfl hb18) rfl (Rd.bin (v := .bool (!(r15 == x3))) rfl rfl (fun w => by kernel_rfl)) ?_
          refine XR.LW.rd hL rfl (Wants.free rfl) rfl (Rd.pickF rfl hb18 rfl) ?_
          exact XR.LW.sub hL (by exact ⟨rfl, rfl, rfl, rfl, rfl, rfl, rfl, rfl, rfl, rfl, (by rw [hb18]; rfl), trivial⟩) K9
        refine XR.LW.nil hL rfl ?_
        refine XR.NW.then ?_
        refine XR.CW.cond rfl (fun hb19 => ?_) (fun hb19 => ?_)
        ·replace h := h.1 hb19
         refine XR.CW.seq ?_
         refine XR.CW.region fun L hL => ?_
         obtain ⟨w35, hw_w35⟩ : ∃ x, x = World.setCell w34 (⟨b1, 0, none⟩ : Addr) (.bool false) := ⟨_, rfl⟩
         refine XR.LW.eff hL rfl (Wants.free rfl) rfl (stE hw_w35 (Ef.st rfl rfl rfl (by kernel_rfl) (box_cell (v := u3) (hB.at (i := 1) rfl) rfl) (free_of (hB.at (i := 1) rfl) 0))) ?_
         replace hK := XR.Marks.set hK (hB.at (i := 1) rfl) (sil_c1 hw_w35)
         replace hB : Boxes w35 [(b9, [.int .i64 x1, .int .i64 x2], 62), (b1, [.bool false], 4), (b3, [.pointer r6], 35)] := Boxes.store1  (i := 1) (o := 0) hB rfl rfl rfl rfl hw_w35
         have hc_w35 : Chg [b1] w34 w35 := sil_more (Chg.refl [] w34) (sil_c1 hw_w35)
         refine XR.LW.nil hL rfl ?_
         refine XR.NW.then ?_
         refine XR.CW.ret ?_
         refine RW.block ?_
         replace h := h  w35  hc_w35
         exact fun a_ ha_ => ⟨h.1, (⟨rfl, false, h.2.1, hK, (hB.sel [1, 2] (by decide) rfl)⟩), h.2.2⟩
        ·replace h := h.2 hb19
         refine XR.CW.skip ?_
         refine NW.block ?_
         exact fun a_ ha_ => ⟨h.1, ⟨h.2.1, hK, u3, (hB.sel [1, 2] (by decide) rfl)⟩, h.2.2⟩
       ·intro d1 O2 xs1 w36 hO_ hd_ hdh_ hS_ hi_
        have hK0_ := hK
        obtain ⟨hi_, hK, u3, hB⟩ := hi_
        have h := hdn_ d1 O2 xs1 w36 hO_ hd_ hS_ hi_
        have hK := XR.Marks.cons2 hK hK0_ (hO_ _ hd_).1 hdh_
        refine NW.block ?_
        exact NW.cutD (S := (List Nat)) (Ek := fun ms2 => [(0, .int .i64 most1), (1, .slice l1 l1n l1c), (4, .pointer (some (⟨b1, 0, none⟩ : Addr))), (6, .pointer r4), (8, .int .i64 i1)]) (Dk := (fun ms2 => List.map XR.mk ms2)) (d1 :: ms1) (by exact ⟨rfl, rfl, rfl, rfl, rfl, trivial⟩) rfl ⟨h, hK, u3, (hB.sel [0] (by decide) rfl)⟩
       ·intro d2 c_ O3 xs2 w37 hO_ hd_ hdh_ hS_ hi_
        have hK0_ := hK
        rcases hi_ with ⟨rfl, c1, hi_, hK, hB⟩
        ·have h := hso_X1 d2 O3 xs2 c1 w37 hO_ hd_ hS_ hi_
         have hK := XR.Marks.cons2 hK hK0_ (hO_ _ hd_).1 hdh_
         refine CW.ret ?_
         refine RW.block ?_
         refine RW.then ?_
         refine RW.block ?_
         refine RW.then ?_
         refine RW.then ?_
         refine RW.block ?_
         refine RW.then ?_
         exact XR.resM (ms := (d2 :: ms1)) (vs := [.bool c1]) hK rfl (fun w_ hc_ => ⟨(ResOK.c rfl (lv1 (by kernel_rfl) (box_cell (Boxes.at (i := 0) (hB.marks hK hc_) rfl) rfl)) ResOK.nil), c1, rfl, h w_ hc_⟩)
      ·replace h := h.2 hb16
       refine CW.skip ?_
       exact NW.cutD (S := (List Nat)) (Ek := fun ms2 => [(0, .int .i64 most1), (1, .slice l1 l1n l1c), (4, .pointer (some (⟨b1, 0, none⟩ : Addr))), (6, .pointer r4), (8, .int .i64 i1)]) (Dk := (fun ms2 => List.map XR.mk ms2)) ms1 (by exact ⟨rfl, rfl, rfl, rfl, rfl, trivial⟩) rfl ⟨h, hK, u1, (hB.sel [0] (by decide) rfl)⟩
   ·skip
    refine CW.seq ?_
    refine CW.region fun L hL => ?_
    refine LW.rd hL rfl (Wants.free rfl) rfl (Rd.move (v := .slice l1 l1n l1c) rfl) ?_
    refine LW.rd hL rfl (Wants.free rfl) rfl (Rd.move (v := .int .i64 i1) rfl) ?_
    obtain ⟨a1, he1, hi1, hi2, h⟩ := h
    refine LW.rd hL rfl (Wants.free rfl) rfl (Rd.iaS (q := a1) (sz := 6) (by rw [← he1]; rfl) rfl Tryz.underlying69 (by kernel_rfl) hi1 hi2) ?_
    refine LW.rd hL rfl (Wants.free rfl) rfl (Rd.fa (v := .pointer (some (a1.add (Int.toNat i1 * 6)))) rfl (fun _ => by kernel_rfl)) ?_
    obtain ⟨t1, hc1, h⟩ := h
    refine LW.rd hL rfl (Wants.free rfl) rfl (Rd.ld (v := .int .i64 t1) rfl (by kernel_rfl) (eqs hc1)) ?_
    refine LW.rd hL rfl (Wants.free rfl) rfl (Rd.bin (v := .bool (t1 == 1)) rfl rfl (fun w => by kernel_rfl)) ?_
    refine LW.nil hL rfl ?_
    refine NW.then ?_
    refine CW.cond rfl (fun hb20 => ?_) (fun hb20 => ?_)
    ·replace h := h.1 hb20
     obtain ⟨w39, hw_w39⟩ : ∃ x, x = World.drew w11 := ⟨_, rfl⟩
     have hc_w39 := sil_drew (Chg.refl [] w11) hw_w39
     replace hB := hB.drew hw_w39
     replace hK := XR.Marks.drew hK hw_w39
     refine CW.drawn (fun w => w = w39) 16 (by kernel_rfl) fun H hH => ?_
     rw [← hw_w39]
     refine HW.pure (i := 0) hH rfl (by kernel_rfl) (Wants.free rfl) rfl (fun _ => rfl) (Rd.move (v := .pointer r4) rfl) ?_
     refine HW.pure (i := 1) hH rfl (by kernel_rfl) (Wants.free rfl) rfl (fun _ => rfl) (Rd.move (v := .slice l1 l1n l1c) rfl) ?_
     refine HW.pure (i := 2) hH rfl (by kernel_rfl) (Wants.free rfl) rfl (fun _ => rfl) (Rd.move (v := .int .i64 i1) rfl) ?_
     refine HW.pure (i := 3) hH rfl (by kernel_rfl) (Wants.free rfl) rfl (fun _ => rfl) (Rd.iaS (q := a1) (sz := 6) (by rw [← he1]; rfl) rfl Tryz.underlying69 (by kernel_rfl) hi1 hi2) ?_
     refine HW.pure (i := 4) hH rfl (by kernel_rfl) (Wants.free rfl) rfl (fun _ => rfl) (Rd.fa (v := .pointer (some ((a1.add (Int.toNat i1 * 6)).add 2))) rfl (fun _ => by kernel_rfl)) ?_
     replace h := h  w39  hc_w39
     obtain ⟨t2, t3, hc2, h⟩ := h
     refine HW.take (i := 5) hH rfl (by kernel_rfl) (by kernel_rfl) (Wants.free rfl) rfl (fun _ => rfl) (Rd.ldN (cs := [.int .i64 t2, .int .i64 t3]) rfl (by kernel_rfl) (by kernel_rfl) (cellsS hc2)) ?_
     refine HW.pure (i := 6) hH rfl (by kernel_rfl) (Wants.free rfl) rfl (fun _ => rfl) (Rd.move (v := .slice l1 l1n l1c) rfl) ?_
     refine HW.pure (i := 7) hH rfl (by kernel_rfl) (Wants.free rfl) rfl (fun _ => rfl) (Rd.move (v := .int .i64 i1) rfl) ?_
     refine HW.pure (i := 8) hH rfl (by kernel_rfl) (Wants.free rfl) rfl (fun _ => rfl) (Rd.iaS (q := a1) (sz := 6) (by rw [← he1]; rfl) rfl Tryz.underlying69 (by kernel_rfl) hi1 hi2) ?_
     refine HW.pure (i := 9) hH rfl (by kernel_rfl) (Wants.free rfl) rfl (fun _ => rfl) (Rd.fa (v := .pointer (some ((a1.add (Int.toNat i1 * 6)).add 1))) rfl (fun _ => by kernel_rfl)) ?_
     obtain ⟨t4, hc3, h⟩ := h
     refine HW.take (i := 10) hH rfl (by kernel_rfl) (by kernel_rfl) (Wants.free rfl) rfl (fun _ => rfl) (Rd.ld (v := .int .i64 t4) rfl (by kernel_rfl) (eqs hc3)) ?_
     refine HW.pure (i := 11) hH rfl (by kernel_rfl) (Wants.free rfl) rfl (fun _ => rfl) (Rd.move (v := .slice l1 l1n l1c) rfl) ?_
     refine HW.pure (i := 12) hH rfl (by kernel_rfl) (Wants.free rfl) rfl (fun _ => rfl) (Rd.move (v := .int .i64 i1) rfl) ?_
     refine HW.pure (i := 13) hH rfl (by kernel_rfl) (Wants.free rfl) rfl (fun _ => rfl) (Rd.iaS (q := a1) (sz := 6) (by rw [← he1]; rfl) rfl Tryz.underlying69 (by kernel_rfl) hi1 hi2) ?_
     refine HW.pure (i := 14) hH rfl (by kernel_rfl) (Wants.free rfl) rfl (fun _ => rfl) (Rd.fa (v := .pointer (some ((a1.add (Int.toNat i1 * 6)).add 4))) rfl (fun _ => by kernel_rfl)) ?_
     obtain ⟨t5, hc4, h⟩ := h
     refine HW.take (i := 15) hH rfl (by kernel_rfl) (by kernel_rfl) (Wants.free rfl) rfl (fun _ => rfl) (Rd.ld (v := .int .u32 t5) rfl (by kernel_rfl) (eqs hc4)) ?_
     refine HW.call (i := 16) hH (by kernel_rfl) rfl (Wants.free rfl) rfl (Cl.fn (f := 31) rfl Tryz.func31 (by kernel_rfl) rfl) h (fun e w40 h_ => ?_)
     clear h
     obtain ⟨r17, rfl, h⟩ := h_
     obtain ⟨hsm13, h⟩ := h
     replace hB := Boxes.sameS hB hsm13 (by simp)
     replace hK := XR.Marks.same hK hsm13 (by simp +contextual)
     refine ⟨_, rfl, (fun hc => by cases hc), ?_⟩
     refine HW.pure (i := 17) hH rfl (by kernel_rfl) (Wants.free rfl) rfl (fun hc => by cases hc) (Rd.assign (v := .int .i64 r17) rfl) ?_
     refine HW.done hH (by kernel_rfl) ?_
     exact NW.cut (S := Int) (Ek := fun ev1 => [(0, .int .i64 most1), (1, .slice l1 l1n l1c), (4, .pointer (some (⟨b1, 0, none⟩ : Addr))), (6, .pointer r4), (8, .int .i64 i1), (9, .pointer (some (⟨b3, 0, none⟩ : Addr))), (10, .int .i64 ev1)]) r17 (by exact ⟨rfl, rfl, rfl, rfl, rfl, rfl, rfl, trivial⟩) ⟨h, hK, (hB.sel [1, 0] (by decide) rfl)⟩
    ·replace h := h.2 hb20
     refine CW.region fun L hL => ?_
     refine LW.rd hL rfl (Wants.free rfl) rfl (Rd.move (v := .pointer r4) rfl) ?_
     refine LW.rd hL rfl (Wants.free rfl) rfl (Rd.move (v := .slice l1 l1n l1c) rfl) ?_
     refine LW.rd hL rfl (Wants.free rfl) rfl (Rd.move (v := .int .i64 i1) rfl) ?_
     refine LW.rd hL rfl (Wants.free rfl) rfl (Rd.iaS (q := a1) (sz := 6) (by rw [← he1]; rfl) rfl Tryz.underlying69 (by kernel_rfl) hi1 hi2) ?_
     refine LW.rd hL rfl (Wants.free rfl) rfl (Rd.fa (v := .pointer (some ((a1.add (Int.toNat i1 * 6)).add 5))) rfl (fun _ => by kernel_rfl)) ?_
     obtain ⟨t6, t6n, t6c, hc5, h⟩ := h
     refine LW.rd hL rfl (Wants.free rfl) rfl (Rd.ld (v := .slice t6 t6n t6c) rfl (by kernel_rfl) (eqs hc5)) ?_
     refine LW.call hL rfl (Wants.free rfl) rfl (Cl.fn (f := 32) rfl Tryz.func32 (by kernel_rfl) rfl) h (fun e w41 h_ => ?_)
     clear h
     obtain ⟨r18, rfl, h⟩ := h_
     obtain ⟨hsm14, h⟩ := h
     replace hB := Boxes.sameS hB hsm14 (by simp)
     replace hK := XR.Marks.same hK hsm14 (by simp +contextual)
     refine ⟨_, rfl, ?_⟩
     refine LW.rd hL rfl (Wants.free rfl) rfl (Rd.assign (v := .int .i64 r18) rfl) ?_
     refine LW.nil hL rfl ?_
     exact NW.cut (S := Int) (Ek := fun ev1 => [(0, .int .i64 most1), (1, .slice l1 l1n l1c), (4, .pointer (some (⟨b1, 0, none⟩ : Addr))), (6, .pointer r4), (8, .int .i64 i1), (9, .pointer (some (⟨b3, 0, none⟩ : Addr))), (10, .int .i64 ev1)]) r18 (by exact ⟨rfl, rfl, rfl, rfl, rfl, rfl, rfl, trivial⟩) ⟨h, hK, (hB.sel [1, 0] (by decide) rfl)⟩
  ·replace h := h.2 hb6
   refine CW.exit ?_
   refine XW.then ?_
   refine XW.then ?_
   refine XW.hit ?_
   refine NW.then ?_
   refine CW.seq ?_
   refine CW.region fun L hL => ?_
   refine LW.call hL rfl (Wants.free rfl) rfl (Cl.fn (f := 25) rfl Tryz.func25 (by kernel_rfl) rfl) h (fun e w42 h_ => ?_)
   clear h
   obtain ⟨r19, rfl, h⟩ := h_
   obtain ⟨hsm15, h⟩ := h
   replace hB := Boxes.sameS hB hsm15 (by simp)
   replace hK := XR.Marks.same hK hsm15 (by simp +contextual)
   refine ⟨_, rfl, ?_⟩
   obtain ⟨w43, hw_w43⟩ : ∃ x, x = World.setCell w42 (⟨b1, 0, none⟩ : Addr) (.bool r19) := ⟨_, rfl⟩
   refine LW.eff hL rfl (Wants.free rfl) rfl (stE hw_w43 (Ef.st rfl rfl rfl (by kernel_rfl) (box_cell (v := u1) (hB.at (i := 0) rfl) rfl) (free_of (hB.at (i := 0) rfl) 0))) ?_
   replace hK := XR.Marks.set hK (hB.at (i := 0) rfl) (sil_c1 hw_w43)
   replace hB : Boxes w43 [(b1, [.bool r19], 4)] := Boxes.store1  (i := 0) (o := 0) hB rfl rfl rfl rfl hw_w43
   have hc_w43 : Chg [b1] w42 w43 := sil_more (Chg.refl [] w42) (sil_c1 hw_w43)
   refine LW.nil hL rfl ?_
   refine NW.then ?_
   replace h := h  w43  hc_w43
   refine CW.ret ?_
   exact XR.resM (ms := ms1) (vs := [.bool r19]) hK rfl (fun w_ hc_ => ⟨(ResOK.c rfl (lv1 (by kernel_rfl) (box_cell (Boxes.at (i := 0) (hB.marks hK hc_) rfl) rfl)) ResOK.nil), r19, rfl, h w_ hc_⟩)
end Go.Proofs.YtfcfkhbkkfpehaaGreat
end
section
namespace Go.Proofs.YtfcfkhbkkfpehaaGreat
open Go Go.X
/- pomander/labels.Same -/
def W_labels_Same (a1 : Option Addr) (b1 : Option Addr) (w : World) (R : Bool → World → Prop) : Prop :=
 Calls Tryz.prog 77 #[.pointer a1] w fun e w1 => ∃ (r2 : Bool), e = .returned (.bool r2) ∧ (∃ J1 : Bool → World → Prop, (∀ (b2 : Bool) (w2 : World), J1 b2 w2 → (b2 = true → Calls Tryz.prog 77 #[.pointer a1] w2 fun e w4 => ∃ (r4 : Bool), e = .returned (.bool r4) ∧ (∃ J2 : Bool → World → Prop, (∀ (b3 : Bool) (w5 : World), J2 b3 w5 → R b3 w5) ∧ ((r4 = true → Calls Tryz.prog 77 #[.pointer b1] w4 fun e w6 => ∃ (r5 : Bool), e = .returned (.bool r5) ∧ (J2 r5 w6)) ∧ (r4 = false → J2 false w4)))) ∧ (b2 = false → ∃ a2 : Addr, a1 = some a2 ∧ (∀ (w7 : World), Chg [] w2 w7 → (∃ (t1 : Int), w7.cell? a2 = some (.int .i64 t1) ∧ (∃ a3 : Addr, b1 = some a3 ∧ (∃ (t2 : Int), w7.cell? a3 = some (.int .i64 t2) ∧ (∃ J3 : Bool → World → Prop, (∀ (b4 : Bool) (w8 : World), J3 b4 w8 → R b4 w8) ∧ (((t1 == t2) = true → ∃ (t3 : Option Addr) (t3n : Nat) (t3c : Nat), w7.cell? (a2.add 1) = some (.slice t3 t3n t3c) ∧ (∃ (t4 : Option Addr) (t4n : Nat) (t4c : Nat), w7.cell? (a3.add 1) = some (.slice t4 t4n t4c) ∧ (Calls Tryz.prog 87 #[.slice t3 t3n t3c, .slice t4 t4n t4c] w7 fun e w9 => ∃ (r6 : Bool), e = .returned (.bool r6) ∧ (J3 r6 w9)))) ∧ ((t1 == t2) = false → J3 false w7))))))))) ∧ ((r2 = false → Calls Tryz.prog 77 #[.pointer b1] w1 fun e w3 => ∃ (r3 : Bool), e = .returned (.bool r3) ∧ (J1 r3 w3)) ∧ (r2 = true → J1 true w1)))
set_option maxRecDepth 100000 in
theorem go_labels_Same (a1 : Option Addr) (b1 : Option Addr) (w : World) (R : Bool → World → Prop) (h : W_labels_Same a1 b1 w R) : Calls Tryz.prog 53 #[.pointer a1, .pointer b1] w (fun e w' => ∃ (r1 : Bool), e = .returned (.bool r1) ∧ R r1 w') := by
 unfold W_labels_Same at h
 refine enter (N := 37) Tryz.func53 rfl rfl ?_
 refine CW.seq ?_
 refine CW.region fun L hL => ?_
 refine LW.rd hL rfl (Wants.free rfl) rfl (Rd.assign (v := .bool false) rfl) ?_
 refine LW.nil hL rfl ?_
 refine NW.then ?_
 refine CW.seq ?_
 refine CW.seq ?_
 refine CW.region fun L hL => ?_
 refine LW.rd hL rfl (Wants.free rfl) rfl (Rd.move (v := .pointer a1) rfl) ?_
 refine LW.call hL rfl (Wants.free rfl) rfl (Cl.fn (f := 77) rfl Tryz.func77 (by kernel_rfl) rfl) h (fun e w1 h_ => ?_)
 clear h
 obtain ⟨r2, rfl, h⟩ := h_
 refine ⟨_, rfl, ?_⟩
 refine LW.rd hL rfl (Wants.free rfl) rfl (Rd.move (v := .bool r2) rfl) ?_
 obtain ⟨J1, hJ1, h1_J1, h0_J1⟩ := h
 suffices K1 : ∀ (b2 : Bool) (w2 : World), J1 b2 w2 → L 6 [(0, .pointer a1), (1, .pointer b1), (4, .bool false), (10, .bool b2)] w2 by
  rcases Bool.eq_false_or_eq_true r2 with hb1 | hb1
  ·have h := h0_J1 hb1
   refine LW.skip hL rfl (Skips.on rfl rfl rfl rfl rfl hb1) rfl ?_
   refine LW.skip hL rfl (Skips.on rfl rfl rfl rfl rfl hb1) rfl ?_
   refine LW.rd hL rfl (Wants.free rfl) rfl (Rd.pickT rfl hb1 rfl) ?_
   exact LW.sub hL (by exact ⟨rfl, rfl, rfl, rfl, trivial⟩) (K1 true w1 h)
  ·have h := h1_J1 hb1
   refine LW.rd hL rfl (Wants.on rfl rfl rfl rfl rfl hb1) rfl (Rd.move (v := .pointer b1) rfl) ?_
   refine LW.call hL rfl (Wants.on rfl rfl rfl rfl rfl hb1) rfl (Cl.fn (f := 77) rfl Tryz.func77 (by kernel_rfl) rfl) h (fun e w3 h_ => ?_)
   clear h
   obtain ⟨r3, rfl, h⟩ := h_
   refine ⟨_, rfl, ?_⟩
   refine LW.rd hL rfl (Wants.free rfl) rfl (Rd.pickF rfl hb1 rfl) ?_
   exact LW.sub hL (by exact ⟨rfl, rfl, rfl, rfl, trivial⟩) (K1 r3 w3 h)
 intro b2 w2 h_
 have h := hJ1 b2 w2 h_; clear h_
 refine LW.nil hL rfl ?_
 refine NW.then ?_
 refine CW.cond rfl (fun hb2 => ?_) (fun hb2 => ?_)
 ·replace h := h.1 hb2
  refine CW.seq ?_
  refine CW.region fun L hL => ?_
  refine LW.rd hL rfl (Wants.free rfl) rfl (Rd.move (v := .pointer a1) rfl) ?_
  refine LW.call hL rfl (Wants.free rfl) rfl (Cl.fn (f := 77) rfl Tryz.func77 (by kernel_rfl) rfl) h (fun e w4 h_ => ?_)
  clear h
  obtain ⟨r4, rfl, h⟩ := h_
  refine ⟨_, rfl, ?_⟩
  refine LW.rd hL rfl (Wants.free rfl) rfl (Rd.move (v := .bool r4) rfl) ?_
  obtain ⟨J2, hJ2, h1_J2, h0_J2⟩ := h
  suffices K2 : ∀ (b3 : Bool) (w5 : World), J2 b3 w5 → L 6 [(0, .pointer a1), (1, .pointer b1), (4, .bool false), (16, .bool b3)] w5 by
   rcases Bool.eq_false_or_eq_true r4 with hb3 | hb3
   ·have h := h1_J2 hb3
    refine LW.rd hL rfl (Wants.on rfl rfl rfl rfl rfl hb3) rfl (Rd.move (v := .pointer b1) rfl) ?_
    refine LW.call hL rfl (Wants.on rfl rfl rfl rfl rfl hb3) rfl (Cl.fn (f := 77) rfl Tryz.func77 (by kernel_rfl) rfl) h (fun e w6 h_ => ?_)
    clear h
    obtain ⟨r5, rfl, h⟩ := h_
    refine ⟨_, rfl, ?_⟩
    refine LW.rd hL rfl (Wants.free rfl) rfl (Rd.pickT rfl hb3 rfl) ?_
    exact LW.sub hL (by exact ⟨rfl, rfl, rfl, rfl, trivial⟩) (K2 r5 w6 h)
   ·have h := h0_J2 hb3
    refine LW.skip hL rfl (Skips.on rfl rfl rfl rfl rfl hb3) rfl ?_
    refine LW.skip hL rfl (Skips.on rfl rfl rfl rfl rfl hb3) rfl ?_
    refine LW.rd hL rfl (Wants.free rfl) rfl (Rd.pickF rfl hb3 rfl) ?_
    exact LW.sub hL (by exact ⟨rfl, rfl, rfl, rfl, trivial⟩) (K2 false w4 h)
  intro b3 w5 h_
  have h := hJ2 b3 w5 h_; clear h_
  refine LW.rd hL rfl (Wants.free rfl) rfl (Rd.assign (v := .bool b3) rfl) ?_
  refine LW.nil hL rfl ?_
  refine NW.then ?_
  refine CW.ret ?_
  refine RW.then ?_
  exact res1 rfl rfl ⟨b3, rfl, h⟩
 ·replace h := h.2 hb2
  refine CW.skip ?_
  refine NW.then ?_
  refine CW.seq ?_
  obtain ⟨w7, hw_w7⟩ : ∃ x, x = World.drew w2 := ⟨_, rfl⟩
  have hc_w7 := sil_drew (Chg.refl [] w2) hw_w7
  refine CW.drawn (fun w => w = w7) 18 (by kernel_rfl) fun H hH => ?_
  rw [← hw_w7]
  refine HW.pure (i := 0) hH rfl (by kernel_rfl) (Wants.free rfl) rfl (fun _ => rfl) (Rd.move (v := .pointer a1) rfl) ?_
  obtain ⟨a2, ha1, h⟩ := h
  refine HW.pure (i := 1) hH rfl (by kernel_rfl) (Wants.free rfl) rfl (fun _ => rfl) (Rd.nil (q := a2) (by rw [← ha1]; rfl)) ?_
  refine HW.pure (i := 2) hH rfl (by kernel_rfl) (Wants.free rfl) rfl (fun _ => rfl) (Rd.fa (v := .pointer (some a2)) rfl (fun _ => by kernel_rfl)) ?_
  replace h := h  w7  hc_w7
  obtain ⟨t1, hc1, h⟩ := h
  refine HW.take (i := 3) hH rfl (by kernel_rfl) (by kernel_rfl) (Wants.free rfl) rfl (fun _ => rfl) (Rd.ld (v := .int .i64 t1) rfl (by kernel_rfl) (eqs hc1)) ?_
  refine HW.pure (i := 4) hH rfl (by kernel_rfl) (Wants.free rfl) rfl (fun _ => rfl) (Rd.move (v := .pointer b1) rfl) ?_
  obtain ⟨a3, ha2, h⟩ := h
  refine HW.pure (i := 5) hH rfl (by kernel_rfl) (Wants.free rfl) rfl (fun _ => rfl) (Rd.nil (q := a3) (by rw [← ha2]; rfl)) ?_
  refine HW.pure (i := 6) hH rfl (by kernel_rfl) (Wants.free rfl) rfl (fun _ => rfl) (Rd.fa (v := .pointer (some a3)) rfl (fun _ => by kernel_rfl)) ?_
  obtain ⟨t2, hc2, h⟩ := h
  refine HW.take (i := 7) hH rfl (by kernel_rfl) (by kernel_rfl) (Wants.free rfl) rfl (fun _ => rfl) (Rd.ld (v := .int .i64 t2) rfl (by kernel_rfl) (eqs hc2)) ?_
  refine HW.pure (i := 8) hH rfl (by kernel_rfl) (Wants.free rfl) rfl (fun _ => rfl) (Rd.bin (v := .bool (t1 == t2)) rfl rfl (fun w => by kernel_rfl)) ?_
  refine HW.pure (i := 9) hH rfl (by kernel_rfl) (Wants.free rfl) rfl (fun _ => rfl) (Rd.move (v := .bool (t1 == t2)) rfl) ?_
  obtain ⟨J3, hJ3, h1_J3, h0_J3⟩ := h
  suffices K3 : ∀ (b4 : Bool) (w8 : World), J3 b4 w8 → H 1 #[true, true, true, true, true, true, true, true, true, true, true, true, true, true, true, true, true, true, true, true, false] [(4, .bool false), (36, .bool b4)] w8 by
   rcases Bool.eq_false_or_eq_true (t1 == t2) with hb4 | hb4
   ·have h := h1_J3 hb4
    refine HW.pure (i := 10) hH rfl (by kernel_rfl) (Wants.on rfl rfl rfl rfl rfl hb4) rfl (fun _ => rfl) (Rd.move (v := .pointer a1) rfl) ?_
    refine HW.pure (i := 11) hH rfl (by kernel_rfl) (Wants.on rfl rfl rfl rfl rfl hb4) rfl (fun _ => rfl) (Rd.nil (q := a2) (by rw [← ha1]; rfl)) ?_
    refine HW.pure (i := 12) hH rfl (by kernel_rfl) (Wants.on rfl rfl rfl rfl rfl hb4) rfl (fun _ => rfl) (Rd.fa (v := .pointer (some (a2.add 1))) rfl (fun _ => by kernel_rfl)) ?_
    obtain ⟨t3, t3n, t3c, hc3, h⟩ := h
    refine HW.take (i := 13) hH rfl (by kernel_rfl) (by kernel_rfl) (Wants.on rfl rfl rfl rfl rfl hb4) rfl (fun _ => rfl) (Rd.ld (v := .slice t3 t3n t3c) rfl (by kernel_rfl) (eqs hc3)) ?_
    refine HW.pure (i := 14) hH rfl (by kernel_rfl) (Wants.on rfl rfl rfl rfl rfl hb4) rfl (fun _ => rfl) (Rd.move (v := .pointer b1) rfl) ?_
    refine HW.pure (i := 15) hH rfl (by kernel_rfl) (Wants.on rfl rfl rfl rfl rfl hb4) rfl (fun _ => rfl) (Rd.nil (q := a3) (by rw [← ha2]; rfl)) ?_
    refine HW.pure (i := 16) hH rfl (by kernel_rfl) (Wants.on rfl rfl rfl rfl rfl hb4) rfl (fun _ => rfl) (Rd.fa (v := .pointer (some (a3.add 1))) rfl (fun _ => by kernel_rfl)) ?_
    obtain ⟨t4, t4n, t4c, hc4, h⟩ := h
    refine HW.take (i := 17) hH rfl (by kernel_rfl) (by kernel_rfl) (Wants.on rfl rfl rfl rfl rfl hb4) rfl (fun _ => rfl) (Rd.ld (v := .slice t4 t4n t4c) rfl (by kernel_rfl) (eqs hc4)) ?_
    refine HW.call (i := 18) hH (by kernel_rfl) rfl (Wants.on rfl rfl rfl rfl rfl hb4) rfl (Cl.fn (f := 87) rfl Tryz.func87 (by kernel_rfl) rfl) h (fun e w9 h_ => ?_)
    clear h
    obtain ⟨r6, rfl, h⟩ := h_
    refine ⟨_, rfl, (fun hc => by cases hc), ?_⟩
    refine HW.pure (i := 19) hH rfl (by kernel_rfl) (Wants.free rfl) rfl (fun hc => by cases hc) (Rd.pickT rfl hb4 rfl) ?_
    exact HW.sub hH (by exact ⟨rfl, rfl, trivial⟩) (K3 r6 w9 h)
   ·have h := h0_J3 hb4
    refine HW.skip (i := 10) hH rfl (by kernel_rfl) (Skips.on rfl rfl rfl rfl rfl hb4) rfl (fun _ => rfl) ?_
    refine HW.skip (i := 11) hH rfl (by kernel_rfl) (Skips.on rfl rfl rfl rfl rfl hb4) rfl (fun _ => rfl) ?_
    refine HW.skip (i := 12) hH rfl (by kernel_rfl) (Skips.on rfl rfl rfl rfl rfl hb4) rfl (fun _ => rfl) ?_
    refine HW.skip (i := 13) hH rfl (by kernel_rfl) (Skips.on rfl rfl rfl rfl rfl hb4) rfl (fun _ => rfl) ?_
    refine HW.skip (i := 14) hH rfl (by kernel_rfl) (Skips.on rfl rfl rfl rfl rfl hb4) rfl (fun _ => rfl) ?_
    refine HW.skip (i := 15) hH rfl (by kernel_rfl) (Skips.on rfl rfl rfl rfl rfl hb4) rfl (fun _ => rfl) ?_
    refine HW.skip (i := 16) hH rfl (by kernel_rfl) (Skips.on rfl rfl rfl rfl rfl hb4) rfl (fun _ => rfl) ?_
    refine HW.skip (i := 17) hH rfl (by kernel_rfl) (Skips.on rfl rfl rfl rfl rfl hb4) rfl (fun _ => rfl) ?_
    refine HW.skip1 (i := 18) hH (by kernel_rfl) rfl (Skips.on rfl rfl rfl rfl rfl hb4) rfl (fun hc => by cases hc) ?_
    refine HW.pure (i := 19) hH rfl (by kernel_rfl) (Wants.free rfl) rfl (fun hc => by cases hc) (Rd.pickF rfl hb4 rfl) ?_
    exact HW.sub hH (by exact ⟨rfl, rfl, trivial⟩) (K3 false w7 h)
  intro b4 w8 h_
  have h := hJ3 b4 w8 h_; clear h_
  refine HW.pure (i := 20) hH rfl (by kernel_rfl) (Wants.free rfl) rfl (fun hc => by cases hc) (Rd.assign (v := .bool b4) rfl) ?_
  refine HW.done hH (by kernel_rfl) ?_
  refine NW.then ?_
  refine CW.ret ?_
  exact res1 rfl rfl ⟨b4, rfl, h⟩
/- maps.Equal[map[pomander/api.Place]uint32,map[pomander/api.Place]uint32,pomander/api.Place,uint32] -/
def W_maps_Equal_600 (m11 : Option Nat) (m21 : Option Nat) (w : World) (R : Bool → World → Prop) : Prop :=
 ∃ n1 : Int, (Builtin.len_ #[99] 3 #[.map m11]).run Tryz.prog w = .ok (.int .i64 n1) w ∧ (∃ n2 : Int, (Builtin.len_ #[99] 3 #[.map m21]).run Tryz.prog w = .ok (.int .i64 n2) w ∧ (((!(n1 == n2)) = true → R false w) ∧ ((!(n1 == n2)) = false → ∃ (it1 : Option Addr) (w1 : World), (Instr.range 99 (.map m11)).run Tryz.prog w = .ok (.pointer it1) w1 ∧ (∃ (I1 : Bool → World → Prop) (m1 : Bool → World → Nat), I1 false w1 ∧ ∀ (x1 : Bool) (w2 : World), I1 x1 w2 → ∃ (nx1 : Array Value) (ok1 : Bool) (w3 : World), (Instr.next (.pointer it1) false 0).run Tryz.prog w2 = .ok (.tuple nx1) w3 ∧ nx1[0]? = some (.bool ok1) ∧ ((ok1 = true → ∃ (k1 : Int) (k2 : Int) (v1 : Int), (Instr.entry (.pointer it1)).run Tryz.prog w3 = .ok (.tuple #[.agg #[.int .i64 k1, .int .i64 k2], .int .u32 v1]) w3 ∧ (∀ (b1 : Nat) (w5 : World), (w3.heap.size ≤ b1 ∧ b1 < w5.heap.size) → Chg [] w3 w5 → (∃ (v2 : Int) (ok2 : Bool), (Instr.lookup 99 (.map m21) (.agg #[.int .i64 k1, .int .i64 k2]) true).run Tryz.prog w5 = .ok (.tuple #[.int .u32 v2, .bool ok2]) w5 ∧ (((!ok2 || !(v1 == v2)) = true → R false w5) ∧ ((!ok2 || !(v1 == v2)) = false → (I1 x1 w5 ∧ m1 x1 w5 < m1 x1 w2)))))) ∧ (ok1 = false → R true w3))))))
set_option maxRecDepth 100000 in
theorem go_maps_Equal_600 (m11 : Option Nat) (m21 : Option Nat) (w : World) (R : Bool → World → Prop) (h : W_maps_Equal_600 m11 m21 w R) : Calls Tryz.prog 54 #[.map m11, .map m21] w (fun e w' => ∃ (r1 : Bool), e = .returned (.bool r1) ∧ R r1 w') := by
 unfold W_maps_Equal_600 at h
 refine enter (N := 34) Tryz.func54 rfl rfl ?_
 refine CW.seq ?_
 refine CW.region fun L hL => ?_
 refine LW.rd hL rfl (Wants.free rfl) rfl (Rd.assign (v := .bool false) rfl) ?_
 refine LW.nil hL rfl ?_
 refine NW.then ?_
 refine CW.seq ?_
 refine CW.seq ?_
 refine CW.region fun L hL => ?_
 refine LW.rd hL rfl (Wants.free rfl) rfl (Rd.move (v := .map m11) rfl) ?_
 obtain ⟨n1, hl1, h⟩ := h
 refine LW.rd hL rfl (Wants.free rfl) rfl (Rd.builtin (v := .int .i64 n1) rfl (fun _ e => e ▸ lenB hl1)) ?_
 refine LW.rd hL rfl (Wants.free rfl) rfl (Rd.move (v := .map m21) rfl) ?_
 obtain ⟨n2, hl2, h⟩ := h
 refine LW.rd hL rfl (Wants.free rfl) rfl (Rd.builtin (v := .int .i64 n2) rfl (fun _ e => e ▸ lenB hl2)) ?_
 refine LW.rd hL rfl (Wants.free rfl) rfl (Rd.bin (v := .bool (!(n1 == n2))) rfl rfl (fun w => by kernel_rfl)) ?_
 refine LW.nil hL rfl ?_
 refine NW.then ?_
 refine CW.cond rfl (fun hb1 => ?_) (fun hb1 => ?_)
 ·replace h := h.1 hb1
  refine CW.seq ?_
  refine CW.region fun L hL => ?_
  refine LW.rd hL rfl (Wants.free rfl) rfl (Rd.assign (v := .bool false) rfl) ?_
  refine LW.nil hL rfl ?_
  refine NW.then ?_
  refine CW.ret ?_
  refine RW.then ?_
  exact res1 rfl rfl ⟨false, rfl, h⟩
 ·replace h := h.2 hb1
  refine CW.skip ?_
  refine NW.then ?_
  refine CW.seq ?_
  refine CW.seq ?_
  refine CW.region fun L hL => ?_
  refine LW.rd hL rfl (Wants.free rfl) rfl (Rd.move (v := .map m11) rfl) ?_
  obtain ⟨it1, w1, hm1, h⟩ := h
  refine LW.val hL rfl (Wants.free rfl) rfl (Vl.range (v := .pointer it1) rfl hm1) ?_
  refine LW.nil hL rfl ?_
  refine NW.then ?_
  refine CW.block ?_
  obtain ⟨I1, m1, hI1, h⟩ := h
  refine CW.loop (S := Bool) (fun x1 => [(1, .map m21), (15, .pointer it1), (4, .bool x1)]) (fun x1 w2 => I1 x1 w2) (fun x1 w2 => m1 x1 w2) false (by exact ⟨rfl, rfl, rfl, trivial⟩) hI1 (fun x1 w2 hI1 => ?_)
  replace h := h x1 w2 hI1
  refine CW.seq ?_
  refine CW.region fun L hL => ?_
  obtain ⟨nx1, ok1, w3, hm2, hk1, h⟩ := h
  refine LW.val hL rfl (Wants.free rfl) rfl (Vl.next (v := .tuple nx1) rfl hm2) ?_
  refine LW.rd hL rfl (Wants.free rfl) rfl (Rd.extract (v := .bool ok1) rfl hk1) ?_
  refine LW.nil hL rfl ?_
  refine NW.then ?_
  refine CW.seq ?_
  refine CW.cond rfl (fun hb2 => ?_) (fun hb2 => ?_)
  ·replace h := h.1 hb2
   refine CW.skip ?_
   refine NW.then ?_
   refine CW.block ?_
   refine CW.seq ?_
   refine CW.region fun L hL => ?_
   obtain ⟨k1, k2, v1, hl3, h⟩ := h
   refine LW.rd hL rfl (Wants.free rfl) rfl (Rd.entry (v := .tuple #[.agg #[.int .i64 k1, .int .i64 k2], .int .u32 v1]) rfl (fun _ e => e ▸ hl3)) ?_
   refine LW.rd hL rfl (Wants.free rfl) rfl (Rd.extract (v := .agg #[.int .i64 k1, .int .i64 k2]) rfl rfl) ?_
   refine LW.rd hL rfl (Wants.free rfl) rfl (Rd.extract (v := .int .u32 v1) rfl rfl) ?_
   obtain ⟨b1, hb_b1⟩ : ∃ b1, b1 = World.size w3 := ⟨_, rfl⟩
   obtain ⟨w4, hw_w4⟩ : ∃ w4, w4 = World.alloc w3 (.cells #[.int .i64 0, .int .i64 0] 62) := ⟨_, rfl⟩
   refine LW.val hL rfl (Wants.free rfl) rfl (boxE hb_b1 hw_w4 (Vl.alloc (z := .agg #[.int .i64 0, .int .i64 0]) (by kernel_rfl))) ?_
   have hB := Boxes.alloc (cs := [.int .i64 0, .int .i64 0]) (T := 62) (Boxes.nil w3) hb_b1 hw_w4
   have hlo_b1 := sil_lo (Chg.refl [] w3) hb_b1
   have hc_w4 := sil_alloc (Chg.refl [] w3) hw_w4
   obtain ⟨w5, hw_w5⟩ : ∃ x, x = setCells w4 (⟨b1, 0, none⟩ : Addr) 0 [.int .i64 k1, .int .i64 k2] := ⟨_, rfl⟩
   refine LW.eff hL rfl (Wants.free rfl) rfl (stNE hw_w5 (Ef.stN (cs := [.int .i64 k1, .int .i64 k2]) rfl rfl (by kernel_rfl) (List.forall_mem_cons.2 ⟨rfl, (List.forall_mem_cons.2 ⟨rfl, (List.forall_mem_nil _)⟩)⟩) (has_of (hB.at (i := 0) rfl) (by simp)) (free_of' (hB.at (i := 0) rfl)))) ?_
   replace hB : Boxes w5 [(b1, [.int .i64 k1, .int .i64 k2], 62)] := Boxes.store (vs := [.int .i64 k1, .int .i64 k2]) (i := 0) (o := 0) hB rfl rfl rfl rfl hw_w5
   have hc_w5 := sil_new hc_w4 (sil_cN hw_w5) hlo_b1
   refine LW.rd hL rfl (Wants.free rfl) rfl (Rd.assign (v := .int .u32 v1) rfl) ?_
   refine LW.nil hL rfl ?_
   refine NW.then ?_
   refine CW.seq ?_
   refine CW.region fun L hL => ?_
   refine LW.rd hL rfl (Wants.free rfl) rfl (Rd.move (v := .map m21) rfl) ?_
   refine LW.rd hL rfl (Wants.free rfl) rfl (Rd.ldN (cs := [.int .i64 k1, .int .i64 k2]) rfl (by kernel_rfl) (by kernel_rfl) (cellsS (box_cells (hB.at (i := 0) rfl) rfl))) ?_
   replace h := h b1 w5 ⟨hlo_b1, lt_of_heap (hB.at (i := 0) rfl)⟩ hc_w5
   obtain ⟨v2, ok2, hl4, h⟩ := h
   refine LW.rd hL rfl (Wants.free rfl) rfl (Rd.lookup (v := .tuple #[.int .u32 v2, .bool ok2]) rfl rfl (fun _ e => e ▸ hl4)) ?_
   refine LW.rd hL rfl (Wants.free rfl) rfl (Rd.move (v := .tuple #[.int .u32 v2, .bool ok2]) rfl) ?_
   refine LW.rd hL rfl (Wants.free rfl) rfl (Rd.extract (v := .int .u32 v2) rfl rfl) ?_
   refine LW.rd hL rfl (Wants.free rfl) rfl (Rd.extract (v := .bool ok2) rfl rfl) ?_
   refine LW.rd hL rfl (Wants.free rfl) rfl (Rd.assign (v := .int .u32 v2) rfl) ?_
   refine LW.rd hL rfl (Wants.free rfl) rfl (Rd.assign (v := .bool ok2) rfl) ?_
   refine LW.nil hL rfl ?_
   refine NW.then ?_
   refine CW.seq ?_
   refine CW.region fun L hL => ?_
   refine LW.rd hL rfl (Wants.free rfl) rfl (Rd.move (v := .bool ok2) rfl) ?_
   refine LW.rd hL rfl (Wants.free rfl) rfl (Rd.un (v := .bool (!ok2)) rfl (fun _ => by kernel_rfl)) ?_
   refine LW.rd hL rfl (Wants.free rfl) rfl (Rd.move (v := .bool (!ok2)) rfl) ?_
   suffices K1 : L 7 [(1, .map m21), (4, .bool x1), (15, .pointer it1), (33, .bool (!ok2 || !(v1 == v2)))] w5 by
    rcases Bool.eq_false_or_eq_true (!ok2) with hb4 | hb4
    ·skip
     refine LW.skip hL rfl (Skips.on rfl rfl rfl rfl rfl hb4) rfl ?_
     refine LW.skip hL rfl (Skips.on rfl rfl rfl rfl rfl hb4) rfl ?_
     refine LW.skip hL rfl (Skips.on rfl rfl rfl rfl rfl hb4) rfl ?_
     refine LW.rd hL rfl (Wants.free rfl) rfl (Rd.pickT rfl hb4 rfl) ?_
     exact LW.sub hL (by exact ⟨rfl, rfl, rfl, (by rw [hb4]; rfl), trivial⟩) K1
    ·skip
     refine LW.rd hL rfl (Wants.on rfl rfl rfl rfl rfl hb4) rfl (Rd.move (v := .int .u32 v1) rfl) ?_
     refine LW.rd hL rfl (Wants.on rfl rfl rfl rfl rfl hb4) rfl (Rd.move (v := .int .u32 v2) rfl) ?_
     refine LW.rd hL rfl (Wants.on rfl rfl rfl rfl rfl hb4) rfl (Rd.bin (v := .bool (!(v1 == v2))) rfl rfl (fun w => by kernel_rfl)) ?_
     refine LW.rd hL rfl (Wants.free rfl) rfl (Rd.pickF rfl hb4 rfl) ?_
     exact LW.sub hL (by exact ⟨rfl, rfl, rfl, (by rw [hb4]; rfl), trivial⟩) K1
   refine LW.nil hL rfl ?_
   refine NW.then ?_
   refine CW.cond rfl (fun hb5 => ?_) (fun hb5 => ?_)
   ·replace h := h.1 hb5
    refine CW.seq ?_
    refine CW.region fun L hL => ?_
    refine LW.rd hL rfl (Wants.free rfl) rfl (Rd.assign (v := .bool false) rfl) ?_
    refine LW.nil hL rfl ?_
    refine NW.then ?_
    refine CW.ret ?_
    refine RW.block ?_
    refine RW.then ?_
    refine RW.block ?_
    refine RW.then ?_
    exact res1 rfl rfl ⟨false, rfl, h⟩
   ·replace h := h.2 hb5
    refine CW.skip ?_
    refine NW.block ?_
    exact NW.loop (S := Bool) (Ek := fun x1 => [(1, .map m21), (15, .pointer it1), (4, .bool x1)]) x1 (by exact ⟨rfl, rfl, rfl, trivial⟩) h
  ·replace h := h.2 hb2
   refine CW.exit ?_
   refine XW.then ?_
   refine XW.then ?_
   refine XW.hit ?_
   refine NW.then ?_
   refine CW.seq ?_
   refine CW.region fun L hL => ?_
   refine LW.rd hL rfl (Wants.free rfl) rfl (Rd.assign (v := .bool true) rfl) ?_
   refine LW.nil hL rfl ?_
   refine NW.then ?_
   refine CW.ret ?_
   exact res1 rfl rfl ⟨true, rfl, h⟩
/- slices.Equal[[]uint32,uint32] -/
def W_slices_Equal_334 (s11 : Option Addr) (s11n : Nat) (s11c : Nat) (s21 : Option Addr) (s21n : Nat) (s21c : Nat) (w : World) (R : Bool → World → Prop) : Prop :=
 ((!((s11n : Int) == (s21n : Int))) = true → R false w) ∧ ((!((s11n : Int) == (s21n : Int))) = false → ∃ (I1 : Bool → Int → World → Prop) (m1 : Bool → Int → World → Nat), I1 false 0 w ∧ ∀ (x1 : Bool) (x2 : Int) (w1 : World), I1 x1 x2 w1 → ((decide (x2 < (s11n : Int))) = true → ∃ a1 : Addr, s11 = some a1 ∧ (0 : Int) ≤ x2 ∧ x2 < (s11n : Int) ∧ (∀ (w2 : World), Chg [] w1 w2 → (∃ (t1 : Int), w2.cell? (a1.add (Int.toNat x2 * 1)) = some (.int .u32 t1) ∧ (∃ a2 : Addr, s21 = some a2 ∧ (0 : Int) ≤ x2 ∧ x2 < (s21n : Int) ∧ (∃ (t2 : Int), w2.cell? (a2.add (Int.toNat x2 * 1)) = some (.int .u32 t2) ∧ (((!(t1 == t2)) = true → R false w2) ∧ ((!(t1 == t2)) = false → (I1 x1 (IntKind.wrap .i64 (x2 + 1)) w2 ∧ m1 x1 (IntKind.wrap .i64 (x2 + 1)) w2 < m1 x1 x2 w1)))))))) ∧ ((decide (x2 < (s11n : Int))) = false → R true w1))
set_option maxRecDepth 100000 in
theorem go_slices_Equal_334 (s11 : Option Addr) (s11n : Nat) (s11c : Nat) (s21 : Option Addr) (s21n : Nat) (s21c : Nat) (w : World) (R : Bool → World → Prop) (h : W_slices_Equal_334 s11 s11n s11c s21 s21n s21c w R) : Calls Tryz.prog 87 #[.slice s11 s11n s11c, .slice s21 s21n s21c] w (fun e w' => ∃ (r1 : Bool), e = .returned (.bool r1) ∧ R r1 w') := by
 unfold W_slices_Equal_334 at h
 refine enter (N := 26) Tryz.func87 rfl rfl ?_
 refine CW.seq ?_
 refine CW.region fun L hL => ?_
 refine LW.rd hL rfl (Wants.free rfl) rfl (Rd.assign (v := .bool false) rfl) ?_
 refine LW.nil hL rfl ?_
 refine NW.then ?_
 refine CW.seq ?_
 refine CW.seq ?_
 refine CW.region fun L hL => ?_
 refine LW.rd hL rfl (Wants.free rfl) rfl (Rd.move (v := .slice s11 s11n s11c) rfl) ?_
 refine LW.rd hL rfl (Wants.free rfl) rfl (Rd.builtin (v := .int .i64 (s11n : Int)) rfl (fun _ _ => by kernel_rfl)) ?_
 refine LW.rd hL rfl (Wants.free rfl) rfl (Rd.move (v := .slice s21 s21n s21c) rfl) ?_
 refine LW.rd hL rfl (Wants.free rfl) rfl (Rd.builtin (v := .int .i64 (s21n : Int)) rfl (fun _ _ => by kernel_rfl)) ?_
 refine LW.rd hL rfl (Wants.free rfl) rfl (Rd.bin (v := .bool (!((s11n : Int) == (s21n : Int)))) rfl rfl (fun w => by kernel_rfl)) ?_
 refine LW.nil hL rfl ?_
 refine NW.then ?_
 refine CW.cond rfl (fun hb1 => ?_) (fun hb1 => ?_)
 ·replace h := h.1 hb1
  refine CW.seq ?_
  refine CW.region fun L hL => ?_
  refine LW.rd hL rfl (Wants.free rfl) rfl (Rd.assign (v := .bool false) rfl) ?_
  refine LW.nil hL rfl ?_
  refine NW.then ?_
  refine CW.ret ?_
  refine RW.then ?_
  exact res1 rfl rfl ⟨false, rfl, h⟩
 ·replace h := h.2 hb1
  refine CW.skip ?_
  refine NW.then ?_
  refine CW.seq ?_
  refine CW.seq ?_
  refine CW.region fun L hL => ?_
  refine LW.rd hL rfl (Wants.free rfl) rfl (Rd.move (v := .slice s11 s11n s11c) rfl) ?_
  refine LW.rd hL rfl (Wants.free rfl) rfl (Rd.builtin (v := .int .i64 (s11n : Int)) rfl (fun _ _ => by kernel_rfl)) ?_
  refine LW.rd hL rfl (Wants.free rfl) rfl (Rd.move (v := .int .i64 0) rfl) ?_
  refine LW.nil hL rfl ?_
  refine NW.then ?_
  refine CW.block ?_
  obtain ⟨I1, m1, hI1, h⟩ := h
  refine CW.loop (S := Bool × Int) (fun s1 => [(0, .slice s11 s11n s11c), (1, .slice s21 s21n s21c), (12, .int .i64 (s11n : Int)), (4, .bool s1.1), (13, .int .i64 s1.2)]) (fun s1 w1 => I1 s1.1 s1.2 w1) (fun s1 w1 => m1 s1.1 s1.2 w1) (false, 0) (by exact ⟨rfl, rfl, rfl, rfl, rfl, trivial⟩) hI1 (fun s1 w1 hI1 => ?_)
  obtain ⟨x1, x2⟩ := s1; replace h := h x1 x2 w1 hI1
  refine CW.seq ?_
  refine CW.region fun L hL => ?_
  refine LW.rd hL rfl (Wants.free rfl) rfl (Rd.bin (v := .bool (decide (x2 < (s11n : Int)))) rfl rfl (fun w => by kernel_rfl)) ?_
  refine LW.nil hL rfl ?_
  refine NW.then ?_
  refine CW.seq ?_
  refine CW.cond rfl (fun hb2 => ?_) (fun hb2 => ?_)
  ·replace h := h.1 hb2
   refine CW.skip ?_
   refine NW.then ?_
   refine CW.seq ?_
   refine CW.block ?_
   refine CW.seq ?_
   refine CW.region fun L hL => ?_
   refine LW.rd hL rfl (Wants.free rfl) rfl (Rd.move (v := .int .i64 x2) rfl) ?_
   refine LW.rd hL rfl (Wants.free rfl) rfl (Rd.assign (v := .int .i64 x2) rfl) ?_
   refine LW.nil hL rfl ?_
   refine NW.then ?_
   refine CW.seq ?_
   obtain ⟨w2, hw_w2⟩ : ∃ x, x = World.drew w1 := ⟨_, rfl⟩
   have hc_w2 := sil_drew (Chg.refl [] w1) hw_w2
   refine CW.drawn (fun w => w = w2) 9 (by kernel_rfl) fun H hH => ?_
   rw [← hw_w2]
   refine HW.pure (i := 0) hH rfl (by kernel_rfl) (Wants.free rfl) rfl (fun _ => rfl) (Rd.move (v := .slice s11 s11n s11c) rfl) ?_
   refine HW.pure (i := 1) hH rfl (by kernel_rfl) (Wants.free rfl) rfl (fun _ => rfl) (Rd.move (v := .int .i64 x2) rfl) ?_
   obtain ⟨a1, he1, hi1, hi2, h⟩ := h
   refine HW.pure (i := 2) hH rfl (by kernel_rfl) (Wants.free rfl) rfl (fun _ => rfl) (Rd.iaS (q := a1) (sz := 1) (by rw [← he1]; rfl) rfl Tryz.underlying38 (by kernel_rfl) hi1 hi2) ?_
   replace h := h  w2  hc_w2
   obtain ⟨t1, hc1, h⟩ := h
   refine HW.take (i := 3) hH rfl (by kernel_rfl) (by kernel_rfl) (Wants.free rfl) rfl (fun _ => rfl) (Rd.ld (v := .int .u32 t1) rfl (by kernel_rfl) (eqs hc1)) ?_
   refine HW.pure (i := 4) hH rfl (by kernel_rfl) (Wants.free rfl) rfl (fun _ => rfl) (Rd.move (v := .slice s21 s21n s21c) rfl) ?_
   refine HW.pure (i := 5) hH rfl (by kernel_rfl) (Wants.free rfl) rfl (fun _ => rfl) (Rd.move (v := .int .i64 x2) rfl) ?_
   obtain ⟨a2, he2, hi3, hi4, h⟩ := h
   refine HW.pure (i := 6) hH rfl (by kernel_rfl) (Wants.free rfl) rfl (fun _ => rfl) (Rd.iaS (q := a2) (sz := 1) (by rw [← he2]; rfl) rfl Tryz.underlying38 (by kernel_rfl) hi3 hi4) ?_
   obtain ⟨t2, hc2, h⟩ := h
   refine HW.take (i := 7) hH rfl (by kernel_rfl) (by kernel_rfl) (Wants.free rfl) rfl (fun _ => rfl) (Rd.ld (v := .int .u32 t2) rfl (by kernel_rfl) (eqs hc2)) ?_
   refine HW.pure (i := 8) hH rfl (by kernel_rfl) (Wants.free rfl) rfl (fun _ => rfl) (Rd.bin (v := .bool (!(t1 == t2))) rfl rfl (fun w => by kernel_rfl)) ?_
   refine HW.done hH (by kernel_rfl) ?_
   refine NW.then ?_
   refine CW.cond rfl (fun hb3 => ?_) (fun hb3 => ?_)
   ·replace h := h.1 hb3
    refine CW.seq ?_
    refine CW.region fun L hL => ?_
    refine LW.rd hL rfl (Wants.free rfl) rfl (Rd.assign (v := .bool false) rfl) ?_
    refine LW.nil hL rfl ?_
    refine NW.then ?_
    refine CW.ret ?_
    refine RW.block ?_
    refine RW.then ?_
    refine RW.then ?_
    refine RW.block ?_
    refine RW.then ?_
    exact res1 rfl rfl ⟨false, rfl, h⟩
   ·replace h := h.2 hb3
    refine CW.skip ?_
    refine NW.block ?_
    refine NW.then ?_
    refine CW.region fun L hL => ?_
    refine LW.rd hL rfl (Wants.free rfl) rfl (Rd.bin (v := .int .i64 (IntKind.wrap .i64 (x2 + 1))) rfl rfl (fun w => by kernel_rfl)) ?_
    refine LW.rd hL rfl (Wants.free rfl) rfl (Rd.move (v := .int .i64 (IntKind.wrap .i64 (x2 + 1))) rfl) ?_
    refine LW.nil hL rfl ?_
    exact NW.loop (S := Bool × Int) (Ek := fun s1 => [(0, .slice s11 s11n s11c), (1, .slice s21 s21n s21c), (12, .int .i64 (s11n : Int)), (4, .bool s1.1), (13, .int .i64 s1.2)]) (x1, IntKind.wrap .i64 (x2 + 1)) (by exact ⟨rfl, rfl, rfl, rfl, rfl, trivial⟩) h
  ·replace h := h.2 hb2
   refine CW.exit ?_
   refine XW.then ?_
   refine XW.then ?_
   refine XW.hit ?_
   refine NW.then ?_
   refine CW.seq ?_
   refine CW.region fun L hL => ?_
   refine LW.rd hL rfl (Wants.free rfl) rfl (Rd.assign (v := .bool true) rfl) ?_
   refine LW.nil hL rfl ?_
   refine NW.then ?_
   refine CW.ret ?_
   exact res1 rfl rfl ⟨true, rfl, h⟩
/- (*pomander/labels.Table).All -/
def W_labels_Table_All (t1 : Option Addr) (w : World) (R : (Option Addr) → Nat → Nat → World → Prop) : Prop :=
 Calls Tryz.prog 77 #[.pointer t1] w fun e w1 => ∃ (r2 : Bool), e = .returned (.bool r2) ∧ ((r2 = true → R none 0 0 w1) ∧ (r2 = false → ∃ a1 : Addr, t1 = some a1 ∧ (∃ (t2 : Option Addr) (t2n : Nat) (t2c : Nat), w1.cell? (a1.add 1) = some (.slice t2 t2n t2c) ∧ (Calls Tryz.prog 78 #[.slice t2 t2n t2c] w1 fun e w2 => ∃ (r3 : Option Addr) (r3n : Nat) (r3c : Nat), e = .returned (.slice r3 r3n r3c) ∧ (R r3 r3n r3c w2)))))
set_option maxRecDepth 100000 in
theorem go_labels_Table_All (t1 : Option Addr) (w : World) (R : (Option Addr) → Nat → Nat → World → Prop) (h : W_labels_Table_All t1 w R) : Calls Tryz.prog 68 #[.pointer t1] w (fun e w' => ∃ (r1 : Option Addr) (r1n : Nat) (r1c : Nat), e = .returned (.slice r1 r1n r1c) ∧ R r1 r1n r1c w') := by
 unfold W_labels_Table_All at h
 refine enter (N := 10) Tryz.func68 rfl rfl ?_
 refine CW.seq ?_
 refine CW.region fun L hL => ?_
 refine LW.rd hL rfl (Wants.free rfl) rfl (Rd.assign (v := .slice none 0 0) rfl) ?_
 refine LW.nil hL rfl ?_
 refine NW.then ?_
 refine CW.seq ?_
 refine CW.seq ?_
 refine CW.region fun L hL => ?_
 refine LW.rd hL rfl (Wants.free rfl) rfl (Rd.move (v := .pointer t1) rfl) ?_
 refine LW.call hL rfl (Wants.free rfl) rfl (Cl.fn (f := 77) rfl Tryz.func77 (by kernel_rfl) rfl) h (fun e w1 h_ => ?_)
 clear h
 obtain ⟨r2, rfl, h⟩ := h_
 refine ⟨_, rfl, ?_⟩
 refine LW.nil hL rfl ?_
 refine NW.then ?_
 refine CW.cond rfl (fun hb1 => ?_) (fun hb1 => ?_)
 ·replace h := h.1 hb1
  refine CW.seq ?_
  refine CW.region fun L hL => ?_
  refine LW.rd hL rfl (Wants.free rfl) rfl (Rd.assign (v := .slice none 0 0) rfl) ?_
  refine LW.nil hL rfl ?_
  refine NW.then ?_
  refine CW.ret ?_
  refine RW.then ?_
  exact res1 rfl rfl ⟨none, 0, 0, rfl, h⟩
 ·replace h := h.2 hb1
  refine CW.skip ?_
  refine NW.then ?_
  refine CW.seq ?_
  refine CW.region fun L hL => ?_
  refine LW.rd hL rfl (Wants.free rfl) rfl (Rd.move (v := .pointer t1) rfl) ?_
  obtain ⟨a1, ha1, h⟩ := h
  refine LW.rd hL rfl (Wants.free rfl) rfl (Rd.nil (q := a1) (by rw [← ha1]; rfl)) ?_
  refine LW.rd hL rfl (Wants.free rfl) rfl (Rd.fa (v := .pointer (some (a1.add 1))) rfl (fun _ => by kernel_rfl)) ?_
  obtain ⟨t2, t2n, t2c, hc1, h⟩ := h
  refine LW.rd hL rfl (Wants.free rfl) rfl (Rd.ld (v := .slice t2 t2n t2c) rfl (by kernel_rfl) (eqs hc1)) ?_
  refine LW.call hL rfl (Wants.free rfl) rfl (Cl.fn (f := 78) rfl Tryz.func78 (by kernel_rfl) rfl) h (fun e w2 h_ => ?_)
  clear h
  obtain ⟨r3, r3n, r3c, rfl, h⟩ := h_
  refine ⟨_, rfl, ?_⟩
  refine LW.rd hL rfl (Wants.free rfl) rfl (Rd.assign (v := .slice r3 r3n r3c) rfl) ?_
  refine LW.nil hL rfl ?_
  refine NW.then ?_
  refine CW.ret ?_
  exact res1 rfl rfl ⟨r3, r3n, r3c, rfl, h⟩
/- (*pomander/flow.Flow).Sets -/
def W_flow_Flow_Sets (f1 : Option Addr) (w : World) (R : (Option Addr) → Nat → Nat → World → Prop) : Prop :=
 Calls Tryz.prog 43 #[.pointer f1] w fun e w1 => ∃ (r2 : Bool), e = .returned (.bool r2) ∧ ((r2 = true → R none 0 0 w1) ∧ (r2 = false → ∃ a1 : Addr, f1 = some a1 ∧ (∃ (t1 : Option Addr), w1.cell? (a1.add 2) = some (.pointer t1) ∧ (Calls Tryz.prog 68 #[.pointer t1] w1 fun e w2 => ∃ (r3 : Option Addr) (r3n : Nat) (r3c : Nat), e = .returned (.slice r3 r3n r3c) ∧ (R r3 r3n r3c w2)))))
set_option maxRecDepth 100000 in
theorem go_flow_Flow_Sets (f1 : Option Addr) (w : World) (R : (Option Addr) → Nat → Nat → World → Prop) (h : W_flow_Flow_Sets f1 w R) : Calls Tryz.prog 33 #[.pointer f1] w (fun e w' => ∃ (r1 : Option Addr) (r1n : Nat) (r1c : Nat), e = .returned (.slice r1 r1n r1c) ∧ R r1 r1n r1c w') := by
 unfold W_flow_Flow_Sets at h
 refine enter (N := 10) Tryz.func33 rfl rfl ?_
 refine CW.seq ?_
 refine CW.region fun L hL => ?_
 refine LW.rd hL rfl (Wants.free rfl) rfl (Rd.assign (v := .slice none 0 0) rfl) ?_
 refine LW.nil hL rfl ?_
 refine NW.then ?_
 refine CW.seq ?_
 refine CW.seq ?_
 refine CW.region fun L hL => ?_
 refine LW.rd hL rfl (Wants.free rfl) rfl (Rd.move (v := .pointer f1) rfl) ?_
 refine LW.call hL rfl (Wants.free rfl) rfl (Cl.fn (f := 43) rfl Tryz.func43 (by kernel_rfl) rfl) h (fun e w1 h_ => ?_)
 clear h
 obtain ⟨r2, rfl, h⟩ := h_
 refine ⟨_, rfl, ?_⟩
 refine LW.nil hL rfl ?_
 refine NW.then ?_
 refine CW.cond rfl (fun hb1 => ?_) (fun hb1 => ?_)
 ·replace h := h.1 hb1
  refine CW.seq ?_
  refine CW.region fun L hL => ?_
  refine LW.rd hL rfl (Wants.free rfl) rfl (Rd.assign (v := .slice none 0 0) rfl) ?_
  refine LW.nil hL rfl ?_
  refine NW.then ?_
  refine CW.ret ?_
  refine RW.then ?_
  exact res1 rfl rfl ⟨none, 0, 0, rfl, h⟩
 ·replace h := h.2 hb1
  refine CW.skip ?_
  refine NW.then ?_
  refine CW.seq ?_
  refine CW.region fun L hL => ?_
  refine LW.rd hL rfl (Wants.free rfl) rfl (Rd.move (v := .pointer f1) rfl) ?_
  obtain ⟨a1, ha1, h⟩ := h
  refine LW.rd hL rfl (Wants.free rfl) rfl (Rd.nil (q := a1) (by rw [← ha1]; rfl)) ?_
  refine LW.rd hL rfl (Wants.free rfl) rfl (Rd.fa (v := .pointer (some (a1.add 2))) rfl (fun _ => by kernel_rfl)) ?_
  obtain ⟨t1, hc1, h⟩ := h
  refine LW.rd hL rfl (Wants.free rfl) rfl (Rd.ld (v := .pointer t1) rfl (by kernel_rfl) (eqs hc1)) ?_
  refine LW.call hL rfl (Wants.free rfl) rfl (Cl.fn (f := 68) rfl Tryz.func68 (by kernel_rfl) rfl) h (fun e w2 h_ => ?_)
  clear h
  obtain ⟨r3, r3n, r3c, rfl, h⟩ := h_
  refine ⟨_, rfl, ?_⟩
  refine LW.rd hL rfl (Wants.free rfl) rfl (Rd.assign (v := .slice r3 r3n r3c) rfl) ?_
  refine LW.nil hL rfl ?_
  refine NW.then ?_
  refine CW.ret ?_
  exact res1 rfl rfl ⟨r3, r3n, r3c, rfl, h⟩
/- (*pomander/flow.Flow).Pages -/
def W_flow_Flow_Pages (f1 : Option Addr) (w : World) (R : Int → Int → World → Prop) : Prop :=
 Calls Tryz.prog 43 #[.pointer f1] w fun e w1 => ∃ (r3 : Bool), e = .returned (.bool r3) ∧ ((r3 = true → R 0 0 w1) ∧ (r3 = false → ∀ (w2 : World), Chg [] w1 w2 → (∃ a1 : Addr, f1 = some a1 ∧ (∃ (t1 : Option Addr), w2.cell? (a1.add 3) = some (.pointer t1) ∧ (∃ (t2 : Option Addr), w2.cell? (a1.add 4) = some (.pointer t2) ∧ (Calls Tryz.prog 74 #[.pointer t1] w2 fun e w3 => ∃ (r4 : Int), e = .returned (.int .i64 r4) ∧ ((w3.cell? (a1.add 3) = some (.pointer t1) ∧ w3.cell? (a1.add 4) = some (.pointer t2)) ∧ (Calls Tryz.prog 74 #[.pointer t2] w3 fun e w4 => ∃ (r5 : Int), e = .returned (.int .i64 r5) ∧ (R r4 r5 w4)))))))))
set_option maxRecDepth 100000 in
theorem go_flow_Flow_Pages (f1 : Option Addr) (w : World) (R : Int → Int → World → Prop) (h : W_flow_Flow_Pages f1 w R) : Calls Tryz.prog 36 #[.pointer f1] w (fun e w' => ∃ (r1 : Int) (r2 : Int), e = .returned (.tuple #[.int .i64 r1, .int .i64 r2]) ∧ R r1 r2 w') := by
 unfold W_flow_Flow_Pages at h
 refine enter (N := 16) Tryz.func36 rfl rfl ?_
 refine CW.seq ?_
 refine CW.region fun L hL => ?_
 refine LW.rd hL rfl (Wants.free rfl) rfl (Rd.assign (v := .int .i64 0) rfl) ?_
 refine LW.rd hL rfl (Wants.free rfl) rfl (Rd.assign (v := .int .i64 0) rfl) ?_
 refine LW.nil hL rfl ?_
 refine NW.then ?_
 refine CW.seq ?_
 refine CW.seq ?_
 refine CW.region fun L hL => ?_
 refine LW.rd hL rfl (Wants.free rfl) rfl (Rd.move (v := .pointer f1) rfl) ?_
 refine LW.call hL rfl (Wants.free rfl) rfl (Cl.fn (f := 43) rfl Tryz.func43 (by kernel_rfl) rfl) h (fun e w1 h_ => ?_)
 clear h
 obtain ⟨r3, rfl, h⟩ := h_
 refine ⟨_, rfl, ?_⟩
 refine LW.nil hL rfl ?_
 refine NW.then ?_
 refine CW.cond rfl (fun hb1 => ?_) (fun hb1 => ?_)
 ·replace h := h.1 hb1
  refine CW.seq ?_
  refine CW.region fun L hL => ?_
  refine LW.rd hL rfl (Wants.free rfl) rfl (Rd.assign (v := .int .i64 0) rfl) ?_
  refine LW.rd hL rfl (Wants.free rfl) rfl (Rd.assign (v := .int .i64 0) rfl) ?_
  refine LW.nil hL rfl ?_
  refine NW.then ?_
  refine CW.ret ?_
  refine RW.then ?_
  exact res2 rfl rfl rfl ⟨0, 0, rfl, h⟩
 ·replace h := h.2 hb1
  refine CW.skip ?_
  refine NW.then ?_
  refine CW.seq ?_
  obtain ⟨w2, hw_w2⟩ : ∃ x, x = World.drew w1 := ⟨_, rfl⟩
  have hc_w2 := sil_drew (Chg.refl [] w1) hw_w2
  replace h := h  w2  hc_w2
  obtain ⟨a1, ha1, h⟩ := h
  obtain ⟨t1, hc1, h⟩ := h
  obtain ⟨t2, hc2, h⟩ := h
  refine CW.drawn (fun w => w.cell? (a1.add 3) = some (.pointer t1) ∧ w.cell? (a1.add 4) = some (.pointer t2) ∧ True) 9 (by kernel_rfl) fun H hH => ?_
  rw [← hw_w2]
  have hS1 : w2.cell? (a1.add 3) = some (.pointer t1) ∧ w2.cell? (a1.add 4) = some (.pointer t2) ∧ True := ⟨hc1, hc2, trivial⟩
  refine HW.pure (i := 0) hH rfl (by kernel_rfl) (Wants.free rfl) rfl (fun _ => hS1) (Rd.move (v := .pointer f1) rfl) ?_
  refine HW.pure (i := 1) hH rfl (by kernel_rfl) (Wants.free rfl) rfl (fun _ => hS1) (Rd.nil (q := a1) (by rw [← ha1]; rfl)) ?_
  refine HW.pure (i := 2) hH rfl (by kernel_rfl) (Wants.free rfl) rfl (fun _ => hS1) (Rd.fa (v := .pointer (some (a1.add 3))) rfl (fun _ => by kernel_rfl)) ?_
  refine HW.take (i := 3) hH rfl (by kernel_rfl) (by kernel_rfl) (Wants.free rfl) rfl (fun _ => hS1) (Rd.ld (v := .pointer t1) rfl (by kernel_rfl) (fun w h => h.1)) ?_
  refine HW.pure (i := 5) hH rfl (by kernel_rfl) (Wants.free rfl) rfl (fun _ => hS1) (Rd.move (v := .pointer f1) rfl) ?_
  refine HW.pure (i := 6) hH rfl (by kernel_rfl) (Wants.free rfl) rfl (fun _ => hS1) (Rd.nil (q := a1) (by rw [← ha1]; rfl)) ?_
  refine HW.pure (i := 7) hH rfl (by kernel_rfl) (Wants.free rfl) rfl (fun _ => hS1) (Rd.fa (v := .pointer (some (a1.add 4))) rfl (fun _ => by kernel_rfl)) ?_
  refine HW.take (i := 8) hH rfl (by kernel_rfl) (by kernel_rfl) (Wants.free rfl) rfl (fun _ => hS1) (Rd.ld (v := .pointer t2) rfl (by kernel_rfl) (fun w h => h.2.1)) ?_
  refine HW.call (i := 4) hH (by kernel_rfl) rfl (Wants.free rfl) rfl (Cl.fn (f := 74) rfl Tryz.func74 (by kernel_rfl) rfl) h (fun e w3 h_ => ?_)
  clear h
  obtain ⟨r4, rfl, hS2, h⟩ := h_
  have hS3 := (⟨hS2.1, hS2.2, trivial⟩ : w3.cell? (a1.add 3) = some (.pointer t1) ∧ w3.cell? (a1.add 4) = some (.pointer t2) ∧ True)
  refine ⟨_, rfl, (fun _ => hS3), ?_⟩
  refine HW.call (i := 9) hH (by kernel_rfl) rfl (Wants.free rfl) rfl (Cl.fn (f := 74) rfl Tryz.func74 (by kernel_rfl) rfl) h (fun e w4 h_ => ?_)
  clear h
  obtain ⟨r5, rfl, h⟩ := h_
  refine ⟨_, rfl, (fun hc => by cases hc), ?_⟩
  refine HW.pure (i := 10) hH rfl (by kernel_rfl) (Wants.free rfl) rfl (fun hc => by cases hc) (Rd.assign (v := .int .i64 r4) rfl) ?_
  refine HW.pure (i := 11) hH rfl (by kernel_rfl) (Wants.free rfl) rfl (fun hc => by cases hc) (Rd.assign (v := .int .i64 r5) rfl) ?_
  refine HW.done hH (by kernel_rfl) ?_
  refine NW.then ?_
  refine CW.ret ?_
  exact res2 rfl rfl rfl ⟨r4, r5, rfl, h⟩
end Go.Proofs.YtfcfkhbkkfpehaaGreat
end
section
/- Flows that are the same: slices.Equal, labels.Same, maps.Equal, flow.Same. -/
namespace Go.Proofs.YtfcfkhbkkfpehaaGreat
open Go Go.RowKit Go.X Go.XR
theorem take_eq_of {α : Type} {xs ys : List α} {k : Nat} (h : xs.take k = ys.take k) {x y : α} (hx : xs[k]? = some x) (hy : ys[k]? = some y) : x = y ↔ xs.take (k + 1) = ys.take (k + 1) := by
 rw [take_snoc hx, take_snoc hy, h]
 simp
theorem slices_equal {w : World} {e : TypeId} {p q : Option Addr} {n c m d : Nat} {xs ys : List Int} (h1 : RowAt w e 1 p n c (xs.map (Value.int .u32))) (h2 : RowAt w e 1 q m d (ys.map (Value.int .u32))) (hn : n ≤ 1000000) :
  Calls Tryz.prog 87 #[.slice p n c, .slice q m d] w fun e w' => ∃ r : Bool, e = .returned (.bool r) ∧ (r = decide (xs = ys) ∧ Chg [] w w') := by
 have l1 := h1.length
 have l2 := h2.length
 simp at l1 l2
 refine go_slices_Equal_334 _ _ _ _ _ _ _ _ ?_
 unfold W_slices_Equal_334
 refine ⟨fun hne => ⟨?_, Chg.refl _ _⟩, fun he => ?_⟩
 ·symm; rw [decide_eq_false_iff_not]; intro e; subst e; simp at hne; omega
 have hnm : n = m := by simp at he; omega
 subst hnm
 refine ⟨fun _ j w' => ∃ k : Nat, j = k ∧ k ≤ n ∧ xs.take k = ys.take k ∧ Chg [] w w', fun _ j _ => n - j.toNat, ⟨0, rfl, Nat.zero_le _, rfl, Chg.refl _ _⟩, ?_⟩
 rintro x1 _ w1 ⟨k, rfl, hk, htk, c1⟩
 refine ⟨fun hlt => ?_, fun hge => ?_⟩
 ·have hlt' : k < n := by have := of_decide_eq_true hlt; omega
  obtain ⟨x, hx⟩ := get_of (l := xs) (j := k) (by omega)
  obtain ⟨y, hy⟩ := get_of (l := ys) (j := k) (by omega)
  obtain ⟨a, rfl, ha⟩ := h1.at (j := k) (u := .int .u32 x) (by simp [hx])
  obtain ⟨b, rfl, hb⟩ := h2.at (j := k) (u := .int .u32 y) (by simp [hy])
  refine ⟨a, rfl, by omega, by omega, fun w2 c2 => ⟨x, ?_, b, rfl, by omega, by omega, y, ?_, fun hne => ⟨?_, c1.trans0 c2⟩, fun heq => ?_⟩⟩
  ·simpa using (c1.trans0 c2).cell (by simp) ha
  ·simpa using (c1.trans0 c2).cell (by simp) hb
  ·symm; rw [decide_eq_false_iff_not]; intro e; subst e; rw [hx] at hy; cases hy; simp at hne
  ·have hxy : x = y := by simpa using heq
   rw [wr (by omega) (by omega)]
   exact ⟨⟨k + 1, by omega, by omega, (take_eq_of htk hx hy).1 hxy, c1.trans0 c2⟩, by simp only []; omega⟩
 ·have hge' : ¬ k < n := by have := of_decide_eq_false hge; omega
  refine ⟨?_, c1⟩
  rw [List.take_of_length_le (by omega), List.take_of_length_le (by omega)] at htk
  symm; rw [decide_eq_true_eq]; exact htk
theorem table_same {w : World} {b b' : Nat} {most most' : Int} {sets sets' : List Int} {fp fp' : List Nat} (h : TableAt w b most sets fp) (h' : TableAt w b' most' sets' fp') :
  Calls Tryz.prog 53 #[.pointer (some ⟨b, 0, none⟩), .pointer (some ⟨b', 0, none⟩)] w fun e w' => ∃ r : Bool, e = .returned (.bool r) ∧ (r = decide (most = most' ∧ sets = sets') ∧ Chg [] w w') := by
 refine go_labels_Same _ _ _ _ ?_
 unfold W_labels_Same
 refine (table_none h).mono ?_
 rintro _ w1 ⟨_, rfl, rfl, hw⟩
 subst w1
 refine ⟨_, rfl, fun b2 w' => b2 = false ∧ w' = w, ?_, fun _ => ?_, fun hf => by simp at hf⟩
 rotate_left
 ·refine (table_none h').mono ?_
  rintro _ w1 ⟨_, rfl, rfl, hw⟩
  subst w1
  exact ⟨_, rfl, rfl, rfl⟩
 rintro _ w2 ⟨rfl, hw⟩
 subst w2
 refine ⟨fun h => by simp at h, fun _ => ⟨_, rfl, fun w7 c7 => ?_⟩⟩
 obtain ⟨p, c, r, j, clk, a1, a2, _⟩ := (h.chg c7 (by simp)).there
 obtain ⟨p', c', r', j', clk', b1, b2, _⟩ := (h'.chg c7 (by simp)).there
 refine ⟨most, by rw [cell_of a1]; rfl, _, rfl, most', by rw [cell_of b1]; rfl, fun b4 w8 => b4 = decide (most = most' ∧ sets = sets') ∧ Chg [] w w8, fun _ _ h => h, fun he => ?_, fun hne => ?_⟩
 ·have he' : most = most' := by simpa using he
  refine ⟨p, _, c, by rw [add_at, cell_of a1]; rfl, p', _, c', by rw [add_at, cell_of b1]; rfl, ?_⟩
  have hl := h.few
  have hm := h.most2
  refine (slices_equal a2 b2 (by omega)).mono ?_
  rintro _ w9 ⟨_, rfl, rfl, c9⟩
  exact ⟨_, rfl, by simp [he'], c7.trans0 c9⟩
 ·have hne' : most ≠ most' := by simpa using hne
  exact ⟨by simp [hne'], c7⟩
theorem map_lenP {w : World} {r : Nat} {l : List ((Int × Int) × Int)} (h : MapIs w r encP (fun n : Int => .int .u32 n) l) (T : TypeId) : (Builtin.len_ #[99] T #[.map (some r)]).run Tryz.prog w = .ok (.int .i64 (l.length : Int)) w := by
 obtain ⟨es, clk, hb, he, _⟩ := h
 have : es.size = l.length := by
  have := congrArg List.length he
  simpa using this
 simp [Builtin.len_, run_underlying u143, MapKept.run_getObj_map hb, Result.andThen, this, go_sem]
theorem look_all {K V : Type} [DecidableEq K] {l1 l2 : List (K × V)} (n1 : (l1.map Prod.fst).Nodup) (n2 : (l2.map Prod.fst).Nodup) (hl : l1.length = l2.length) (h : ∀ x ∈ l1, lookK x.1 l2 = some x.2) (k : K) : lookK k l1 = lookK k l2 := by
 cases h1 : lookK k l1 with
 | some v => exact (h _ (lookK_mem h1)).symm
 | none =>
  cases h2 : lookK k l2 with
  | none => rfl
  | some v =>
   exfalso
   have := nodup_sub_length (a := k :: l1.map Prod.fst) (b := l2.map Prod.fst) (List.nodup_cons.2 ⟨fun hm => by
    obtain ⟨x, hx, e⟩ := List.mem_map.1 hm
    exact lookK_none.1 h1 x hx e, n1⟩) (fun y hy => by
    rcases List.mem_cons.1 hy with rfl | hy
    ·exact List.mem_map.2 ⟨_, lookK_mem h2, rfl⟩
    ·obtain ⟨x, hx, rfl⟩ := List.mem_map.1 hy
     exact List.mem_map.2 ⟨_, lookK_mem (h x hx), rfl⟩)
   simp at this; omega
theorem look_length {K V : Type} [DecidableEq K] {l1 l2 : List (K × V)} (n1 : (l1.map Prod.fst).Nodup) (n2 : (l2.map Prod.fst).Nodup) (h : ∀ k, lookK k l1 = lookK k l2) : l1.length = l2.length := by
 have key : ∀ (a b : List (K × V)), (a.map Prod.fst).Nodup → (∀ k, lookK k a = lookK k b) → a.length ≤ b.length := fun a b na hab => by
  have := nodup_sub_length (a := a.map Prod.fst) (b := b.map Prod.fst) na (fun y hy => by
   obtain ⟨x, hx, rfl⟩ := List.mem_map.1 hy
   have := (lookK_iff na).2 (show (x.1, x.2) ∈ a from hx)
   rw [hab] at this
   exact List.mem_map.2 ⟨_, lookK_mem this, rfl⟩)
  simpa using this
 exact Nat.le_antisymm (key _ _ n1 h) (key _ _ n2 fun k => (h k).symm)
theorem maps_equal {w : World} {r1 r2 : Nat} {l1 l2 : List ((Int × Int) × Int)} (h1 : MapIs w r1 encP (fun n : Int => .int .u32 n) l1) (h2 : MapIs w r2 encP (fun n : Int => .int .u32 n) l2) :
  Calls Tryz.prog 54 #[.map (some r1), .map (some r2)] w fun e w' => ∃ r : Bool, e = .returned (.bool r) ∧ ((r = true ↔ ∀ k, lookK k l1 = lookK k l2) ∧ Chg [] w w') := by
 have nd1 : (l1.map Prod.fst).Nodup := by obtain ⟨_, _, _, _, nd, _⟩ := h1; exact nd
 have nd2 : (l2.map Prod.fst).Nodup := by obtain ⟨_, _, _, _, nd, _⟩ := h2; exact nd
 refine go_maps_Equal_600 _ _ _ _ ?_
 unfold W_maps_Equal_600
 refine ⟨_, map_lenP h1 _, _, map_lenP h2 _, fun hb => ?_, fun hb => ?_⟩
 ·have : ¬ l1.length = l2.length := by simp at hb; omega
  exact ⟨⟨fun h => (by cases h), fun h => absurd (look_length nd1 nd2 h) this⟩, Chg.refl _ _⟩
 have hlen : l1.length = l2.length := by simp at hb; omega
 obtain ⟨it, w1, hrg, c1, hit, hI1⟩ := iter_range (P := Tryz.prog) (T := 99) h1 u143
 have hlr := h1.lt
 have hlr2 := h2.lt
 have hne : it ≠ r1 := by omega
 have s1 := c1.size
 refine ⟨some ⟨it, 0, none⟩, w1, hrg, fun x w2 => x = false ∧ ∃ done, IterAt w2 it r1 encP (fun n : Int => .int .u32 n) l1 done ∧ Chg [] w w2 ∧ (∀ x ∈ done, lookK x.1 l2 = some x.2), fun _ w2 => l1.length - seenN w2 it, ⟨rfl, [], hI1, c1, by simp⟩, ?_⟩
 rintro _ w2 ⟨rfl, done, hIt, c2, hd⟩
 rcases iter_next (P := Tryz.prog) hIt hne keyPlace.inj 0 with ⟨hnx, hall⟩ | ⟨k, v, w3, hkl, hnew, hrun, c3, hI3, hent⟩
 ·exact ⟨_, false, w2, hnx, rfl, fun h => by simp at h, fun _ => ⟨⟨fun _ => look_all nd1 nd2 hlen fun x hx => hd x (hall x hx), fun _ => rfl⟩, c2⟩⟩
 have c03 : Chg [] w w3 := c2.trans c3 (fun i hi hlt => by simp at hi; omega)
 have a1 := hIt.count
 have a2 := hI3.count
 have a3 := hIt.more hkl hnew
 simp at a2
 refine ⟨_, true, w3, hrun, rfl, fun _ => ⟨k.1, k.2, v, hent, fun b1 w5 hb5 c5 => ?_⟩, fun h => by simp at h⟩
 have c05 := c03.trans0 c5
 have hlk := (h2.chg c05 (by simp)).lookup (P := Tryz.prog) (T := 99) u143 keyPlace (z := .int .u32 0) zero22 k true
 refine ⟨(lookK k l2).getD 0, (lookK k l2).isSome, ?_, fun hne => ⟨⟨fun h => (by cases h), fun h => ?_⟩, c05⟩, fun heq => ?_⟩
 ·rw [show (Value.agg #[.int .i64 k.1, .int .i64 k.2]) = encP k from rfl, hlk]
  cases lookK k l2 <;> rfl
 ·have := (lookK_iff nd1).2 hkl
  rw [h] at this
  rw [this] at hne
  simp at hne
 ·have hv : lookK k l2 = some v := by
   cases hl : lookK k l2 with
   | none => rw [hl] at heq; simp at heq
   | some u => rw [hl] at heq; simp at heq; rw [heq]
  have hlt : it < w3.heap.size := hI3.lt
  have a4 : seenN w5 it = seenN w3 it := by unfold seenN; rw [c5.block it hlt (by simp)]
  refine ⟨⟨rfl, done ++ [(k, v)], hI3.chg c5 (by simp) (by simp), c05, fun x hx => ?_⟩, by simp only []; omega⟩
  rcases List.mem_append.1 hx with h | h
  ·exact hd x h
  ·simp at h; subst h; exact hv
def sameF (F G : Fl) : Prop := F.fr = G.fr ∧ F.se = G.se ∧ F.most = G.most ∧ F.sets = G.sets ∧ ∀ p, F.g p = G.g p
theorem allIs_look {w w' : World} {m m' : Nat} {F G : Fl} {L M : List ((Int × Int) × Int)} (h : AllIs w m F L) (h' : AllIs w' m' G M) : (∀ k, lookK k L = lookK k M) ↔ ∀ p, F.g p = G.g p := by
 constructor
 ·intro hk p
  have := hk p
  rw [h.look, h'.look] at this
  split at this <;> split at this <;> simp_all
 ·intro hp k
  rw [h.look, h'.look, hp]
theorem flow_same {w : World} {a b : Nat} {F G : Fl} {fa fb : List Nat} (ha : FlowAt w a F fa) (hb : FlowAt w b G fb) :
  Calls Tryz.prog 23 #[.pointer (some ⟨a, 0, none⟩), .pointer (some ⟨b, 0, none⟩)] w fun e w' => ∃ r : Bool, e = .returned (.bool r) ∧ ((r = true ↔ sameF F G) ∧ Chg [] w w') := by
 refine go_flow_Same _ _ _ _ ?_
 unfold W_flow_Same
 refine (flow_none ha).mono ?_
 rintro _ w1 ⟨_, rfl, rfl, hw⟩
 subst w1
 refine ⟨_, rfl, fun b2 w' => b2 = false ∧ w' = w, ?_, fun _ => ?_, fun hf => by simp at hf⟩
 rotate_left
 ·refine (flow_none hb).mono ?_
  rintro _ w1 ⟨_, rfl, rfl, hw⟩
  subst w1
  exact ⟨_, rfl, rfl, rfl⟩
 rintro _ w2 ⟨rfl, hw⟩
 subst w2
 refine ⟨fun h => by simp at h, fun _ w7 c7 => ?_⟩
 have ha7 := ha.chg c7 (by simp)
 have hb7 := hb.chg c7 (by simp)
 obtain ⟨T, m, d, r, l, fpT, fpm, fpd, gm, gd, h1, h2, _⟩ := ha7.there
 obtain ⟨T', m', d', r', l', fpT', fpm', fpd', gm', gd', k1, k2, _⟩ := hb7.there
 have K : ∀ {W : World}, Chg [] w7 W → (CellsAt W ⟨a, 0, none⟩ 0 [.int .i64 F.fr, .int .i64 F.se] ∧ CellsAt W ⟨b, 0, none⟩ 0 [.int .i64 G.fr, .int .i64 G.se] ∧ W.cell? ((⟨a, 0, none⟩ : Addr).add 2) = some (.pointer (some ⟨T, 0, none⟩)) ∧ W.cell? ((⟨b, 0, none⟩ : Addr).add 2) = some (.pointer (some ⟨T', 0, none⟩))) := fun hc => by
  have q1 := hc.obj (by simp) h1
  have q2 := hc.obj (by simp) k1
  refine ⟨?_, ?_, by rw [add_at, cell_of q1]; rfl, by rw [add_at, cell_of q2]; rfl⟩
  ·exact ⟨by rw [add_at, cell_of q1]; rfl, by rw [add_at, cell_of q1]; rfl, trivial⟩
  ·exact ⟨by rw [add_at, cell_of q2]; rfl, by rw [add_at, cell_of q2]; rfl, trivial⟩
 obtain ⟨z1, z2, z3, z4⟩ := K (Chg.refl _ _)
 refine ⟨_, rfl, _, _, z1, _, rfl, _, _, z2, _, z3, _, z4, fun b4 w8 => (b4 = true ↔ F.fr = G.fr ∧ F.se = G.se ∧ F.most = G.most ∧ F.sets = G.sets) ∧ Chg [] w7 w8, ?_, fun he => ?_, fun hne => ?_⟩
 ·rintro b4 w8 ⟨hb4, c8⟩
  refine ⟨fun b5 w10 => (b5 = true ↔ sameF F G) ∧ Chg [] w w10, fun _ _ h => h, fun ht => ?_, fun hf => ?_⟩
  ·have h4 := hb4.1 ht
   refine (flow_all_map (ha7.chg c8 (by simp))).mono ?_
   rintro _ w11 ⟨_, rfl, m1, L1, rfl, hA1, c11, _⟩
   refine ⟨_, rfl, K (c8.trans0 c11), ?_⟩
   refine (flow_all_map ((hb7.chg c8 (by simp)).chg c11 (by simp))).mono ?_
   rintro _ w12 ⟨_, rfl, m2, L2, rfl, hA2, c12, _⟩
   refine ⟨_, rfl, K ((c8.trans0 c11).trans0 c12), ?_⟩
   refine (maps_equal (hA1.map.chg c12 (by simp)) hA2.map).mono ?_
   rintro _ w13 ⟨r9, rfl, hr, c13⟩
   refine ⟨r9, rfl, ?_, (((c7.trans0 c8).trans0 c11).trans0 c12).trans0 c13⟩
   rw [hr, allIs_look hA1 hA2]
   unfold sameF
   exact ⟨fun h => ⟨h4.1, h4.2.1, h4.2.2.1, h4.2.2.2, h⟩, fun h => h.2.2.2.2⟩
  ·refine ⟨⟨fun h => (by cases h), fun h => ?_⟩, c7.trans0 c8⟩
   have := hb4.2 ⟨h.1, h.2.1, h.2.2.1, h.2.2.2.1⟩
   rw [hf] at this; cases this
 ·have he' : F.fr = G.fr ∧ F.se = G.se := by simpa using he
  refine (table_same h2 k2).mono ?_
  rintro _ w9 ⟨_, rfl, rfl, c9⟩
  exact ⟨_, rfl, K c9, by simp [he'.1, he'.2], c9⟩
 ·refine ⟨⟨fun h => (by cases h), fun h => ?_⟩, Chg.refl _ _⟩
  simp [h.1, h.2.1] at hne
end Go.Proofs.YtfcfkhbkkfpehaaGreat
end
