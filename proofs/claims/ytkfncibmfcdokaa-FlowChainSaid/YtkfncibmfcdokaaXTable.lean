/- The table of sets (labels): what stands there, New, none, Keep. -/
import Derived.Test.YtkfncibmfcdokaaXTypes
import Derived.Test.YtkfncibmfcdokaaXFt2
import Derived.Test.YtkfncibmfcdokaaXFt3
set_option linter.unusedVariables false
set_option linter.unusedSimpArgs false
namespace Go.Proofs.Ytkfncibmfcdokaa
open Go Go.RowKit Go.X

def numbered (sets : List Int) : List (Int × Int) := sets.zipIdx.map fun x => (x.1, (x.2 : Int))

/-- What a table is. -/
structure TableAt (w : World) (b : Nat) (most : Int) (sets : List Int) (fp : List Nat) : Prop where
  there : ∃ p c r j clk, w.heap[b]? = some (.cells #[.int .i64 most, .slice p sets.length c, .map (some r), .map (some j)] 201 (0, 0)) ∧ RowAt w 22 1 p sets.length c (sets.map (.int .u32)) ∧
    MapIs w r (fun n : Int => .int .u32 n) (fun n : Int => .int .i64 n) (numbered sets) ∧ w.heap[j]? = some (.map #[] clk) ∧ fp = b :: r :: j :: rowB p
  nodup : fp.Nodup
  some : sets ≠ []
  few : (sets.length : Int) ≤ most
  most1 : 1 ≤ most
  most2 : most ≤ 65536
  each : ∀ s ∈ sets, 0 ≤ s ∧ s < 65536
  distinct : sets.Nodup

theorem TableAt.lt {w : World} {b : Nat} {most : Int} {sets : List Int} {fp : List Nat} (h : TableAt w b most sets fp) : ∀ i ∈ fp, i < w.heap.size := by
  obtain ⟨p, c, r, j, clk, h1, h2, h3, h4, rfl⟩ := h.there
  intro i hi
  simp only [List.mem_cons] at hi
  rcases hi with rfl | rfl | rfl | hi
  · exact lt_of_heap h1
  · exact h3.lt
  · exact lt_of_heap h4
  · exact h2.lt i hi

theorem TableAt.chg {w w' : World} {b : Nat} {most : Int} {sets : List Int} {fp f : List Nat} (h : TableAt w b most sets fp) (hc : Chg f w w') (hf : ∀ i ∈ fp, i ∉ f) : TableAt w' b most sets fp := by
  obtain ⟨p, c, r, j, clk, h1, h2, h3, h4, rfl⟩ := h.there
  simp only [List.mem_cons, forall_eq_or_imp] at hf
  obtain ⟨f1, f2, f3, f4⟩ := hf
  exact { h with there := ⟨p, c, r, j, clk, hc.obj f1 h1, h2.chg hc f4, h3.chg hc f2, hc.obj f3 h4, rfl⟩ }

def keepE (most : Int) (sets : List Int) (set : Int) : Int := if 65536 ≤ set then 2 else if set ∈ sets then 0 else if most ≤ sets.length then 120 else 0
def keepS (most : Int) (sets : List Int) (set : Int) : List Int := if 65536 ≤ set ∨ set ∈ sets ∨ most ≤ sets.length then sets else sets ++ [set]

theorem look_numbered (sets : List Int) (set : Int) : (lookK set (numbered sets)).isSome = decide (set ∈ sets) := by
  unfold numbered
  have : ∀ (l : List Int) (k : Nat), (lookK set ((l.zipIdx k).map fun x => (x.1, (x.2 : Int)))).isSome = decide (set ∈ l) := by
    intro l
    induction l with
    | nil => intro k; simp [lookK_nil]
    | cons a l ih =>
      intro k
      simp only [List.zipIdx_cons, List.map_cons, lookK_cons]
      by_cases h : a = set
      · simp [h]
      · simp [h, ih, Ne.symm h]
  exact this sets 0
theorem numbered_keys (sets : List Int) : (numbered sets).map Prod.fst = sets := by
  unfold numbered
  rw [List.map_map]
  have : ∀ (l : List Int) (k : Nat), (l.zipIdx k).map (Prod.fst ∘ fun x => (x.1, (x.2 : Int))) = l := by
    intro l
    induction l with
    | nil => intro k; rfl
    | cons a l ih => intro k; simp only [List.zipIdx_cons, List.map_cons, ih]; rfl
  exact this sets 0
theorem numbered_snoc (sets : List Int) (set : Int) : numbered (sets ++ [set]) = numbered sets ++ [(set, (sets.length : Int))] := by
  unfold numbered
  rw [List.zipIdx_append]
  simp

theorem table_none {w : World} {b : Nat} {most : Int} {sets : List Int} {fp : List Nat} (h : TableAt w b most sets fp) :
    Calls Try.prog 110 #[.pointer (some ⟨b, 0, none⟩)] w fun e w' => ∃ r : Bool, e = .returned (.bool r) ∧ (r = false ∧ w' = w) := by
  obtain ⟨p, c, r, j, clk, h1, h2, h3, h4, rfl⟩ := h.there
  refine ok_labels_Table_none _ _ _ ?_
  unfold V_labels_Table_none
  refine ⟨_, fun s w h => h, fun _ => ⟨_, rfl, p, _, c, by rw [add_at, cell_of h1]; rfl, ?_, rfl⟩, fun h => by simp at h⟩
  have := h.some
  simp [this]

theorem table_keep {w : World} {b : Nat} {most : Int} {sets : List Int} {fp : List Nat} (h : TableAt w b most sets fp) {set : Int} (h0 : 0 ≤ set) :
    Calls Try.prog 109 #[.pointer (some ⟨b, 0, none⟩), .int .u32 set] w fun e w' => ∃ (r1 : Int) (r2 : Int), e = .returned (.tuple #[.int .i64 r1, .int .i64 r2]) ∧
      (r2 = keepE most sets set ∧ ∃ fp', TableAt w' b most (keepS most sets set) fp' ∧ Chg fp w w' ∧ ∀ i ∈ fp', i ∈ fp ∨ w.heap.size ≤ i) := by
  refine ok_labels_Table_Keep _ _ _ _ ?_
  unfold V_labels_Table_Keep
  refine (table_none h).mono ?_
  rintro _ w1 ⟨_, rfl, rfl, rfl⟩
  refine ⟨_, rfl, fun h => by simp at h, fun _ => ⟨fun hs => ?_, fun hs => ?_⟩⟩
  · simp at hs
    exact ⟨by simp [keepE, hs], fp, by simpa [keepS, hs] using h, Chg.refl _ _, fun i hi => .inl hi⟩
  simp at hs
  have hs' : ¬ 65536 ≤ set := by omega
  obtain ⟨p, c, r, j, clk, h1, h2, h3, h4, rfl⟩ := h.there
  have hlook := h3.lookup (P := Try.prog) u198 keyU32 zero3 set true
  simp only [if_true] at hlook
  have hsome := look_numbered sets set
  have hnd := h.nodup
  simp only [List.nodup_cons, List.mem_cons, not_or] at hnd
  obtain ⟨⟨n1, n2, n3⟩, ⟨n4, n5⟩, n6, n7⟩ := hnd
  by_cases hin : set ∈ sets
  · simp only [hin, decide_true] at hsome
    obtain ⟨v, hv⟩ := Option.isSome_iff_exists.1 hsome
    rw [hv] at hlook
    refine ⟨_, rfl, some r, by rw [add_at, cell_of h1]; rfl, v, true, hlook, fun _ => ?_, fun h => by simp at h⟩
    exact ⟨by simp [keepE, hs', hin], _, by simpa [keepS, hin] using h, Chg.refl _ _, fun i hi => .inl hi⟩
  have hnone : lookK set (numbered sets) = none := by simpa [hin] using hsome
  rw [hnone] at hlook
  refine ⟨_, rfl, some r, by rw [add_at, cell_of h1]; rfl, 0, false, hlook, fun h => by simp at h, fun _ => v_drew fun w2 c2 => ?_⟩
  have h1' := c2.obj (by simp) h1
  refine ⟨_, rfl, p, sets.length, c, by rw [add_at, cell_of h1']; rfl, _, rfl, most, by rw [cell_of h1']; rfl, fun hl => ?_, fun hl => ?_⟩
  · simp only [decide_eq_true_eq] at hl
    have hl' : most ≤ sets.length := by omega
    exact ⟨by simp [keepE, hs', hin, hl'], _, by simpa [keepS, hl'] using h.chg c2 (by simp), c2.nil, fun i hi => .inl hi⟩
  simp only [decide_eq_false_iff_not] at hl
  have hl' : ¬ most ≤ sets.length := by omega
  refine v_drew fun w3 c3 => ?_
  have c03 := c2.trans0 c3
  have h1'' := c03.obj (by simp) h1
  obtain ⟨w4, hu, c4, hsz, h3'⟩ := (h3.chg c03 (by simp)).update (P := Try.prog) (T := 198) u198 keyU32 set (sets.length : Int)
  have c04 : Chg [r] w1 w4 := c03.nil.trans c4 (fun i hi _ => hi)
  have h14 := c04.obj (f := [r]) (by simpa using n1) h1
  refine ⟨_, rfl, some r, by rw [add_at, cell_of h1'']; rfl, _, rfl, p, sets.length, c, by rw [add_at, cell_of h1'']; rfl, w4, hu, _, rfl, p, sets.length, c, by rw [add_at, cell_of h14]; rfl, ?_⟩
  refine v_alloc fun b1 w5 eb1 h5 c5 => ?_
  have c05 : Chg [r] w1 w5 := c04.trans c5.nil (fun i hi _ => hi)
  have hrow5 := h2.chg c05 (fun i hi hm => by simp at hm; subst hm; exact n5 hi)
  have hmost := h.most2
  have hfew := h.few
  obtain ⟨p', c', w6, happ, hrow6, c6, hfresh⟩ := hrow5.append (P := Try.prog) (t := 31) (ty := 31) (i := _) (z := .int .u32 0) (bytes := 4) (by kernel_rfl) (show Try.prog.info? 22 = some Try.t22 by kernel_rfl) (by kernel_rfl) (by kernel_rfl) (by kernel_rfl) rfl (by omega)
    (a := ⟨b1, 0, none⟩) (m := 1) (mc := 1) (news := [.int .u32 set]) rfl (fun i u hi => by
      cases i with
      | zero => simp at hi; subst hi; rw [add_at, cell_of h5]; rfl
      | succ i => simp at hi) (by simp [Value.oneCell']) (by simp only [maxLen]; omega) (by omega)
  refine ⟨p', _, c', w6, happ, _, rfl, ?_⟩
  have c06 : Chg (r :: rowB p) w1 w6 := (c05.mono (by simp)).trans c6 (fun i hi _ => by simp [hi])
  have h16 := c06.obj (f := r :: rowB p) (by simp; exact ⟨n1, n3⟩) h1
  refine v_set h16 (by simp) fun w7 h17 c7 _ => ?_
  have hb1 : w1.heap.size ≤ b1 := by rw [eb1]; exact c04.size
  have hrfresh : r ∉ rowB p' := fun hm => by
    rcases hfresh _ hm with h | h
    · exact n5 h
    · exact absurd (h3.lt) (by have := c05.size; omega)
  have hbfresh : b ∉ rowB p' := fun hm => by
    rcases hfresh _ hm with h | h
    · exact n3 h
    · exact absurd (lt_of_heap h1) (by have := c05.size; omega)
  have hjfresh : j ∉ rowB p' := fun hm => by
    rcases hfresh _ hm with h | h
    · exact n6 h
    · exact absurd (lt_of_heap h4) (by have := c05.size; omega)
  have hup : upd set (sets.length : Int) (numbered sets) = numbered (sets ++ [set]) := by simp [upd, hnone, numbered_snoc]
  have h37 := ((h3'.chg c5 (by simp)).chg c6 n5).chg c7 (by simpa using Ne.symm n1)
  rw [hup] at h37
  have hlook7 := h37.lookup (P := Try.prog) (T := 198) u198 keyU32 zero3 set false
  have hl7 : lookK set (numbered (sets ++ [set])) = some (sets.length : Int) := by
    rw [← hup, lookK_upd]; simp
  rw [hl7] at hlook7
  refine ⟨_, rfl, some r, by rw [add_at, cell_of h17]; rfl, _, hlook7, ?_⟩
  refine ⟨by simp [keepE, hs', hin, hl'], b :: r :: j :: rowB p', ?_, ?_, ?_⟩
  · have hS : keepS most sets set = sets ++ [set] := by simp [keepS, hs', hin, hl']
    rw [hS]
    refine ⟨⟨p', c', r, j, clk, ?_, ?_, h37, ?_, rfl⟩, ?_, by simp, by simp; omega, h.most1, h.most2, ?_, ?_⟩
    · rw [h17]; simp
    · have := hrow6.chg c7 (fun i hi hm => by simp at hm; subst hm; exact hbfresh hi)
      simpa using this
    · exact c7.obj (by simpa using Ne.symm n2) (c06.obj (by simp; exact ⟨Ne.symm n4, n6⟩) h4)
    · simp only [List.nodup_cons, List.mem_cons, not_or]
      exact ⟨⟨n1, n2, hbfresh⟩, ⟨n4, hrfresh⟩, hjfresh, rowB_nodup _⟩
    · intro s hs
      simp at hs
      rcases hs with hs | rfl
      · exact h.each s hs
      · omega
    · rw [List.nodup_append]
      exact ⟨h.distinct, by simp, by simp; exact fun a ha e => hin (e ▸ ha)⟩
  · exact (c06.mono (fun i hi _ => by simp at hi ⊢; rcases hi with h | h <;> simp [h])).trans c7 (by simp)
  · intro i hi
    simp only [List.mem_cons] at hi ⊢
    rcases hi with h | h | h | h
    · simp [h]
    · simp [h]
    · simp [h]
    · rcases hfresh i h with h | h
      · simp [h]
      · right; have := c05.size; omega
theorem table_new (w : World) (most : Int) :
    Calls Try.prog 68 #[.int .i64 most] w fun e w' => ∃ (r1 : Option Addr) (r2 : Int), e = .returned (.tuple #[.pointer r1, .int .i64 r2]) ∧
      (Chg [] w w' ∧ if 1 ≤ most ∧ most ≤ 65536 then r2 = 0 ∧ ∃ b fp, r1 = some ⟨b, 0, none⟩ ∧ TableAt w' b most [0] fp ∧ ∀ i ∈ fp, w.heap.size ≤ i else r1 = none ∧ r2 = 2) := by
  refine ok_labels_New _ _ _ ?_
  unfold V_labels_New
  refine ⟨fun h => ?_, fun h => ?_⟩
  · simp at h
    exact ⟨Chg.refl _ _, by rw [if_neg (by omega)]; simp⟩
  simp at h
  refine v_alloc fun b1 w1 e1 h1 c1 => ?_
  refine v_alloc fun b2 w2 e2 h2 c2 => ?_
  have hm0 : MapIs w2 b2 (fun n : Int => .int .u32 n) (fun n : Int => .int .i64 n) [] := ⟨#[], 0, h2, rfl, by simp, by simp, by simp⟩
  obtain ⟨w3, hu, c3, hs3, hm3⟩ := hm0.update (P := Try.prog) (T := 198) u198 keyU32 (0 : Int) (0 : Int)
  refine ⟨w3, hu, ?_⟩
  refine v_alloc fun b3 w4 e3 h4 c4 => ?_
  refine v_alloc fun b4 w5 e4 h5 c5 => ?_
  have l1 : b1 < w1.heap.size := lt_of_heap h1
  have l2 : b2 < w2.heap.size := lt_of_heap h2
  have l4 : b3 < w4.heap.size := lt_of_heap h4
  have s1 := c1.size
  have s2 := c2.size
  have s3 := c3.size
  have s4 := c4.size
  have c02 : Chg [] w w2 := c1.trans0 c2
  have c03 : Chg [] w w3 := c02.trans c3 (fun i hi hlt => by simp at hi; omega)
  have c05 : Chg [] w w5 := (c03.trans0 c4).trans0 c5
  refine ⟨c05, ?_⟩
  rw [if_pos (by omega)]
  refine ⟨rfl, b4, [b4, b2, b3, b1], rfl, ⟨⟨_, 1, b2, b3, 0, h5, ?_, ?_, c5.obj (by simp) h4, by simp [rowB]⟩, ?_, by simp, by simp; omega, by omega, by omega, by simp, by simp⟩, ?_⟩
  · have h15 : w5.heap[b1]? = some (.cells #[.int .u32 0] 22 (0, 0)) := (((c3.trans (c4.nil (f := [b2])) (by simp)).trans (c5.nil (f := [b2])) (by simp))).obj (by simp; omega) (c2.obj (by simp) h1)
    exact RowAt.of_heap (cs := [.int .u32 0]) h15 rfl (by simp [maxLen])
  · exact (hm3.chg c4 (by simp)).chg c5 (by simp)
  · simp; omega
  · intro i hi; simp at hi; omega
end Go.Proofs.Ytkfncibmfcdokaa
