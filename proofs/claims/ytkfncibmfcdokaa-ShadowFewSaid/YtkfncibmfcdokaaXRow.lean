/- Rows that one owns, appends to them; rules for what the printed conditions say at each step. -/
import Derived.Test.YtkfncibmfcdokaaXHeap
import Derived.Laws.AppendOwn
set_option linter.unusedVariables false
set_option linter.unusedSimpArgs false
set_option linter.unusedSectionVars false
namespace Go.X
open Go Go.RowKit

/-- The slice p, n, c is a row of its own with these cells. -/
def RowAt (w : World) (e : TypeId) (size : Nat) (p : Option Addr) (n c : Nat) (xs : List Value) : Prop := w.ownsRow 0 e size (.slice p n c) n xs
def rowB (p : Option Addr) : List Nat := p.toList.map (·.block)

section
variable {P : Program} {w w' : World} {e : TypeId} {size n c : Nat} {p : Option Addr} {xs : List Value}
theorem mem_rowB {p : Option Addr} {b : Nat} : b ∈ rowB p ↔ ∃ a, p = some a ∧ a.block = b := by cases p <;> simp [rowB, eq_comm]
theorem rowB_nodup (p : Option Addr) : (rowB p).Nodup := by cases p <;> simp [rowB]
theorem RowAt.lt (h : RowAt w e size p n c xs) : ∀ b ∈ rowB p, b < w.heap.size := by
  intro b hb
  obtain ⟨a, rfl, rfl⟩ := mem_rowB.1 hb
  exact (World.ownsRow.lt h _ rfl).2
theorem RowAt.chg {f : List Nat} (h : RowAt w e size p n c xs) (hc : Chg f w w') (hf : ∀ b ∈ rowB p, b ∉ f) : RowAt w' e size p n c xs := by
  refine ⟨h.1, ?_⟩
  rcases h.2 with hn | ⟨g, cap, cur, hv, hb, hg, rest⟩
  · exact .inl hn
  · cases hv
    exact .inr ⟨g, c, cur, rfl, hb, hc.obj (hf g (mem_rowB.2 ⟨_, rfl, rfl⟩)) hg, rest⟩
theorem RowAt.nil : RowAt w e size none 0 0 [] := World.ownsRow_nil w 0 e size
theorem RowAt.of_heap {b : Nat} {cs : List Value} (hb : w.heap[b]? = some (.cells cs.toArray e (0, 0))) (hs : cs.length = n * size) (hn : n ≤ maxLen) : RowAt w e size (some ⟨b, 0, none⟩) n n cs :=
  ⟨hs, .inr ⟨b, n, cs.toArray, rfl, Nat.zero_le _, hb, Nat.le_refl _, hn, by simpa using hs, by simp [← hs]⟩⟩
theorem RowAt.length (h : RowAt w e size p n c xs) : xs.length = n * size := h.1
theorem RowAt.at (h : RowAt w e size p n c xs) {j : Nat} {u : Value} (hj : xs[j]? = some u) : ∃ a, p = some a ∧ w.cell? (a.add j) = some u := by
  rcases h.2 with ⟨hn, hz⟩ | ⟨g, cap, cur, hv, hb, hg, rest⟩
  · have : xs = [] := List.eq_nil_of_length_eq_zero (by rw [h.1, hz]; simp)
    simp [this] at hj
  · cases hv
    exact ⟨_, rfl, World.ownsRow.cells (h : World.ownsRow w 0 e size _ n xs) rfl j u hj⟩

/-- An append to such a row. -/
theorem RowAt.append (h : RowAt w e size p n c xs) {t ty : TypeId} {i : TypeInfo} {z : Value} {bytes : Nat} (ht : P.underlying t = some (.slice e)) (hi : P.info? e = some i) (hz : i.zero = some z)
    (hsize : i.size = size) (hby : i.bytes = bytes) (hzs : z.cells.size = size) (hsz : 0 < size)
    {a : Addr} {m mc : Nat} {news : List Value} (hl : news.length = m * size) (hnews : ∀ j u, news[j]? = some u → w.cell? (a.add j) = some u) (h1 : ∀ u ∈ news, u.oneCell' = true)
    (h63 : n + m ≤ maxLen) (hbytes : (n + m) * bytes ≤ 140737488355328) :
    ∃ p' c' w', (Builtin.append_ #[t, t] ty #[.slice p n c, .slice (some a) m mc]).run P w = .ok (.slice p' (n + m) c') w' ∧ RowAt w' e size p' (n + m) c' (xs ++ news) ∧ Chg (rowB p) w w' ∧
      (∀ b ∈ rowB p', b ∈ rowB p ∨ w.heap.size ≤ b) := by
  obtain ⟨v', w', hr, ho, hg, hnil⟩ := run_append_own (P := P) w 0 t ty e i z size bytes ht hi hz hsize hby hzs hsz (.slice p n c) n xs h a m mc news hl hnews h1 h63 hbytes (Nat.zero_le _)
  have hchg : Chg (rowB p) w w' := ⟨hg.os, hg.tape, hg.output, hg.size, fun k hk hf => hg.block k hk (fun he => hf (by
    cases p with
    | none => simp [Value.ownBlock] at he
    | some q => simp [Value.ownBlock] at he; simp [rowB, he]))⟩
  rcases ho.2 with ⟨hv, hz0⟩ | ⟨g, cap, cur, hv, hb, hgg, rest⟩
  · subst hv
    refine ⟨none, 0, w', by rw [hr, hz0], ?_, hchg, by simp [rowB]⟩
    rw [hz0] at ho ⊢; exact ho
  · subst hv
    refine ⟨some ⟨g, 0, none⟩, cap, w', hr, ho, hchg, fun b hb => ?_⟩
    simp [rowB] at hb; subst hb
    rcases h.2 with ⟨hv, hn0⟩ | ⟨g', cap', cur', hv, _, hgg', hnc, hcm, hcs, htake⟩
    · right
      cases hv
      obtain ⟨v2, w2, hr2, ho2, _, _⟩ := run_append_own (P := P) w w.heap.size t ty e i z size bytes ht hi hz hsize hby hzs hsz (.slice none 0 0) 0 xs ⟨h.1, .inl ⟨rfl, rfl⟩⟩ a m mc news hl hnews h1 (by omega) (by simpa using hbytes) (Nat.le_refl _)
      rw [hr] at hr2
      cases hr2
      rcases ho2.2 with ⟨hv2, _⟩ | ⟨g2, _, _, hv2, hb2, _⟩
      · cases hv2
      · cases hv2; exact hb2
    · cases hv
      by_cases hroom : n + m ≤ c
      · left
        have hfit : n * i.size + news.length ≤ cur'.size := by rw [hl, hcs, hsize, ← Nat.add_mul]; exact Nat.mul_le_mul_right _ hroom
        have hr2 := run_append_room (P := P) w t ty e i ht hi g' n c cur' hgg' a m mc news (by rw [hsize]; exact hl) hnews h1 hroom hfit
        rw [hr] at hr2
        cases hr2
        simp [rowB]
      · right
        have holds : ∀ j u, xs[j]? = some u → w.cell? ((⟨g', 0, none⟩ : Addr).add j) = some u := World.ownsRow.cells (h : World.ownsRow w 0 e size _ n xs) rfl
        have hr2 := run_append_grow (P := P) w t ty e i z ht hi hz ⟨g', 0, none⟩ n c xs (by rw [hsize]; exact h.1) holds a m mc news (by rw [hsize]; exact hl) hnews (by omega)
          (by simp only [maxLen] at h63; omega) (growslice_fits (by omega) (by rw [hby]; exact hbytes))
        rw [hr] at hr2
        cases hr2
        exact Nat.le_refl _
end

/-! ### Steps of the printed conditions -/
theorem v_alloc {w : World} {o : Obj} {K : Nat → World → Prop} (h : ∀ b w', b = w.heap.size → w'.heap[b]? = some o → Chg [] w w' → K b w') :
    ∀ b, b = World.size w → ∀ w1, w1 = World.alloc w o → K b w1 := by
  rintro b rfl w1 rfl
  exact h _ _ rfl (heap_new w o) (Chg.alloc w o)
theorem v_drew {w : World} {K : World → Prop} (h : ∀ w', Chg [] w w' → K w') : ∀ w1, w1 = World.drew w → K w1 := by rintro _ rfl; exact h _ (Chg.drew w)
theorem has_of {w : World} {b : Nat} {c : Array Value} {t : TypeId} (h : w.heap[b]? = some (.cells c t (0, 0))) {o n : Nat} (hn : o + n ≤ c.size) : Has w ⟨b, o, none⟩ n := by
  intro i hi
  rw [add_at, cell_of h, Array.getElem?_eq_getElem (by omega)]
  rfl
theorem free_of' {w : World} {b : Nat} {c : Array Value} {t : TypeId} (h : w.heap[b]? = some (.cells c t (0, 0))) {o n : Nat} : Free w ⟨b, o, none⟩ n := by
  intro i hi
  rw [add_at, free_of h]
theorem setCells_all {b : Nat} {t : TypeId} {w : World} {zs vs : List Value} (hl : zs.length = vs.length) (h : w.heap[b]? = some (.cells zs.toArray t (0, 0))) :
    (setCells w ⟨b, 0, none⟩ 0 vs).heap[b]? = some (.cells vs.toArray t (0, 0)) := by
  rw [setCells_heap vs 0 w _ h]
  congr 2
  have : ∀ (vs pre zs : List Value), zs.length = vs.length → ((vs.zipIdx pre.length).foldl (fun c (x : Value × Nat) => c.setIfInBounds (0 + 0 + x.2) x.1) (pre ++ zs).toArray) = (pre ++ vs).toArray := by
    intro vs
    induction vs with
    | nil => intro pre zs h; simp at h; simp [h]
    | cons v vs ih =>
      intro pre zs h
      cases zs with
      | nil => simp at h
      | cons z zs =>
        simp only [List.zipIdx_cons, List.foldl_cons]
        have e1 : ((pre ++ z :: zs).toArray.setIfInBounds (0 + 0 + pre.length) v) = ((pre ++ [v]) ++ zs).toArray := by
          simp
        rw [e1]
        have := ih (pre ++ [v]) zs (by simpa using h)
        simpa using this
  simpa using this vs [] zs hl
theorem setCells_mid {b : Nat} {t : TypeId} {w : World} {pre zs post vs : List Value} (hl : zs.length = vs.length) (h : w.heap[b]? = some (.cells (pre ++ zs ++ post).toArray t (0, 0))) :
    (setCells w ⟨b, pre.length, none⟩ 0 vs).heap[b]? = some (.cells (pre ++ vs ++ post).toArray t (0, 0)) := by
  rw [setCells_heap vs 0 w _ h]
  congr 2
  have : ∀ (vs mid zs : List Value), zs.length = vs.length → ((vs.zipIdx mid.length).foldl (fun c (x : Value × Nat) => c.setIfInBounds (pre.length + 0 + x.2) x.1) (pre ++ (mid ++ zs) ++ post).toArray) = (pre ++ (mid ++ vs) ++ post).toArray := by
    intro vs
    induction vs with
    | nil => intro mid zs h; simp at h; simp [h]
    | cons v vs ih =>
      intro mid zs h
      cases zs with
      | nil => simp at h
      | cons z zs =>
        simp only [List.zipIdx_cons, List.foldl_cons]
        have e1 : ((pre ++ (mid ++ z :: zs) ++ post).toArray.setIfInBounds (pre.length + 0 + mid.length) v) = (pre ++ ((mid ++ [v]) ++ zs) ++ post).toArray := by
          have e2 : pre.length + 0 + mid.length = (pre ++ mid).length := by simp
          rw [e2, show pre ++ (mid ++ z :: zs) ++ post = (pre ++ mid) ++ z :: (zs ++ post) by simp, List.setIfInBounds_toArray, List.set_append_right _ _ (Nat.le_refl _)]
          simp
        rw [e1]
        have := ih (mid ++ [v]) zs (by simpa using h)
        simpa using this
  simpa using this vs [] zs hl
theorem v_fillAt {w : World} {b o n : Nat} {T : TypeId} {pre zs post vs : List Value} (h : w.heap[b]? = some (.cells (pre ++ zs ++ post).toArray T (0, 0))) (ho : o = pre.length) (hl : zs.length = vs.length) (hn : n = zs.length) {K : World → Prop}
    (hk : ∀ w', w'.heap[b]? = some (.cells (pre ++ vs ++ post).toArray T (0, 0)) → Chg [b] w w' → w'.heap.size = w.heap.size → K w') :
    Has w (⟨b, o, none⟩ : Addr) n ∧ Free w (⟨b, o, none⟩ : Addr) n ∧ ∀ w', w' = setCells w (⟨b, o, none⟩ : Addr) 0 vs → K w' := by
  subst ho
  refine ⟨has_of h (by simp [hn]), free_of' h, ?_⟩
  rintro w' rfl
  have hsz : ∀ (vs : List Value) (i : Nat) (w : World), (setCells w ⟨b, pre.length, none⟩ i vs).heap.size = w.heap.size := by
    intro vs
    induction vs with
    | nil => intro i w; rfl
    | cons v vs ih => intro i w; simp only [setCells]; rw [ih]; simp [World.setCell]
  exact hk _ (setCells_mid hl h) (Chg.setCells ⟨b, pre.length, none⟩ vs 0 w) (hsz _ _ _)
theorem v_fill {w : World} {b n : Nat} {T : TypeId} {zs vs : List Value} (h : w.heap[b]? = some (.cells zs.toArray T (0, 0))) (hl : zs.length = vs.length) (hn : n = zs.length) {K : World → Prop}
    (hk : ∀ w', w'.heap[b]? = some (.cells vs.toArray T (0, 0)) → Chg [b] w w' → w'.heap.size = w.heap.size → K w') :
    Has w (⟨b, 0, none⟩ : Addr) n ∧ Free w (⟨b, 0, none⟩ : Addr) n ∧ ∀ w', w' = setCells w (⟨b, 0, none⟩ : Addr) 0 vs → K w' :=
  v_fillAt (pre := []) (post := []) (by simpa using h) rfl hl hn (by simpa using hk)
theorem v_box {w : World} {T : TypeId} {zs vs : List Value} {n : Nat} (hl : zs.length = vs.length) (hn : n = zs.length) {K : Nat → World → Prop}
    (h : ∀ b w', b = w.heap.size → w'.heap[b]? = some (.cells vs.toArray T (0, 0)) → Chg [] w w' → K b w') :
    ∀ b, b = World.size w → ∀ w1, w1 = World.alloc w (.cells zs.toArray T) → Has w1 (⟨b, 0, none⟩ : Addr) n ∧ Free w1 (⟨b, 0, none⟩ : Addr) n ∧ ∀ w2, w2 = setCells w1 (⟨b, 0, none⟩ : Addr) 0 vs → K b w2 := by
  rintro b rfl w1 rfl
  have hb := heap_new w (.cells zs.toArray T)
  refine ⟨has_of hb (by simp [hn]), free_of' hb, ?_⟩
  rintro w2 rfl
  refine h _ _ rfl (setCells_all hl hb) ?_
  exact (Chg.alloc w _).trans (Chg.setCells ⟨w.size, 0, none⟩ vs 0 _) (by
    intro i hi hlt
    simp at hi; subst hi
    exact absurd hlt (Nat.lt_irrefl _))
theorem cellsAt_of {w : World} {b : Nat} {t : TypeId} {fr : Nat × Nat} {cs : List Value} (h : w.heap[b]? = some (.cells cs.toArray t fr)) : CellsAt w ⟨b, 0, none⟩ 0 cs := by
  have : ∀ (pre cs : List Value), w.heap[b]? = some (.cells (pre ++ cs).toArray t fr) → CellsAt w ⟨b, 0, none⟩ pre.length cs := by
    intro pre cs
    induction cs generalizing pre with
    | nil => intro _; trivial
    | cons c cs ih =>
      intro h
      refine ⟨by rw [add_at, cell_of h]; simp, ?_⟩
      have := ih (pre ++ [c]) (by simpa using h)
      simpa using this
  exact this [] cs h
theorem v_set {w : World} {b o i : Nat} {c : Array Value} {t : TypeId} {v : Value} (h : w.heap[b]? = some (.cells c t (0, 0))) (hi : o + i < c.size) {K : World → Prop}
    (hk : ∀ w', w'.heap[b]? = some (.cells (c.setIfInBounds (o + i) v) t (0, 0)) → Chg [b] w w' → w'.heap.size = w.heap.size → K w') :
    (∃ u : Value, w.cell? ((⟨b, o, none⟩ : Addr).add i) = some u) ∧ w.frozen? ((⟨b, o, none⟩ : Addr).add i) = false ∧ ∀ w7, w7 = World.setCell w ((⟨b, o, none⟩ : Addr).add i) v → K w7 := by
  rw [add_at]
  refine ⟨⟨_, by rw [cell_of h, Array.getElem?_eq_getElem hi]⟩, free_of h _, ?_⟩
  rintro w7 rfl
  exact hk _ (set_heap h v) (Chg.setCell w ⟨b, o + i, none⟩ v) (by simp [World.setCell])
theorem v_set0 {w : World} {b o : Nat} {c : Array Value} {t : TypeId} {v : Value} (h : w.heap[b]? = some (.cells c t (0, 0))) (hi : o < c.size) {K : World → Prop}
    (hk : ∀ w', w'.heap[b]? = some (.cells (c.setIfInBounds o v) t (0, 0)) → Chg [b] w w' → w'.heap.size = w.heap.size → K w') :
    (∃ u : Value, w.cell? (⟨b, o, none⟩ : Addr) = some u) ∧ w.frozen? (⟨b, o, none⟩ : Addr) = false ∧ ∀ w7, w7 = World.setCell w (⟨b, o, none⟩ : Addr) v → K w7 := by
  have := v_set (i := 0) (K := K) h (by simpa using hi) (v := v) (by simpa using hk)
  rw [add_at] at this; exact this
theorem calls_to {P : Program} {fn : FuncId} {args : Array Value} {w : World} {Q Q' : Ending → World → Prop} (h : Calls P fn args w Q) (k : ∀ e w', Q e w' → Q' e w') : Calls P fn args w Q' := h.mono k
end Go.X
