/- Worlds that differ in some blocks alone; cells; maps as lists of keys and values. -/
import Derived.Test.YtkfncibmfcdokaaXRun
import Derived.MapKept
import Derived.WideKeyRuns
import Derived.Laws.StructEq
set_option linter.unusedVariables false
set_option linter.unusedSimpArgs false
set_option linter.unusedSectionVars false
namespace Go.X
open Go Go.RowKit Go.MapKept

/-- w' is w but for the blocks of fp, and new ones. -/
structure Chg (fp : List Nat) (w w' : World) : Prop where
  os : w'.os = w.os
  tape : w'.tape = w.tape
  output : w'.output = w.output
  size : w.heap.size ≤ w'.heap.size
  block : ∀ i, i < w.heap.size → i ∉ fp → w'.heap[i]? = w.heap[i]?

theorem Chg.refl (fp : List Nat) (w : World) : Chg fp w w := ⟨rfl, rfl, rfl, Nat.le_refl _, fun _ _ _ => rfl⟩
theorem Chg.trans {f g : List Nat} {a b c : World} (h : Chg f a b) (k : Chg g b c) (hg : ∀ i ∈ g, i < a.heap.size → i ∈ f) : Chg f a c :=
  ⟨k.os.trans h.os, k.tape.trans h.tape, k.output.trans h.output, Nat.le_trans h.size k.size,
    fun i hi hf => (k.block i (Nat.lt_of_lt_of_le hi h.size) (fun hm => hf (hg i hm hi))).trans (h.block i hi hf)⟩
theorem Chg.mono {f g : List Nat} {a b : World} (h : Chg f a b) (hg : ∀ i ∈ f, i < a.heap.size → i ∈ g) : Chg g a b :=
  ⟨h.os, h.tape, h.output, h.size, fun i hi hf => h.block i hi (fun hm => hf (hg i hm hi))⟩
theorem Chg.trans0 {a b c : World} (h : Chg [] a b) (k : Chg [] b c) : Chg [] a c := h.trans k (by simp)
theorem Chg.nil {f : List Nat} {a b : World} (h : Chg [] a b) : Chg f a b := h.mono (by simp)
theorem Chg.drew (w : World) : Chg [] w w.drew := ⟨rfl, rfl, rfl, Nat.le_refl _, fun _ _ _ => rfl⟩
theorem Chg.alloc (w : World) (o : Obj) : Chg [] w (w.alloc o) := ⟨rfl, rfl, rfl, by simp, fun i hi _ => Below.heap_alloc w o i hi⟩
theorem Chg.setCell (w : World) (q : Addr) (v : Value) : Chg [q.block] w (w.setCell q v) := by
  refine ⟨rfl, rfl, rfl, by simp [World.setCell], fun i hi hf => ?_⟩
  have hne : q.block ≠ i := fun e => hf (by simp [e])
  simp [World.setCell, Array.getElem?_modify, hne]
theorem Chg.setCells (q : Addr) : ∀ (vs : List Value) (i : Nat) (w : World), Chg [q.block] w (setCells w q i vs)
  | [], _, w => Chg.refl _ w
  | v :: vs, i, w => by
    have h1 := Chg.setCell w (q.add i) v
    have hb : (q.add i).block = q.block := by unfold Addr.add; split <;> rfl
    rw [hb] at h1
    exact h1.trans (Chg.setCells q vs (i + 1) _) (fun _ h _ => h)
theorem Chg.put {w : World} {r : Nat} {o : Obj} : Chg [r] w { w with heap := w.heap.setIfInBounds r o } := by
  refine ⟨rfl, rfl, rfl, by simp, fun i hi hf => ?_⟩
  have hne : r ≠ i := fun e => hf (by simp [e])
  simp [hne]
theorem Chg.below {w w' : World} (h : Chg [] w w') : Below w.heap.size w w' := ⟨h.os, h.tape, h.output, h.size, fun k hk => h.block k hk (by simp)⟩
theorem Chg.of_below {w w' : World} (h : Below w.heap.size w w') : Chg [] w w' := ⟨h.os, h.tape, h.output, h.size, fun k hk _ => h.block k hk⟩

theorem lt_of_heap {w : World} {b : Nat} {o : Obj} (h : w.heap[b]? = some o) : b < w.heap.size := (Array.getElem?_eq_some_iff.1 h).1
theorem Chg.obj {f : List Nat} {w w' : World} (h : Chg f w w') {b : Nat} {o : Obj} (hf : b ∉ f) (hb : w.heap[b]? = some o) : w'.heap[b]? = some o := (h.block b (lt_of_heap hb) hf).trans hb
theorem Chg.cell {f : List Nat} {w w' : World} (h : Chg f w w') {q : Addr} {v : Value} (hf : q.block ∉ f) (hq : w.cell? q = some v) : w'.cell? q = some v := by
  have hb := h.block q.block (World.block_lt_of_cell? w q hq) hf
  unfold World.cell? at hq ⊢
  rw [hb]; exact hq
theorem add_block (q : Addr) (i : Nat) : (q.add i).block = q.block := by unfold Addr.add; split <;> rfl
theorem Chg.cells {f : List Nat} {w w' : World} (h : Chg f w w') {q : Addr} (hf : q.block ∉ f) : ∀ {i : Nat} {vs : List Value}, CellsAt w q i vs → CellsAt w' q i vs
  | _, [], _ => trivial
  | i, v :: vs, ⟨h1, h2⟩ => ⟨h.cell (fun hm => hf (add_block q i ▸ hm)) h1, h.cells hf h2⟩

/-! ### Cells of a known block -/
theorem add_at (b o n : Nat) : (⟨b, o, none⟩ : Addr).add n = ⟨b, o + n, none⟩ := by unfold Addr.add; split <;> simp_all
theorem cell_of {w : World} {b : Nat} {c : Array Value} {t : TypeId} {fr : Nat × Nat} (h : w.heap[b]? = some (.cells c t fr)) (i : Nat) : w.cell? ⟨b, i, none⟩ = c[i]? := by simp [World.cell?, h]
theorem free_of {w : World} {b : Nat} {c : Array Value} {t : TypeId} (h : w.heap[b]? = some (.cells c t (0, 0))) (i : Nat) : w.frozen? ⟨b, i, none⟩ = false := by simp [World.frozen?, h]
theorem heap_new (w : World) (o : Obj) : (w.alloc o).heap[w.size]? = some o := (MapKept.heap_alloc w o).1
theorem set_heap {w : World} {b i : Nat} {c : Array Value} {t : TypeId} {fr : Nat × Nat} (h : w.heap[b]? = some (.cells c t fr)) (v : Value) : (w.setCell ⟨b, i, none⟩ v).heap[b]? = some (.cells (c.setIfInBounds i v) t fr) := by
  simp [World.setCell, Array.getElem?_modify, h]
theorem setCells_heap {b o : Nat} {t : TypeId} {fr : Nat × Nat} : ∀ (vs : List Value) (i : Nat) (w : World) (c : Array Value), w.heap[b]? = some (.cells c t fr) →
    (setCells w ⟨b, o, none⟩ i vs).heap[b]? = some (.cells (vs.zipIdx.foldl (fun c (v, j) => c.setIfInBounds (o + i + j) v) c) t fr)
  | [], i, w, c, h => by simpa [setCells] using h
  | v :: vs, i, w, c, h => by
    simp only [setCells, add_at]
    rw [setCells_heap vs (i + 1) _ _ (set_heap h v)]
    simp only [List.zipIdx_cons, List.foldl_cons, Nat.add_zero, Nat.zero_add]
    congr 2
    have : ∀ (l : List Value) (k : Nat) (c : Array Value), (l.zipIdx (k + 1)).foldl (fun c (x : Value × Nat) => c.setIfInBounds (o + i + x.2) x.1) c = (l.zipIdx k).foldl (fun c (x : Value × Nat) => c.setIfInBounds (o + (i + 1) + x.2) x.1) c := by
      intro l
      induction l with
      | nil => intro k c; rfl
      | cons x l ih =>
        intro k c
        simp only [List.zipIdx_cons, List.foldl_cons]
        rw [ih (k + 1)]
        congr 2
        omega
    exact (this vs 0 _).symm

/-! ### Maps -/
/-- A type of keys: what looks for one finds it by equality. -/
structure KeyT (P : Program) (kt : TypeId) {K : Type} [DecidableEq K] (enc : K → Value) : Prop where
  inj : ∀ a b, enc a = enc b → a = b
  check : ∀ e w k, (Instr.checkKey e 10000 kt (enc k)).run P w = .ok () w
  find : ∀ w k (es : List MapEntry), (∀ x ∈ es, ∃ a, x.key = enc a) →
    ((∀ x ∈ es, x.key ≠ enc k) ∧ (Instr.findKey kt (enc k) es).run P w = .ok none w) ∨
    (∃ j e, es[j]? = some e ∧ e.key = enc k ∧ (Instr.findKey kt (enc k) es).run P w = .ok (some (j, e.val)) w)
  stays : ∀ k, Instr.sameBits 10000 (enc k) (enc k) = true

theorem int_keyT {P : Program} {kt : TypeId} {q : IntKind} (hk : P.underlying kt = some (.int q)) : KeyT P kt (fun n : Int => .int q n) where
  inj := fun a b h => by simpa using h
  check := fun e w k => run_checkKey hk (by simp [IsKey]) e 9999
  find := fun w k es hes => by
    have hk' : IsKey (.int q) (.int q k) := by simp [IsKey]
    rcases findNow_spec hk' es 0 (fun x hx => by obtain ⟨a, ha⟩ := hes x hx; rw [ha]; simp [IsKey]) with ⟨h1, h2⟩ | ⟨j, e, h1, h2, h3⟩
    · exact .inl ⟨h2, run_findKey hk h1⟩
    · exact .inr ⟨j, e, h2, h3, by simpa using run_findKey hk h1⟩
  stays := fun k => by simp [Instr.sameBits]

/-- Block r is a map with these keys and values, in some order of laying. -/
def MapIs (w : World) (r : Nat) {K V : Type} (ke : K → Value) (ve : V → Value) (l : List (K × V)) : Prop :=
  ∃ es clk, w.heap[r]? = some (.map es clk) ∧ es.toList.map (fun (e : MapEntry) => (e.key, e.val)) = l.map (fun (p : K × V) => (ke p.1, ve p.2)) ∧ (l.map Prod.fst).Nodup ∧
    (∀ e ∈ es.toList, e.born < clk) ∧ (es.toList.map (·.born)).Nodup
section
variable {P : Program} {K V : Type} [DecidableEq K] {ke : K → Value} {ve : V → Value} {kt et T : TypeId} {w : World} {r : Nat} {l : List (K × V)}

theorem MapIs.chg {f : List Nat} {w' : World} (h : MapIs w r ke ve l) (hc : Chg f w w') (hf : r ∉ f) : MapIs w' r ke ve l := by
  obtain ⟨es, clk, h1, h2⟩ := h
  exact ⟨es, clk, hc.obj hf h1, h2⟩
theorem MapIs.lt (h : MapIs w r ke ve l) : r < w.heap.size := by obtain ⟨es, clk, h1, _⟩ := h; exact lt_of_heap h1
theorem MapIs.new (w : World) : MapIs (w.alloc (.map #[] 0)) w.size ke ve ([] : List (K × V)) := ⟨#[], 0, heap_new w _, rfl, by simp, by simp, by simp⟩

/-- What a list of pairs has at a key. -/
def lookK (k : K) (l : List (K × V)) : Option V := (l.find? (fun p => p.1 = k)).map Prod.snd

theorem lookK_at {l : List (K × V)} (hn : (l.map Prod.fst).Nodup) {j : Nat} {k : K} {v : V} (h : l[j]? = some (k, v)) : lookK k l = some v := by
  induction l generalizing j with
  | nil => simp at h
  | cons p l ih =>
    simp only [List.map_cons, List.nodup_cons] at hn
    cases j with
    | zero => simp at h; subst h; simp [lookK]
    | succ j =>
      simp at h
      have hm : k ∈ l.map Prod.fst := List.mem_map.2 ⟨(k, v), List.mem_of_getElem? h, rfl⟩
      have hne : p.1 ≠ k := fun e => hn.1 (e ▸ hm)
      have := ih hn.2 h
      unfold lookK at this ⊢
      rw [List.find?_cons_of_neg (by simpa using hne)]; exact this

theorem find_at (hK : KeyT P kt ke) {es : Array MapEntry} (hn : (l.map Prod.fst).Nodup) (he : es.toList.map (fun (e : MapEntry) => (e.key, e.val)) = l.map (fun (p : K × V) => (ke p.1, ve p.2))) (k : K) :
    (lookK k l = none ∧ (∀ p ∈ l, p.1 ≠ k) ∧ (Instr.findKey kt (ke k) es.toList).run P w = .ok none w) ∨
    (∃ j v, lookK k l = some v ∧ l[j]? = some (k, v) ∧ (∃ e, es.toList[j]? = some e ∧ e.key = ke k) ∧ (Instr.findKey kt (ke k) es.toList).run P w = .ok (some (j, ve v)) w) := by
  have hkeys : ∀ x ∈ es.toList, ∃ a, x.key = ke a := fun x hx => by
    have hm : (x.key, x.val) ∈ l.map (fun (p : K × V) => (ke p.1, ve p.2)) := he ▸ List.mem_map.2 ⟨x, hx, rfl⟩
    obtain ⟨p, _, hp⟩ := List.mem_map.1 hm
    exact ⟨p.1, (congrArg Prod.fst hp).symm⟩
  have hget : ∀ (j : Nat) (e : MapEntry), es.toList[j]? = some e → ∃ p : K × V, l[j]? = some p ∧ e.key = ke p.1 ∧ e.val = ve p.2 := fun j e hj => by
    have h1 : (es.toList.map (fun (e : MapEntry) => (e.key, e.val)))[j]? = some (e.key, e.val) := by rw [List.getElem?_map, hj]; rfl
    rw [he, List.getElem?_map] at h1
    cases hl : l[j]? with
    | none => rw [hl] at h1; cases h1
    | some p => rw [hl] at h1; simp at h1; exact ⟨p, rfl, h1.1.symm, h1.2.symm⟩
  rcases hK.find w k es.toList hkeys with ⟨h1, h2⟩ | ⟨j, e, hj, hek, h2⟩
  · left
    have hno : ∀ p ∈ l, p.1 ≠ k := fun p hp e => by
      have hm : (ke p.1, ve p.2) ∈ es.toList.map (fun (e : MapEntry) => (e.key, e.val)) := he ▸ List.mem_map.2 ⟨p, hp, rfl⟩
      obtain ⟨x, hx, hxe⟩ := List.mem_map.1 hm
      exact h1 x hx ((congrArg Prod.fst hxe).trans (by rw [e]))
    refine ⟨?_, hno, h2⟩
    unfold lookK
    rw [List.find?_eq_none.2 (by simpa using hno)]; rfl
  · right
    obtain ⟨p, hp, hpk, hpv⟩ := hget j e hj
    have hk : p.1 = k := hK.inj _ _ (by rw [← hpk, hek])
    have h2' : (Instr.findKey kt (ke k) es.toList).run P w = .ok (some (j, ve p.2)) w := by rw [h2, hpv]
    have hl : l[j]? = some (k, p.2) := by rw [hp, ← hk]
    exact ⟨j, p.2, lookK_at hn hl, hl, ⟨e, hj, hek⟩, h2'⟩

theorem MapIs.lookup (h : MapIs w r ke ve l) (hm : P.underlying T = some (.map kt et)) (hK : KeyT P kt ke) {z : Value} (hz : ∀ w, (zeroValue et).run P w = .ok z w) (k : K) (ok : Bool) :
    (Instr.lookup T (.map (some r)) (ke k) ok).run P w = .ok (if ok then .tuple #[((lookK k l).map ve).getD z, .bool (lookK k l).isSome] else ((lookK k l).map ve).getD z) w := by
  obtain ⟨es, clk, hb, he, hn, _⟩ := h
  rcases find_at (w := w) hK hn he k with ⟨h1, _, h2⟩ | ⟨j, v, h1, _, _, h2⟩
  · simp [Instr.lookup, run_underlying hm, MapKept.run_getObj_map hb, hK.check, h2, hz, h1, Result.andThen]
  · simp [Instr.lookup, run_underlying hm, MapKept.run_getObj_map hb, hK.check, h2, h1, Result.andThen]

theorem lookup_nil (hm : P.underlying T = some (.map kt et)) (hK : KeyT P kt ke) {z : Value} (hz : ∀ w, (zeroValue et).run P w = .ok z w) (k : K) (ok : Bool) :
    (Instr.lookup T (.map none) (ke k) ok).run P w = .ok (if ok then .tuple #[z, .bool false] else z) w := by
  rcases hK.find w k [] (by simp) with ⟨_, h2⟩ | ⟨j, e, hj, _, _⟩
  · simp [Instr.lookup, run_underlying hm, hK.check, h2, hz, Result.andThen]
  · simp at hj

/-- The pairs behind an update. -/
def upd (k : K) (v : V) (l : List (K × V)) : List (K × V) := if (lookK k l).isSome then l.map (fun p => if p.1 = k then (k, v) else p) else l ++ [(k, v)]
def del (k : K) (l : List (K × V)) : List (K × V) := l.filter (fun p => p.1 ≠ k)

theorem lookK_none {l : List (K × V)} {k : K} : lookK k l = none ↔ ∀ p ∈ l, p.1 ≠ k := by simp [lookK]
theorem lookK_mem {l : List (K × V)} {k : K} {v : V} (h : lookK k l = some v) : (k, v) ∈ l := by
  unfold lookK at h
  cases hf : l.find? (fun p => decide (p.1 = k)) with
  | none => rw [hf] at h; cases h
  | some p =>
    rw [hf] at h
    have h1 := List.find?_some hf
    have h2 := List.mem_of_find?_eq_some hf
    simp at h h1
    obtain ⟨a, b⟩ := p
    simp at h h1; subst h h1; exact h2
theorem lookK_iff {l : List (K × V)} (hn : (l.map Prod.fst).Nodup) {k : K} {v : V} : lookK k l = some v ↔ (k, v) ∈ l := by
  refine ⟨lookK_mem, fun h => ?_⟩
  obtain ⟨j, hj⟩ := List.getElem?_of_mem h
  exact lookK_at hn hj
theorem lookK_nil (k : K) : lookK k ([] : List (K × V)) = none := rfl
theorem lookK_cons (k : K) (p : K × V) (l : List (K × V)) : lookK k (p :: l) = if p.1 = k then some p.2 else lookK k l := by
  unfold lookK; simp only [List.find?_cons]; by_cases h : p.1 = k <;> simp [h]
theorem lookK_append (k : K) (l m : List (K × V)) : lookK k (l ++ m) = (lookK k l).or (lookK k m) := by
  induction l with
  | nil => simp [lookK_nil]
  | cons p l ih => simp only [List.cons_append, lookK_cons, ih]; split <;> simp
theorem lookK_upd (k k' : K) (v : V) (l : List (K × V)) : lookK k' (upd k v l) = if k' = k then some v else lookK k' l := by
  unfold upd
  by_cases hs : (lookK k l).isSome
  · simp only [hs, if_true]
    have : ∀ (l : List (K × V)), lookK k' (l.map (fun p => if p.1 = k then (k, v) else p)) = if k' = k then (lookK k l).map (fun _ => v) else lookK k' l := by
      intro l
      induction l with
      | nil => simp [lookK_nil]
      | cons p l ih =>
        simp only [List.map_cons, lookK_cons, ih]
        by_cases h1 : p.1 = k <;> by_cases h2 : k' = k
        · subst h2; simp [h1]
        · simp [h1, h2, Ne.symm h2]
        · subst h2; simp [h1]
        · simp [h1, h2]
    rw [this]
    obtain ⟨u, hu⟩ := Option.isSome_iff_exists.1 hs
    simp [hu]
  · have hs' : lookK k l = none := by simpa using hs
    simp only [hs', Option.isSome_none, Bool.false_eq_true, if_false]
    rw [lookK_append, lookK_cons, lookK_nil]
    by_cases h2 : k' = k
    · subst h2; simp [hs']
    · simp [h2, Ne.symm h2]
theorem lookK_del (k k' : K) (l : List (K × V)) : lookK k' (del k l) = if k' = k then none else lookK k' l := by
  induction l with
  | nil => simp [del, lookK_nil]
  | cons p l ih =>
    unfold del at ih ⊢
    by_cases h1 : p.1 = k
    · rw [List.filter_cons_of_neg (by simpa using h1), ih, lookK_cons]
      by_cases h2 : k' = k
      · simp [h2]
      · have h3 : p.1 ≠ k' := fun e => h2 (e.symm.trans h1)
        simp [h2, h3]
    · rw [List.filter_cons_of_pos (by simpa using h1), lookK_cons, lookK_cons, ih]
      by_cases h2 : k' = k
      · simp [h2, h1]
      · simp [h2]
theorem keys_upd (k : K) (v : V) (l : List (K × V)) : (upd k v l).map Prod.fst = if (lookK k l).isSome then l.map Prod.fst else l.map Prod.fst ++ [k] := by
  unfold upd
  split
  · rw [List.map_map]; apply List.map_congr_left; intro p _; simp only [Function.comp]; split <;> simp_all
  · simp
theorem nodup_upd {l : List (K × V)} (hn : (l.map Prod.fst).Nodup) (k : K) (v : V) : ((upd k v l).map Prod.fst).Nodup := by
  rw [keys_upd]
  split
  · exact hn
  · rename_i h
    rw [List.nodup_append]
    refine ⟨hn, by simp, fun a ha b hb e => ?_⟩
    simp at hb; subst hb; subst e
    obtain ⟨p, hp, hpe⟩ := List.mem_map.1 ha
    exact (lookK_none.1 (by simpa using h)) p hp hpe
theorem nodup_del {l : List (K × V)} (hn : (l.map Prod.fst).Nodup) (k : K) : ((del k l).map Prod.fst).Nodup := hn.sublist (List.filter_sublist.map _)

theorem MapIs.update (h : MapIs w r ke ve l) (hm : P.underlying T = some (.map kt et)) (hK : KeyT P kt ke) (k : K) (v : V) :
    ∃ w', (Instr.mapUpdate T (.map (some r)) (ke k) (ve v)).run P w = .ok () w' ∧ Chg [r] w w' ∧ w'.heap.size = w.heap.size ∧ MapIs w' r ke ve (upd k v l) := by
  obtain ⟨es, clk, hb, he, hn, hbn, hbd⟩ := h
  rcases find_at (w := w) hK hn he k with ⟨h1, h3, h2⟩ | ⟨j, v0, h1, hlj, ⟨e, hej, hek⟩, h2⟩
  · refine ⟨{ w with heap := w.heap.setIfInBounds r (.map (es.push { key := ke k, val := ve v, born := clk }) (clk + 1)) }, by simp [Instr.mapUpdate, run_underlying hm, MapKept.run_getObj_map hb, hK.check, h2, MapKept.run_setObj_map _ hb, Result.andThen], Chg.put, by simp, _, _, (MapKept.heap_set hb).1, ?_, nodup_upd hn k v, ?_, ?_⟩
    · simp [upd, h1, he]
    · intro x hx
      simp only [Array.toList_push, List.mem_append, List.mem_singleton] at hx
      rcases hx with hx | rfl
      · exact Nat.lt_succ_of_lt (hbn x hx)
      · exact Nat.lt_succ_self _
    · simp only [Array.toList_push, List.map_append, List.map_cons, List.map_nil]
      rw [List.nodup_append]
      refine ⟨hbd, by simp, fun a ha b hb e => ?_⟩
      simp at hb; subst hb; subst e
      obtain ⟨x, hx, hxe⟩ := List.mem_map.1 ha
      exact Nat.lt_irrefl _ (hxe ▸ hbn x hx)
  · have hj : es[j]? = some e := by simpa using hej
    have hkeep : (Instr.keyThatStays (ke k) (ke k)).run P w = .ok (ke k) w := by simp [Instr.keyThatStays, hK.stays]
    have hb' : (es.modify j fun e => { e with key := ke k, val := ve v }).toList.map (·.born) = es.toList.map (·.born) := by
      rw [Array.toList_modify]
      refine List.ext_getElem? fun i => ?_
      simp only [List.getElem?_map, List.getElem?_modify]
      by_cases h : j = i <;> simp [h]
      cases es[i]? <;> rfl
    refine ⟨{ w with heap := w.heap.setIfInBounds r (.map (es.modify j fun e => { e with key := ke k, val := ve v }) clk) }, by simp [Instr.mapUpdate, run_underlying hm, MapKept.run_getObj_map hb, hK.check, h2, hj, hek, hkeep, MapKept.run_setObj_map _ hb, Result.andThen], Chg.put, by simp, _, _, (MapKept.heap_set hb).1, ?_, nodup_upd hn k v, ?_, ?_⟩
    · have hup : upd k v l = l.map (fun p => if p.1 = k then (k, v) else p) := by simp [upd, h1]
      rw [hup, List.map_map, Array.toList_modify]
      refine List.ext_getElem? fun i => ?_
      have hi := congrArg (fun t : List (Value × Value) => t[i]?) he
      simp only [List.getElem?_map] at hi
      simp only [List.getElem?_map, List.getElem?_modify]
      by_cases hji : j = i
      · subst hji
        simp [hlj, hej]
      · simp only [hji, if_false]
        cases hl : l[i]? with
        | none => rw [hl] at hi; simpa [hl] using hi
        | some p =>
          have hpk : p.1 ≠ k := fun e => by
            have : (l.map Prod.fst)[i]? = (l.map Prod.fst)[j]? := by simp [hl, hlj, e]
            have hlt : i < (l.map Prod.fst).length := by
              have := (List.getElem?_eq_some_iff.1 hl).1
              simpa using this
            exact hji ((List.getElem?_inj hlt hn).1 this).symm
          rw [hl] at hi
          simpa [hl, hpk] using hi
    · intro x hx
      have hm : x.born ∈ es.toList.map (·.born) := hb' ▸ List.mem_map.2 ⟨x, hx, rfl⟩
      obtain ⟨y, hy, hye⟩ := List.mem_map.1 hm
      exact hye ▸ hbn y hy
    · rw [hb']; exact hbd

theorem MapIs.delete (h : MapIs w r ke ve l) (hm : P.underlying T = some (.map kt et)) (hK : KeyT P kt ke) (k : K) {ty : TypeId} :
    ∃ w', (Builtin.delete_ #[T, kt] ty #[.map (some r), ke k]).run P w = .ok (.tuple #[]) w' ∧ Chg [r] w w' ∧ w'.heap.size = w.heap.size ∧ MapIs w' r ke ve (del k l) := by
  obtain ⟨es, clk, hb, he, hn, hbn, hbd⟩ := h
  rcases find_at (w := w) hK hn he k with ⟨h1, h3, h2⟩ | ⟨j, v0, h1, hlj, ⟨e, hej, hek⟩, h2⟩
  · refine ⟨{ w with heap := w.heap.setIfInBounds r (.map es clk) }, by simp [Builtin.delete_, run_underlying hm, MapKept.run_getObj_map hb, hK.check, h2, MapKept.run_setObj_map _ hb, Result.andThen], Chg.put, by simp, _, _, (MapKept.heap_set hb).1, ?_, nodup_del hn k, hbn, hbd⟩
    rw [he]
    have : del k l = l := by unfold del; exact List.filter_eq_self.2 (by simpa using h3)
    rw [this]
  · have hjlt : j < es.size := by simpa using (List.getElem?_eq_some_iff.1 hej).1
    have het : (es.eraseIdxIfInBounds j).toList = es.toList.eraseIdx j := by
      unfold Array.eraseIdxIfInBounds
      simp [hjlt, Array.toList_eraseIdx]
    refine ⟨{ w with heap := w.heap.setIfInBounds r (.map (es.eraseIdxIfInBounds j) clk) }, by simp [Builtin.delete_, run_underlying hm, MapKept.run_getObj_map hb, hK.check, h2, MapKept.run_setObj_map _ hb, Result.andThen], Chg.put, by simp, _, _, (MapKept.heap_set hb).1, ?_, nodup_del hn k, ?_, ?_⟩
    · rw [het]
      have hd : del k l = l.eraseIdx j := by
        clear he hbn hbd hek hej h2 hjlt het hb h1
        unfold del
        induction l generalizing j with
        | nil => simp at hlj
        | cons p l ih =>
          simp only [List.map_cons, List.nodup_cons] at hn
          cases j with
          | zero =>
            simp at hlj; subst hlj
            rw [List.filter_cons_of_neg (by simp)]
            simp only [List.eraseIdx_cons_zero]
            refine List.filter_eq_self.2 fun q hq => ?_
            simp only [ne_eq, decide_not, Bool.not_eq_eq_eq_not, Bool.not_true, decide_eq_false_iff_not]
            intro e; exact hn.1 (List.mem_map.2 ⟨q, hq, e⟩)
          | succ j =>
            simp at hlj
            have hm : k ∈ l.map Prod.fst := List.mem_map.2 ⟨(k, v0), List.mem_of_getElem? hlj, rfl⟩
            have hne : p.1 ≠ k := fun e => hn.1 (e ▸ hm)
            rw [List.filter_cons_of_pos (by simpa using hne), List.eraseIdx_cons_succ, ih hn.2 j hlj]
      rw [hd]
      have h5 : ∀ {α β : Type} (f : α → β) (m : List α) (i : Nat), (m.eraseIdx i).map f = (m.map f).eraseIdx i := by
        intro α β f m
        induction m with
        | nil => intro i; rfl
        | cons x m ih => intro i; cases i <;> simp [ih]
      rw [h5, h5, he]
    · intro x hx
      rw [het] at hx
      exact hbn x ((List.eraseIdx_sublist _ _).subset hx)
    · rw [het]; exact hbd.sublist ((List.eraseIdx_sublist _ _).map _)

end
end Go.X
