/- Boxes of a function's own, of which nobody else knows: what stands in them. -/
import Derived.Test.YtkfncibmfcdokaaXRow
set_option linter.unusedVariables false
set_option linter.unusedSimpArgs false
set_option linter.unusedSectionVars false
namespace Go.X
open Go Go.RowKit

/-- Blocks with what stands in them, all unlike. -/
structure Boxes (w : World) (l : List (Nat × List Value × TypeId)) : Prop where
  heap : ∀ x ∈ l, w.heap[x.1]? = some (.cells x.2.1.toArray x.2.2 (0, 0))
  nodup : (l.map (·.1)).Nodup
/-- These blocks are as they were. -/
def Same (w w' : World) (l : List Nat) : Prop := ∀ b ∈ l, w'.heap[b]? = w.heap[b]?
theorem Same.of {f : List Nat} {w w' : World} {l : List Nat} (h : Chg f w w') (hl : ∀ b ∈ l, b < w.heap.size ∧ b ∉ f) : Same w w' l := fun b hb => h.block b (hl b hb).1 (hl b hb).2
theorem Same.chg {w w' : World} {l : List Nat} (h : Chg [] w w') (hl : ∀ b ∈ l, b < w.heap.size) : Same w w' l := Same.of h fun b hb => ⟨hl b hb, by simp⟩
theorem Same.refl (w : World) (l : List Nat) : Same w w l := fun _ _ => rfl

section
variable {w w' w1 w0 : World} {l l' : List (Nat × List Value × TypeId)} {b o i : Nat} {cs cs' vs : List Value} {T : TypeId} {v : Value} {M : List Nat} {x : Obj}
theorem Boxes.nil (w : World) : Boxes w [] := ⟨by simp, by simp⟩
theorem Boxes.at (h : Boxes w l) (hi : l[i]? = some (b, cs, T)) : w.heap[b]? = some (.cells cs.toArray T (0, 0)) := h.heap _ (List.mem_of_getElem? hi)
theorem Boxes.chg {f : List Nat} (h : Boxes w l) (hc : Chg f w w1) (hf : ∀ x ∈ l, x.1 ∉ f) : Boxes w1 l := ⟨fun x hx => hc.obj (hf x hx) (h.heap x hx), h.nodup⟩
theorem Boxes.grow (h : Boxes w l) (hw : w1 = World.alloc w x) : Boxes w1 l := h.chg (f := []) (by subst hw; exact Chg.alloc _ _) (by simp)
theorem Boxes.drew (h : Boxes w l) (hw : w1 = World.drew w) : Boxes w1 l := h.chg (f := []) (by subst hw; exact Chg.drew _) (by simp)
theorem Boxes.alloc (h : Boxes w l) (hb : b = World.size w) (hw : w1 = World.alloc w (.cells cs.toArray T)) : Boxes w1 ((b, cs, T) :: l) := by
  have h1 := h.grow hw
  refine ⟨fun y hy => ?_, ?_⟩
  · rcases List.mem_cons.1 hy with rfl | hy
    · subst hb hw; exact heap_new w _
    · exact h1.heap y hy
  · rw [List.map_cons, List.nodup_cons]
    refine ⟨fun hm => ?_, h.nodup⟩
    obtain ⟨y, hy, e⟩ := List.mem_map.1 hm
    have := lt_of_heap (h.heap y hy)
    subst hb
    change y.1 = w.heap.size at e
    omega
theorem Boxes.same (h : Boxes w l) (hs : Same w w1 (l.map (·.1))) : Boxes w1 l := ⟨fun x hx => (hs _ (List.mem_map.2 ⟨x, hx, rfl⟩)).trans (h.heap x hx), h.nodup⟩
theorem sel_nodup : ∀ (is : List Nat), is.Nodup → (l.map (·.1)).Nodup → ((is.filterMap (fun i => l[i]?)).map (·.1)).Nodup
  | [], _, _ => by simp
  | i :: is, hi, hl => by
    have ih := sel_nodup is (List.nodup_cons.1 hi).2 hl
    rw [List.filterMap_cons]
    cases hx : l[i]? with
    | none => exact ih
    | some x =>
      simp only [List.map_cons, List.nodup_cons]
      refine ⟨fun hm => ?_, ih⟩
      obtain ⟨y, hy, e⟩ := List.mem_map.1 hm
      obtain ⟨j, hj, hjy⟩ := List.mem_filterMap.1 hy
      have h1 : (l.map (·.1))[i]? = some x.1 := by simp [hx]
      have h2 : (l.map (·.1))[j]? = some x.1 := by simp [hjy, e]
      have hlt : i < (l.map (·.1)).length := (List.getElem?_eq_some_iff.1 h1).1
      have : i = j := (List.getElem?_inj hlt hl).1 (h1.trans h2.symm)
      subst this
      exact (List.nodup_cons.1 hi).1 hj
theorem Boxes.sel (h : Boxes w l) (is : List Nat) (hn : is.Nodup) (hl : is.filterMap (fun i => l[i]?) = l') : Boxes w l' := by
  subst hl
  refine ⟨fun x hx => ?_, sel_nodup is hn h.nodup⟩
  obtain ⟨j, _, hj⟩ := List.mem_filterMap.1 hx
  exact h.heap x (List.mem_of_getElem? hj)
theorem Boxes.put (h : Boxes w l) (hi : l[i]? = some (b, cs, T)) (hc : Chg [b] w w1) (hb : w1.heap[b]? = some (.cells cs'.toArray T (0, 0))) : Boxes w1 (l.set i (b, cs', T)) := by
  have hm : (l.set i (b, cs', T)).map (·.1) = l.map (·.1) := by
    rw [List.map_set]
    apply List.ext_getElem?
    intro j
    rw [List.getElem?_set]
    split
    · rename_i e; subst e
      split
      · simp [hi]
      · rename_i hlt
        rw [List.getElem?_eq_none (by omega)]
    · rfl
  refine ⟨fun x hx => ?_, by rw [hm]; exact h.nodup⟩
  obtain ⟨j, hj⟩ := List.getElem?_of_mem hx
  rw [List.getElem?_set] at hj
  split at hj
  · split at hj
    · cases hj; exact hb
    · cases hj
  · rename_i hne
    have hx' := h.heap x (List.mem_of_getElem? hj)
    refine hc.obj (fun hm => ?_) hx'
    simp at hm
    have h1 : (l.map (·.1))[j]? = some b := by simp [hj, hm]
    have h2 : (l.map (·.1))[i]? = some b := by simp [hi]
    have hlt : i < (l.map (·.1)).length := (List.getElem?_eq_some_iff.1 h2).1
    exact hne ((List.getElem?_inj hlt h.nodup).1 (h2.trans h1.symm))
theorem Boxes.store (h : Boxes w l) (hi : l[i]? = some (b, cs, T)) (hc : cs.take o ++ vs ++ cs.drop (o + vs.length) = cs') (hl : l.set i (b, cs', T) = l') (hle : Nat.ble (o + vs.length) cs.length = true) (hw : w1 = setCells w ⟨b, o, none⟩ 0 vs) : Boxes w1 l' := by
  subst hl hw hc
  have hle' := Nat.le_of_ble_eq_true hle
  refine h.put hi (Chg.setCells ⟨b, o, none⟩ vs 0 w) ?_
  have h1 := h.at hi
  have e : cs = cs.take o ++ (cs.drop o).take vs.length ++ cs.drop (o + vs.length) := by
    rw [← List.drop_drop, List.append_assoc, List.take_append_drop, List.take_append_drop]
  have ho : (cs.take o).length = o := by rw [List.length_take]; omega
  have := setCells_mid (w := w) (b := b) (t := T) (pre := cs.take o) (zs := (cs.drop o).take vs.length) (post := cs.drop (o + vs.length)) (vs := vs) (by rw [List.length_take, List.length_drop]; omega) (by rw [← e]; exact h1)
  rwa [ho] at this
theorem Boxes.store1 (h : Boxes w l) (hi : l[i]? = some (b, cs, T)) (hc : cs.take o ++ [v] ++ cs.drop (o + 1) = cs') (hl : l.set i (b, cs', T) = l') (hle : Nat.ble (o + 1) cs.length = true) (hw : w1 = World.setCell w ⟨b, o, none⟩ v) : Boxes w1 l' :=
  h.store (vs := [v]) hi hc hl hle (by rw [hw]; simp only [setCells, add_at, Nat.add_zero])
theorem box_cell {fr : Nat × Nat} (h : w.heap[b]? = some (.cells cs.toArray T fr)) (hv : cs[o]? = some v) : w.cell? ⟨b, o, none⟩ = some v := by
  rw [cell_of h]; simpa using hv
theorem box_cells {fr : Nat × Nat} (h : w.heap[b]? = some (.cells cs.toArray T fr)) (hv : (cs.drop o).take vs.length = vs) : CellsAt w ⟨b, o, none⟩ 0 vs := by
  have : ∀ (vs : List Value) (k : Nat), (∀ j v, vs[j]? = some v → cs[o + k + j]? = some v) → CellsAt w ⟨b, o, none⟩ k vs := by
    intro vs
    induction vs with
    | nil => intro k _; trivial
    | cons v vs ih =>
      intro k hk
      refine ⟨by rw [add_at]; exact box_cell h (by simpa using hk 0 v rfl), ih (k + 1) fun j u hj => ?_⟩
      have := hk (j + 1) u (by simpa using hj)
      rwa [show o + k + (j + 1) = o + (k + 1) + j by omega] at this
  refine this vs 0 fun j v hj => ?_
  rw [← hv, List.getElem?_take] at hj
  split at hj
  · rw [List.getElem?_drop] at hj; simpa using hj
  · cases hj
theorem sil_lo (h : Chg M w0 w) (hb : b = World.size w) : w0.heap.size ≤ b := by subst hb; exact h.size
theorem sil_alloc (h : Chg M w0 w) (hw : w1 = World.alloc w x) : Chg M w0 w1 := by subst hw; exact h.trans (g := []) (Chg.alloc _ _) (by simp)
theorem sil_drew (h : Chg M w0 w) (hw : w1 = World.drew w) : Chg M w0 w1 := by subst hw; exact h.trans (g := []) (Chg.drew _) (by simp)
theorem sil_cN {q : Addr} (hw : w1 = setCells w q 0 vs) : Chg [q.block] w w1 := by subst hw; exact Chg.setCells _ _ _ _
theorem sil_c1 {q : Addr} (hw : w1 = World.setCell w q v) : Chg [q.block] w w1 := by subst hw; exact Chg.setCell _ _ _
theorem sil_new (h : Chg M w0 w) (hc : Chg [b] w w1) (hb : w0.heap.size ≤ b) : Chg M w0 w1 := h.trans hc (fun i hi hlt => by simp at hi; omega)
theorem sil_old (h : Chg M w0 w) (hc : Chg [b] w w1) (hb : b ∈ M) : Chg M w0 w1 := h.trans hc (fun i hi hlt => by simp at hi; exact hi ▸ hb)
theorem sil_more (h : Chg M w0 w) (hc : Chg [b] w w1) : Chg (M ++ [b]) w0 w1 := (h.mono (fun i hi _ => List.mem_append_left _ hi)).trans hc (fun i hi _ => by simp at hi; simp [hi])
theorem equalIn_map_nil {P : Program} (d : Nat) {t k e : TypeId} (m : Option Nat) (h : P.underlying t = some (.map k e)) (w : World) : (Op.equalIn (d + 1) t (.map m) (.map none)).run P w = .ok m.isNone w := by
  cases m <;> simp [Op.equalIn, run_underlying h]
theorem map_nil_eq {P : Program} {T : TypeId} {x y : Operand} (hT : (match P.underlying T with | some (.map _ _) => true | _ => false) = true) (m : Option Nat) (w : World) :
    ((do eqGuard .eql T x y (.map m) (.map none); binOp .eql T (.map m) (.map none) : Sem Value)).run P w = .ok (.bool (Option.isNone m)) w := by
  have h1 : (eqGuard .eql T x y (.map m) (.map none)).run P w = .ok () w := by simp [eqGuard]
  simp only [Sem.run_bind, h1, Result.andThen_ok]
  cases hu : P.underlying T with
  | none => rw [hu] at hT; cases hT
  | some u =>
    rw [hu] at hT
    cases u with
    | map k e =>
      simp only [binOp]
      have : (Op.equal T (.map m) (.map none)).run P w = .ok m.isNone w := by
        exact equalIn_map_nil 9999 m hu w
      simp [this]
    | _ => cases hT
theorem map_nil_ne {P : Program} {T : TypeId} {x y : Operand} (hT : (match P.underlying T with | some (.map _ _) => true | _ => false) = true) (m : Option Nat) (w : World) :
    ((do eqGuard .neq T x y (.map m) (.map none); binOp .neq T (.map m) (.map none) : Sem Value)).run P w = .ok (.bool (!(Option.isNone m))) w := by
  have h1 : (eqGuard .neq T x y (.map m) (.map none)).run P w = .ok () w := by simp [eqGuard]
  simp only [Sem.run_bind, h1, Result.andThen_ok]
  cases hu : P.underlying T with
  | none => rw [hu] at hT; cases hT
  | some u =>
    rw [hu] at hT
    cases u with
    | map k e =>
      simp only [binOp]
      have : (Op.equal T (.map m) (.map none)).run P w = .ok m.isNone w := by
        exact equalIn_map_nil 9999 m hu w
      simp [this]
    | _ => cases hT
theorem minI {P : Program} (ts : Array TypeId) (T : TypeId) (k : IntKind) (x y : Int) (w : World) : (Builtin.min_ ts T #[.int k x, .int k y]).run P w = .ok (.int k (if y < x then y else x)) w := by
  simp [Builtin.min_, Builtin.min2]
theorem maxI {P : Program} (ts : Array TypeId) (T : TypeId) (k : IntKind) (x y : Int) (w : World) : (Builtin.max_ ts T #[.int k x, .int k y]).run P w = .ok (.int k (if x < y then y else x)) w := by
  simp [Builtin.max_, Builtin.max2]
end
section
variable {P : Program} {N : Nat} {D : List Deferred} {E : Env} {w w' : World} {d : Option Nat} {T : TypeId} {p : String} {af : Array Edge} {g : Option (Nat × Bool)} {S : World → Prop} {v : Value}
theorem Rd.makeInterface {t : TypeId} {x : Operand} {vx : Value} (hx : opd E x = some vx) (hr : ∀ w, (Instr.makeInterface t vx).run P w = .ok v w) : Rd P N D E ⟨d, .makeInterface t x, T, p, af, g⟩ v S := fun a ha w _ => by
  simp [execOp, ha.eval hx, hr]
theorem Rd.typeAssert {t u : TypeId} {ok : Bool} {x : Operand} {vx : Value} (hx : opd E x = some vx) (hr : ∀ w, (Instr.typeAssert vx t u ok).run P w = .ok v w) : Rd P N D E ⟨d, .typeAssert x t u ok, T, p, af, g⟩ v S := fun a ha w _ => by
  simp [execOp, ha.eval hx, hr]
theorem Vl.extern {f : Nat} {args : Array Operand} {ts : Array TypeId} {vs : List Value} (hx : opdL E args.toList = some vs) (hr : (callFunc f vs.toArray).run P w = .ok (.value v) w') :
    Vl P N D E ⟨d, .call ⟨.value (.func f), args, ts⟩, T, p, af, g⟩ w v w' := fun a ha => by
  have h1 : args.map a.eval = vs.toArray := opdL_map ha hx
  simp [execOp, resolve, Act.eval, Deferred.ofValue, invoke, h1, hr]
end
end Go.X
