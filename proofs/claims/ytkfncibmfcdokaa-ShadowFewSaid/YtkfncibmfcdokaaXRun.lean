/- Small lemmas that the printed texts use. -/
import Derived.Test.YtkfncibmfcdokaaXOps
set_option linter.unusedVariables false
set_option linter.unusedSimpArgs false
namespace Go.X
open Go
/-- The cells from an address on. -/
def CellsAt (w : World) (q : Addr) : Nat → List Value → Prop
  | _, [] => True
  | i, v :: vs => w.cell? (q.add i) = some v ∧ CellsAt w q (i + 1) vs
theorem cellsAt_get' {w : World} {q : Addr} : ∀ {vs : List Value} {i : Nat}, CellsAt w q i vs → ∀ j v, vs[j]? = some v → w.cell? (q.add (i + j)) = some v
  | [], _, _, j, v, h => by simp at h
  | x :: vs, i, ⟨h1, h2⟩, 0, v, h => by simp at h; subst h; exact h1
  | x :: vs, i, ⟨h1, h2⟩, j + 1, v, h => by
    have := cellsAt_get' h2 j v (by simpa using h)
    rwa [show i + 1 + j = i + (j + 1) from by omega] at this
theorem cellsAt_get {w : World} {q : Addr} {vs : List Value} (h : CellsAt w q 0 vs) : ∀ j v, vs[j]? = some v → w.cell? (q.add j) = some v := fun j v hj => by
  have := cellsAt_get' h j v hj; rwa [Nat.zero_add] at this
theorem cellsS {w : World} {q : Addr} {vs : List Value} (h : CellsAt w q 0 vs) : ∀ w', w' = w → ∀ j v, vs[j]? = some v → w'.cell? (q.add j) = some v := fun _ e => e ▸ cellsAt_get h
def Has (w : World) (q : Addr) (n : Nat) : Prop := ∀ j, j < n → (w.cell? (q.add j)).isSome = true
def Free (w : World) (q : Addr) (n : Nat) : Prop := ∀ j, j < n → w.frozen? (q.add j) = false
def _root_.Go.World.size (w : World) : Nat := w.heap.size
section
variable {P : Program} {N : Nat} {D : List Deferred} {E : Env} {w w' : World} {o : Oper} {v : Value}
theorem boxE {b : Nat} {x : Obj} (hb : b = w.size) (hw : w' = w.alloc x) (h : Vl P N D E o w (.pointer (some ⟨w.heap.size, 0, none⟩)) (w.alloc x)) : Vl P N D E o w (.pointer (some ⟨b, 0, none⟩)) w' := by subst hb; subst hw; exact h
theorem mapE {b : Nat} {x : Obj} (hb : b = w.size) (hw : w' = w.alloc x) (h : Vl P N D E o w (.map (some w.heap.size)) (w.alloc x)) : Vl P N D E o w (.map (some b)) w' := by subst hb; subst hw; exact h
theorem sliceE {b n : Nat} {x : Obj} (hb : b = w.size) (hw : w' = w.alloc x) (h : ∀ w, Vl P N D E o w (.slice (some ⟨w.heap.size, 0, none⟩) n n) (w.alloc x)) : Vl P N D E o w (.slice (some ⟨b, 0, none⟩) n n) w' := by subst hb; subst hw; exact h w
theorem stE {q : Addr} (hw : w' = w.setCell q v) (h : Ef P N D E o w (w.setCell q v)) : Ef P N D E o w w' := by subst hw; exact h
theorem stNE {q : Addr} {cs : List Value} (hw : w' = setCells w q 0 cs) (h : Ef P N D E o w (setCells w q 0 cs)) : Ef P N D E o w w' := by subst hw; exact h
theorem lenB {ts : Array TypeId} {T : TypeId} {c : Array Bool} {vs : Array Value} (h : (Builtin.len_ ts T vs).run P w = .ok v w) : (builtin .len ts T c vs).run P w = .ok (.value v) w := by
  simp [builtin, h]
theorem valB {ts : Array TypeId} {T : TypeId} {c : Array Bool} {vs : Array Value} {b : Builtin} {f : Array TypeId → TypeId → Array Value → Sem Value} (h : (f ts T vs).run P w = .ok v w')
    (hb : builtin b ts T c vs = (do pure (.value (← f ts T vs))) := by rfl) : (builtin b ts T c vs).run P w = .ok (.value v) w' := by
  rw [hb]; simp [h]
theorem ptr_nil_eq {T : TypeId} {x y : Operand} (hT : P.underlying T = some (.pointer (P.pointee T))) (a : Option Addr) (w : World) :
    ((do eqGuard .eql T x y (.pointer a) (.pointer none); binOp .eql T (.pointer a) (.pointer none) : Sem Value)).run P w = .ok (.bool (Option.isNone a)) w := by
  have h1 : (eqGuard .eql T x y (.pointer a) (.pointer none)).run P w = .ok () w := by simp [eqGuard]
  simp only [Sem.run_bind, h1, Result.andThen_ok]
  exact run_eql_pointer_nil w T a hT
theorem ptr_nil_ne {T : TypeId} {x y : Operand} (hT : P.underlying T = some (.pointer (P.pointee T))) (a : Option Addr) (w : World) :
    ((do eqGuard .neq T x y (.pointer a) (.pointer none); binOp .neq T (.pointer a) (.pointer none) : Sem Value)).run P w = .ok (.bool (!(Option.isNone a))) w := by
  have h1 : (eqGuard .neq T x y (.pointer a) (.pointer none)).run P w = .ok () w := by simp [eqGuard]
  simp only [Sem.run_bind, h1, Result.andThen_ok]
  exact run_neq_pointer_nil w T a hT
theorem cellAlloc {x : Obj} {q : Addr} (hw : w' = w.alloc x) (h : w.cell? q = some v) : w'.cell? q = some v := by
  subst hw; rw [World.cell?_alloc_lt]; exact h; exact World.block_lt_of_cell? w q h
theorem cellsAlloc {x : Obj} {q : Addr} (hw : w' = w.alloc x) : ∀ {i : Nat} {vs : List Value}, CellsAt w q i vs → CellsAt w' q i vs
  | _, [], _ => trivial
  | _, _ :: _, ⟨h1, h2⟩ => ⟨cellAlloc hw h1, cellsAlloc hw h2⟩
theorem quo_run {T : TypeId} {x y : Operand} {k : IntKind} {a b : Int} (hb : b ≠ 0) (w : World) : ((do eqGuard .quo T x y (.int k a) (.int k b); binOp .quo T (.int k a) (.int k b) : Sem Value)).run P w = .ok (.int k (IntKind.wrap k (Int.tdiv a b))) w := by
  simp [eqGuard, binOp, Op.intDiv, hb]
theorem rem_run {T : TypeId} {x y : Operand} {k : IntKind} {a b : Int} (hb : b ≠ 0) (w : World) : ((do eqGuard .rem T x y (.int k a) (.int k b); binOp .rem T (.int k a) (.int k b) : Sem Value)).run P w = .ok (.int k (Int.tmod a b)) w := by
  simp [eqGuard, binOp, Op.intDiv, hb]
end
end Go.X
