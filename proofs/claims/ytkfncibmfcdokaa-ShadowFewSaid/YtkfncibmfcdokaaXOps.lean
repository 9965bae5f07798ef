/- The engine's rules for single operations, over any program. -/
import Derived.Test.YtkfncibmfcdokaaXBase
set_option linter.unusedVariables false
set_option linter.unusedSimpArgs false
namespace Go.X
open Go
section
variable {P : Program} {N : Nat} {D : List Deferred} {E : Env} {w w' : World} {d : Option Nat} {T : TypeId} {p : String} {af : Array Edge} {g : Option (Nat × Bool)} {S : World → Prop} {v : Value}

/-- In every world of S the operation yields v and leaves the world. -/
def Rd (P : Program) (N : Nat) (D : List Deferred) (E : Env) (o : Oper) (v : Value) (S : World → Prop) : Prop := ∀ a, Sat N D E a → ∀ w, S w → (execOp a.eval o).run P w = .ok (.value v) w
/-- In world w the operation yields v and leaves world w'. -/
def Vl (P : Program) (N : Nat) (D : List Deferred) (E : Env) (o : Oper) (w : World) (v : Value) (w' : World) : Prop := ∀ a, Sat N D E a → (execOp a.eval o).run P w = .ok (.value v) w'
def Ef (P : Program) (N : Nat) (D : List Deferred) (E : Env) (o : Oper) (w : World) (w' : World) : Prop := ∀ a, Sat N D E a → (execOp a.eval o).run P w = .ok .skip w'
def Cl (P : Program) (N : Nat) (D : List Deferred) (E : Env) (o : Oper) (w : World) (f : Nat) (args : Array Value) : Prop := ∀ a, Sat N D E a → (execOp a.eval o).run P w = .ok (.enter f args) w

theorem LW.rd {ops : Array Oper} {Q : Exit → Act → World → Prop} {L : Nat → Env → World → Prop} {i : Nat} {o : Oper} (hL : L = LW P N D ops Q) (ho : ops[i]? = some o) (hw : Wants N ops E o) (hd : okd N o.dst = true)
    (hv : Rd P N D E o v (· = w)) (k : L (i + 1) (putE o.dst v E) w) : L i E w := LW.val hL ho hw hd (fun a ha => hv a ha w rfl) k


def opdP (E : Env) : List (Nat × Operand) → Option (List (Nat × Value))
  | [] => some []
  | (i, x) :: r => match opd E x with
    | none => none
    | some v => match opdP E r with
      | none => none
      | some vs => some ((i, v) :: vs)
theorem opdP_map {a : Act} (ha : Sat N D E a) {ps : Array (Nat × Operand)} {vs : List (Nat × Value)} (h : opdP E ps.toList = some vs) : (ps.map fun (i, x) => (i, a.eval x)) = vs.toArray := by
  have key : ∀ (l : List (Nat × Operand)) (vs : List (Nat × Value)), opdP E l = some vs → l.map (fun (i, x) => (i, a.eval x)) = vs := by
    intro l
    induction l with
    | nil => intro vs h; simp [opdP] at h; simp [h]
    | cons q r ih =>
      intro vs h
      obtain ⟨i, x⟩ := q
      simp only [opdP] at h
      split at h
      · cases h
      · rename_i v hv
        split at h
        · cases h
        · rename_i us hus
          simp at h; subst h
          simp [ha.eval hv, ih _ hus]
  rw [← Array.toList_inj]
  simpa using key _ _ h
def opdL (E : Env) : List Operand → Option (List Value)
  | [] => some []
  | x :: r => match opd E x with
    | none => none
    | some v => match opdL E r with
      | none => none
      | some vs => some (v :: vs)
theorem opdL_map {a : Act} (ha : Sat N D E a) {xs : Array Operand} {vs : List Value} (h : opdL E xs.toList = some vs) : xs.map a.eval = vs.toArray := by
  have key : ∀ (l : List Operand) (vs : List Value), opdL E l = some vs → l.map a.eval = vs := by
    intro l
    induction l with
    | nil => intro vs h; simp [opdL] at h; simp [h]
    | cons x r ih =>
      intro vs h
      simp only [opdL] at h
      split at h
      · cases h
      · rename_i v hv
        split at h
        · cases h
        · rename_i us hus
          simp at h; subst h
          simp [ha.eval hv, ih _ hus]
  rw [← Array.toList_inj]
  simpa using key _ _ h

def optV (E : Env) : Option Operand → Option (Option Value)
  | none => some none
  | some x => match opd E x with
    | none => none
    | some v => some (some v)
theorem optV_map {a : Act} (ha : Sat N D E a) {x : Option Operand} {v : Option Value} (h : optV E x = some v) : x.map a.eval = v := by
  cases x with
  | none => simp [optV] at h; simp [← h]
  | some x =>
    simp only [optV] at h
    split at h
    · cases h
    · rename_i u hu
      simp at h; subst h
      simp [ha.eval hu]
theorem eqs {q : Addr} (h : w.cell? q = some v) : ∀ w', w' = w → w'.cell? q = some v := fun _ e => e ▸ h

theorem Rd.move {x : Operand} (h : opd E x = some v) : Rd P N D E ⟨d, .move x, T, p, af, g⟩ v S := fun a ha w _ => by simp [execOp, ha.eval h]
theorem Rd.assign {x : Operand} (h : opd E x = some v) : Rd P N D E ⟨d, .assign x, T, p, af, g⟩ v S := fun a ha w _ => by simp [execOp, ha.eval h]
theorem Rd.pickT {c x y : Operand} {b : Bool} (hc : opd E c = some (.bool b)) (hb : b = true) (h : opd E x = some v) : Rd P N D E ⟨d, .pick c x y, T, p, af, g⟩ v S := fun a ha w _ => by
  simp [execOp, ha.eval hc, ha.eval h, hb, asBool]
theorem Rd.pickF {c x y : Operand} {b : Bool} (hc : opd E c = some (.bool b)) (hb : b = false) (h : opd E y = some v) : Rd P N D E ⟨d, .pick c x y, T, p, af, g⟩ v S := fun a ha w _ => by
  simp [execOp, ha.eval hc, ha.eval h, hb, asBool]
theorem Rd.bin {op : BinOp} {T1 T2 : TypeId} {x y : Operand} {vx vy : Value} (hx : opd E x = some vx) (hy : opd E y = some vy)
    (hr : ∀ w, ((do eqGuard op T1 x y vx vy; binOp op T1 vx vy : Sem Value)).run P w = .ok v w) : Rd P N D E ⟨d, .binOp op T1 x y T2, T, p, af, g⟩ v S := fun a ha w _ => by
  have := hr w
  simp only [Sem.run_bind] at this
  cases hg : (eqGuard op T1 x y vx vy).run P w with
  | ok u w1 => rw [hg] at this; simp only [Result.andThen_ok] at this; simp [execOp, ha.eval hx, ha.eval hy, hg, this]
  | halt h w1 => rw [hg] at this; cases this
theorem Rd.binS {op : BinOp} {T1 T2 : TypeId} {x y : Operand} {vx vy : Value} (hx : opd E x = some vx) (hy : opd E y = some vy)
    (hr : ∀ w, S w → ((do eqGuard op T1 x y vx vy; binOp op T1 vx vy : Sem Value)).run P w = .ok v w) : Rd P N D E ⟨d, .binOp op T1 x y T2, T, p, af, g⟩ v S := fun a ha w hS => by
  have := hr w hS
  simp only [Sem.run_bind] at this
  cases hg : (eqGuard op T1 x y vx vy).run P w with
  | ok u w1 => rw [hg] at this; simp only [Result.andThen_ok] at this; simp [execOp, ha.eval hx, ha.eval hy, hg, this]
  | halt h w1 => rw [hg] at this; cases this
theorem Rd.un {op : UnOp} {T1 : TypeId} {x : Operand} {vx : Value} (hx : opd E x = some vx) (hr : ∀ w, (Op.unary op vx).run P w = .ok v w) : Rd P N D E ⟨d, .unOp op T1 x, T, p, af, g⟩ v S := fun a ha w _ => by
  simp [execOp, ha.eval hx, hr w]
theorem Rd.conv {s t : TypeId} {x : Operand} {vx : Value} (hx : opd E x = some vx) (hr : ∀ w, (convert s t vx).run P w = .ok v w) : Rd P N D E ⟨d, .convert s t x, T, p, af, g⟩ v S := fun a ha w _ => by
  simp [execOp, ha.eval hx, hr w]
theorem Rd.nil {x : Operand} {q : Addr} (hx : opd E x = some (.pointer (some q))) : Rd P N D E ⟨d, .nilCheck x, T, p, af, g⟩ (.pointer (some q)) S := fun a ha w _ => by
  simp [execOp, ha.eval hx]
theorem Rd.nilf {x : Operand} {f : Nat} {cap : Array Value} (hx : opd E x = some (.func (.func f) #[] cap)) : Rd P N D E ⟨d, .nilCheck x, T, p, af, g⟩ (.func (.func f) #[] cap) S := fun a ha w _ => by
  simp [execOp, ha.eval hx]
theorem Rd.fa {s : TypeId} {x : Operand} {f : Nat} {q : Addr} (hx : opd E x = some (.pointer (some q))) (hr : ∀ w, (Instr.fieldAt s (.pointer (some q)) f).run P w = .ok v w) :
    Rd P N D E ⟨d, .fieldAddr s x f, T, p, af, g⟩ v S := fun a ha w _ => by
  simp [execOp, ha.eval hx, hr w]
theorem Rd.field {s : TypeId} {x : Operand} {f : Nat} {vx : Value} (hx : opd E x = some vx) (hr : ∀ w, (Instr.field s vx f).run P w = .ok v w) : Rd P N D E ⟨d, .field s x f, T, p, af, g⟩ v S := fun a ha w _ => by
  simp [execOp, ha.eval hx, hr w]
theorem Rd.extract {x : Operand} {i : Nat} {vs : Array Value} (hx : opd E x = some (.tuple vs)) (hi : vs[i]? = some v) : Rd P N D E ⟨d, .extract x i, T, p, af, g⟩ v S := fun a ha w _ => by
  simp [execOp, ha.eval hx, Instr.extract, hi]
theorem Rd.build {t : TypeId} {ps : Array (Nat × Operand)} {vs : List (Nat × Value)} (hx : opdP E ps.toList = some vs) (hr : ∀ w, (Instr.build t vs.toArray).run P w = .ok v w) :
    Rd P N D E ⟨d, .build t ps, T, p, af, g⟩ v S := fun a ha w _ => by
  simp [execOp, opdP_map ha hx, hr w]
theorem Rd.makeFunc {f : Nat} {cap : Array Operand} {vs : List Value} (hx : opdL E cap.toList = some vs) : Rd P N D E ⟨d, .makeFunc (.func f) #[] cap, T, p, af, g⟩ (.func (.func f) #[] vs.toArray) S := fun a ha w _ => by
  simp [execOp, opdL_map ha hx, Instr.makeFunc]

/-- A load of one cell. -/
theorem Rd.ld {t : TypeId} {x : Operand} {q : Addr} (hx : opd E x = some (.pointer (some q))) (ht : (match P.underlying t with | some (.struct _) | some (.array _ _) | none => false | _ => true) = true)
    (hc : ∀ w, S w → w.cell? q = some v) : Rd P N D E ⟨d, .load t x, T, p, af, g⟩ v S := fun a ha w hS => by
  have h1 : (isAgg t).run P w = .ok false w := by
    unfold isAgg
    cases hu : P.underlying t with
    | none => rw [hu] at ht; cases ht
    | some u => rw [hu] at ht; simp only [Sem.run_bind, run_underlying hu, Result.andThen_ok]; cases u <;> first | rfl | (cases ht)
  simp [execOp, ha.eval hx, Instr.loadAt, Instr.sureAddr, loadVar, h1, hc w hS]
/-- A load of a struct or an array. -/
theorem Rd.ldN {t : TypeId} {x : Operand} {q : Addr} {cs : List Value} (hx : opd E x = some (.pointer (some q))) (ht : (match P.underlying t with | some (.struct _) | some (.array _ _) => true | _ => false) = true)
    (hz : (P.info? t).map (·.size) = some cs.length) (hc : ∀ w, S w → ∀ j v, cs[j]? = some v → w.cell? (q.add j) = some v) : Rd P N D E ⟨d, .load t x, T, p, af, g⟩ (.agg cs.toArray) S := fun a ha w hS => by
  have h1 : (isAgg t).run P w = .ok true w := by
    unfold isAgg
    cases hu : P.underlying t with
    | none => rw [hu] at ht; cases ht
    | some u => rw [hu] at ht; simp only [Sem.run_bind, run_underlying hu, Result.andThen_ok]; cases u <;> first | rfl | (cases ht)
  have h2 : (sizeOf t).run P w = .ok cs.length w := by
    cases hi : P.info? t with
    | none => rw [hi] at hz; cases hz
    | some i => rw [hi] at hz; simp at hz; simp [sizeOf, typeInfo, hi, hz]
  simp [execOp, ha.eval hx, Instr.loadAt, Instr.sureAddr, loadVar, h1, h2, run_loadCells_list w q cs (hc w hS)]
theorem Rd.lookup {t : TypeId} {x k : Operand} {ok : Bool} {vx vk : Value} (hx : opd E x = some vx) (hk : opd E k = some vk) (hl : ∀ w, S w → (Instr.lookup t vx vk ok).run P w = .ok v w) :
    Rd P N D E ⟨d, .lookup t x k ok, T, p, af, g⟩ v S := fun a ha w hS => by
  simp [execOp, ha.eval hx, ha.eval hk, hl w hS]
theorem Rd.index {t : TypeId} {x k : Operand} {vx vk : Value} (hx : opd E x = some vx) (hk : opd E k = some vk) (hl : ∀ w, (Instr.index t vx vk).run P w = .ok v w) :
    Rd P N D E ⟨d, .index t x k, T, p, af, g⟩ v S := fun a ha w hS => by
  simp [execOp, ha.eval hx, ha.eval hk, hl w]
theorem Rd.slice {t : TypeId} {x : Operand} {lo hi mx : Option Operand} {vx : Value} {vlo vhi vmx : Option Value} (hx : opd E x = some vx) (h1 : optV E lo = some vlo) (h2 : optV E hi = some vhi) (h3 : optV E mx = some vmx)
    (hl : ∀ w, (Instr.sliceAt t vx vlo vhi vmx).run P w = .ok v w) : Rd P N D E ⟨d, .slice t x lo hi mx, T, p, af, g⟩ v S := fun a ha w hS => by
  simp [execOp, ha.eval hx, optV_map ha h1, optV_map ha h2, optV_map ha h3, hl w]
/-- A builtin that only reads. -/
theorem Rd.builtin {b : Builtin} {args : Array Operand} {ts : Array TypeId} {vs : List Value} (hx : opdL E args.toList = some vs)
    (hl : ∀ w, S w → (builtin b ts T (args.map fun | .const _ => true | _ => false) vs.toArray).run P w = .ok (.value v) w) : Rd P N D E ⟨d, .call ⟨.builtin b, args, ts⟩, T, p, af, g⟩ v S := fun a ha w hS => by
  have h1 : args.map a.eval = vs.toArray := opdL_map ha hx
  simp [execOp, resolve, invoke, h1]
  exact hl w hS
/-- The address of an array's element. -/
theorem Rd.iaA {t e : TypeId} {x k : Operand} {q : Addr} {n sz : Nat} {ik : IntKind} {i : Int} (hx : opd E x = some (.pointer (some q))) (hk : opd E k = some (.int ik i)) (ht : P.underlying t = some (.array n e))
    (hz : (P.info? e).map (·.size) = some sz) (h0 : 0 ≤ i) (h1 : i < n) : Rd P N D E ⟨d, .indexAddr t x k, T, p, af, g⟩ (.pointer (some (q.add (i.toNat * sz)))) S := fun a ha w _ => by
  have h2 : (sizeOf e).run P w = .ok sz w := by
    cases hi : P.info? e with
    | none => rw [hi] at hz; cases hz
    | some i => rw [hi] at hz; simp at hz; simp [sizeOf, typeInfo, hi, hz]
  simp [execOp, ha.eval hx, ha.eval hk, Instr.indexAt, asIntOf, run_underlying ht, Instr.sureAddr, h0, h1, h2]
/-- The address of a slice's element. -/
theorem Rd.iaS {t e : TypeId} {x k : Operand} {q : Addr} {n c sz : Nat} {ik : IntKind} {i : Int} (hx : opd E x = some (.slice (some q) n c)) (hk : opd E k = some (.int ik i)) (ht : P.underlying t = some (.slice e))
    (hz : (P.info? e).map (·.size) = some sz) (h0 : 0 ≤ i) (h1 : i < n) : Rd P N D E ⟨d, .indexAddr t x k, T, p, af, g⟩ (.pointer (some (q.add (i.toNat * sz)))) S := fun a ha w _ => by
  have h2 : (sizeOf e).run P w = .ok sz w := by
    cases hi : P.info? e with
    | none => rw [hi] at hz; cases hz
    | some i => rw [hi] at hz; simp at hz; simp [sizeOf, typeInfo, hi, hz]
  simp [execOp, ha.eval hx, ha.eval hk, Instr.indexAt, asIntOf, run_underlying ht, h0, h1, h2]

/-! ### Operations that change the world -/
theorem Vl.box {t : TypeId} {x : Operand} (hx : opd E x = some v) : Vl P N D E ⟨d, .box t x, T, p, af, g⟩ w (.pointer (some ⟨w.heap.size, 0, none⟩)) (w.alloc (.cells v.cells t)) := fun a ha => by
  simp [execOp, ha.eval hx, Instr.box, newVar, newRow]
theorem Vl.alloc {t : TypeId} {z : Value} (hz : (zeroValue t).run P w = .ok z w) : Vl P N D E ⟨d, .alloc t, T, p, af, g⟩ w (.pointer (some ⟨w.heap.size, 0, none⟩)) (w.alloc (.cells z.cells t)) := fun a ha => by
  simp [execOp, Instr.alloc, hz, newVar, newRow]
theorem Vl.makeMap {t : TypeId} : Vl P N D E ⟨d, .makeMap t none, T, p, af, g⟩ w (.map (some w.heap.size)) (w.alloc (.map #[] 0)) := fun a ha => by
  simp [execOp, Instr.makeMap]
theorem Vl.buildSlice {t : TypeId} {n : Nat} {ps : Array (Nat × Operand)} {vs : List (Nat × Value)} (hx : opdP E ps.toList = some vs) (hr : (Instr.buildSlice t n vs.toArray).run P w = .ok v w') :
    Vl P N D E ⟨d, .buildSlice t n ps, T, p, af, g⟩ w v w' := fun a ha => by
  simp [execOp, opdP_map ha hx, hr]
theorem Vl.builtin {b : Builtin} {args : Array Operand} {ts : Array TypeId} {vs : List Value} (hx : opdL E args.toList = some vs)
    (hl : (builtin b ts T (args.map fun | .const _ => true | _ => false) vs.toArray).run P w = .ok (.value v) w') : Vl P N D E ⟨d, .call ⟨.builtin b, args, ts⟩, T, p, af, g⟩ w v w' := fun a ha => by
  have h1 : args.map a.eval = vs.toArray := opdL_map ha hx
  simp [execOp, resolve, invoke, h1]
  exact hl
theorem Vl.range {t : TypeId} {x : Operand} {vx : Value} (hx : opd E x = some vx) (hr : (Instr.range t vx).run P w = .ok v w') : Vl P N D E ⟨d, .range t x, T, p, af, g⟩ w v w' := fun a ha => by
  simp [execOp, ha.eval hx, hr]
theorem Vl.next {x : Operand} {s : Bool} {vx : Value} (hx : opd E x = some vx) (hr : (Instr.next vx s T).run P w = .ok v w') : Vl P N D E ⟨d, .next x s, T, p, af, g⟩ w v w' := fun a ha => by
  simp [execOp, ha.eval hx, hr]
theorem Vl.entry {x : Operand} {vx : Value} (hx : opd E x = some vx) (hr : (Instr.entry vx).run P w = .ok v w') : Vl P N D E ⟨d, .entry x, T, p, af, g⟩ w v w' := fun a ha => by
  simp [execOp, ha.eval hx, hr]
theorem Vl.makeSlice {t : TypeId} {x y : Operand} {vx vy : Value} (hx : opd E x = some vx) (hy : opd E y = some vy) (hr : (Instr.makeSlice t vx vy).run P w = .ok v w') : Vl P N D E ⟨d, .makeSlice t x y, T, p, af, g⟩ w v w' := fun a ha => by
  simp [execOp, ha.eval hx, ha.eval hy, hr]
theorem Ef.mapUpdate {t : TypeId} {m k x : Operand} {vm vk vx : Value} (hm : opd E m = some vm) (hk : opd E k = some vk) (hx : opd E x = some vx) (hr : (Instr.mapUpdate t vm vk vx).run P w = .ok () w') :
    Ef P N D E ⟨d, .mapUpdate t m k x, T, p, af, g⟩ w w' := fun a ha => by
  simp [execOp, ha.eval hm, ha.eval hk, ha.eval hx, hr]
theorem Ef.insert {t : TypeId} {m k x : Operand} {vm vk vx : Value} (hm : opd E m = some vm) (hk : opd E k = some vk) (hx : opd E x = some vx) (hr : (Instr.mapUpdate t vm vk vx).run P w = .ok () w') :
    Ef P N D E ⟨d, .insert t m k x, T, p, af, g⟩ w w' := fun a ha => by
  simp [execOp, ha.eval hm, ha.eval hk, ha.eval hx, hr]
/-- A store of one cell. -/
theorem Ef.st {t : TypeId} {x y : Operand} {q : Addr} {old : Value} (hx : opd E x = some (.pointer (some q))) (hy : opd E y = some v) (hv : v.oneCell' = true) (hz : (P.info? t).map (·.size) = some 1)
    (hc : w.cell? q = some old) (hf : w.frozen? q = false) : Ef P N D E ⟨d, .store t x y, T, p, af, g⟩ w (w.setCell q v) := fun a ha => by
  have h2 : (sizeOf t).run P w = .ok 1 w := by
    cases hi : P.info? t with
    | none => rw [hi] at hz; cases hz
    | some i => rw [hi] at hz; simp at hz; simp [sizeOf, typeInfo, hi, hz]
  have hcs : v.cells = #[v] := by cases v <;> first | rfl | (cases hv)
  have h0 : q.add 0 = q := rfl
  simp [execOp, ha.eval hx, ha.eval hy, Instr.storeAt, Instr.sureAddr, storeVar, h2, hcs, storeCells, h0, run_store P w q v .plain hv, hc, hf]
/-- The cells of a value laid from an address on. -/
def setCells (w : World) (q : Addr) : Nat → List Value → World
  | _, [] => w
  | i, v :: vs => setCells (w.setCell (q.add i) v) q (i + 1) vs
theorem isSome_setCell {w : World} {q q' : Addr} {v : Value} (h : (w.cell? q').isSome = true) : ((w.setCell q v).cell? q').isSome = true := by
  by_cases e : q = q'
  · subst e
    obtain ⟨x, hx⟩ := Option.isSome_iff_exists.1 h
    rw [World.cell?_setCell_same _ _ _ hx]; rfl
  · rw [World.cell?_setCell_other _ _ _ _ e]; exact h
theorem run_storeCells' (q : Addr) : ∀ (vs : List Value) (i : Nat) (w : World), (∀ v ∈ vs, v.oneCell' = true) → (∀ j, j < vs.length → (w.cell? (q.add (i + j))).isSome = true) →
    (∀ j, j < vs.length → w.frozen? (q.add (i + j)) = false) → (storeCells q vs i).run P w = .ok () (setCells w q i vs)
  | [], i, w, _, _, _ => rfl
  | v :: vs, i, w, h1, hc, hf => by
    obtain ⟨old, ho⟩ := Option.isSome_iff_exists.1 (hc 0 (by simp))
    have hf0 := hf 0 (by simp)
    simp only [Nat.add_zero] at ho hf0
    simp only [storeCells, Sem.run_bind, run_store P w (q.add i) v .plain (h1 v (by simp)), ho, hf0, setCells]
    exact run_storeCells' q vs (i + 1) _ (fun x hx => h1 x (by simp [hx])) (fun j hj => isSome_setCell (by have := hc (j + 1) (by simp; omega); rwa [show i + (j + 1) = i + 1 + j from by omega] at this))
      (fun j hj => by rw [World.frozen?_setCell]; have := hf (j + 1) (by simp; omega); rwa [show i + (j + 1) = i + 1 + j from by omega] at this)
/-- A store of a struct or an array. -/
theorem Ef.stN {t : TypeId} {x y : Operand} {q : Addr} {cs : List Value} (hx : opd E x = some (.pointer (some q))) (hy : opd E y = some (.agg cs.toArray)) (hz : (P.info? t).map (·.size) = some cs.length)
    (h1 : ∀ v ∈ cs, v.oneCell' = true) (hc : ∀ j, j < cs.length → (w.cell? (q.add j)).isSome = true) (hf : ∀ j, j < cs.length → w.frozen? (q.add j) = false) :
    Ef P N D E ⟨d, .store t x y, T, p, af, g⟩ w (setCells w q 0 cs) := fun a ha => by
  have h2 : (sizeOf t).run P w = .ok cs.length w := by
    cases hi : P.info? t with
    | none => rw [hi] at hz; cases hz
    | some i => rw [hi] at hz; simp at hz; simp [sizeOf, typeInfo, hi, hz]
  simp [execOp, ha.eval hx, ha.eval hy, Instr.storeAt, Instr.sureAddr, storeVar, h2, Value.cells, run_storeCells' (P := P) q cs 0 w h1 (by simpa using hc) (by simpa using hf)]

/-! ### Calls -/
theorem run_call {f : Nat} {fn : Func} {args : Array Value} (hf : P.funcs[f]? = some fn) (hn : (fn.name == "runtime.NumGoroutine") = false) (hb : fn.body.isNone = false) : (callFunc f args).run P w = .ok (.enter f args) w := by
  simp only [callFunc, Sem.run_bind, run_program, Result.andThen_ok, hf, hn, hb, Bool.false_eq_true, if_false, Sem.run_pure]
theorem Cl.fn {f : Nat} {fn : Func} {args : Array Operand} {ts : Array TypeId} {vs : List Value} (hx : opdL E args.toList = some vs) (hf : P.funcs[f]? = some fn) (hn : (fn.name == "runtime.NumGoroutine") = false)
    (hb : fn.body.isNone = false) : Cl P N D E ⟨d, .call ⟨.value (.func f), args, ts⟩, T, p, af, g⟩ w f vs.toArray := fun a ha => by
  have h1 : args.map a.eval = vs.toArray := opdL_map ha hx
  simp [execOp, resolve, Act.eval, Deferred.ofValue, invoke, h1, run_call hf hn hb]
/-- A call of a function value that is known to be function f with what it has captured. -/
theorem Cl.fv {x : Operand} {f : Nat} {fn : Func} {cap : Array Value} {args : Array Operand} {ts : Array TypeId} {vs : List Value} (hv : opd E x = some (.func (.func f) #[] cap)) (hx : opdL E args.toList = some vs)
    (hf : P.funcs[f]? = some fn) (hn : (fn.name == "runtime.NumGoroutine") = false) (hb : fn.body.isNone = false) : Cl P N D E ⟨d, .call ⟨.value x, args, ts⟩, T, p, af, g⟩ w f (vs.toArray ++ cap) := fun a ha => by
  have h1 : args.map a.eval = vs.toArray := opdL_map ha hx
  simp [execOp, resolve, ha.eval hv, Deferred.ofValue, invoke, h1, run_call hf hn hb]

/-- What a function value does, called with these arguments. -/
def CallsV (P : Program) (fv : Value) (args : Array Value) (w : World) (R : Ending → World → Prop) : Prop :=
  ∃ f cap fn, fv = .func (.func f) #[] cap ∧ P.funcs[f]? = some fn ∧ (fn.name == "runtime.NumGoroutine") = false ∧ fn.body.isNone = false ∧ Calls P f (args ++ cap) w R
end
end Go.X
