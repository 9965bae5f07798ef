/- Texts of the claim, merged: XBase XOps XRun XHeap XIter XRow XEq XTypes XFshadow XShadow XShadow2 XLoc XRange XG3 XMapIter XG6 XCollect XSort XShCopy XAll XG7 XR03 XShadow3 XG9 XIs. -/
import Derived.WalkKit
import Derived.OrdersHeld
import Derived.ScopeJumps
import Derived.KernelRfl
import Derived.WalkSmall
import Derived.MapKept
import Derived.WideKeyRuns
import Derived.Laws.StructEq
import Derived.Maps.RangeRun
import Derived.Laws.AppendOwn
import Derived.Test.YtfcfkhbkkfpehaaGreatProg
import Derived.DeepKeys3
import Derived.Laws.BitsAllLaws
import Derived.RangeFuncSeq
import Derived.RangeFuncRecord
import Derived.RangeFuncLeaves
import Derived.TacticsIn
import Derived.Shelf.SortM.Plain
import Derived.Shelf.SortM.SortNone
import Derived.Sort.OwnSortedInts
import Derived.Laws.OwnMore

/- XBase -/
section
/- The engine's base, over any program: what is known of a frame's slots is a list ('Env'); rules for codes, regions, operations over it. -/
set_option linter.unusedVariables false
set_option linter.unusedSimpArgs false
namespace Go.X
open Go

abbrev Env := List (Nat × Value)

def get : Env → Nat → Option Value
  | [], _ => none
  | (t, v) :: E, u => bif Nat.beq u t then some v else get E u

def opd (E : Env) : Operand → Option Value
  | .tmp t => get E t
  | .const v => some v
  | .global g => some (.pointer (some ⟨g, 0, none⟩))
  | .func f => some (.func (.func f) #[] #[])

def Sub : Env → Env → Prop
  | [], _ => True
  | (t, v) :: E, F => get F t = some v ∧ Sub E F

theorem Sub.get : ∀ {E F : Env}, Sub E F → ∀ {t : Nat} {v : Value}, get E t = some v → get F t = some v
  | [], _, _, _, _, h => by cases h
  | (t, v) :: E, F, ⟨h1, h2⟩, u, x, h => by
    simp only [X.get] at h
    cases hb : Nat.beq u t with
    | true => rw [hb] at h; simp at h; rw [Nat.eq_of_beq_eq_true hb, h1, h]
    | false => rw [hb] at h; exact h2.get h

structure Sat (N : Nat) (D : List Deferred) (E : Env) (a : Act) : Prop where
  size : N ≤ a.tmps.size
  defers : a.defers = D
  get : ∀ t v, get E t = some v → a.tmps.getD t undef = v

theorem Sat.sub {N : Nat} {D : List Deferred} {E F : Env} {a : Act} (h : Sat N D F a) (s : Sub E F) : Sat N D E a :=
  ⟨h.size, h.defers, fun _ _ hg => h.get _ _ (s.get hg)⟩

theorem Sat.eval {N : Nat} {D : List Deferred} {E : Env} {a : Act} (h : Sat N D E a) {x : Operand} {v : Value} (hx : opd E x = some v) : a.eval x = v := by
  cases x with
  | tmp t => exact h.get t v hx
  | const c => simpa [opd, Act.eval] using hx
  | global g => simpa [opd, Act.eval] using hx
  | func f => simpa [opd, Act.eval] using hx

def putE : Option Nat → Value → Env → Env
  | some d, v, E => (d, v) :: E
  | none, _, E => E

def okd (N : Nat) : Option Nat → Bool
  | some d => Nat.blt d N
  | none => true

theorem Sat.put {N : Nat} {D : List Deferred} {E : Env} {a : Act} (h : Sat N D E a) {d : Option Nat} {v : Value} (hd : okd N d = true) : Sat N D (putE d v E) (a.put d v) := by
  cases d with
  | none => exact h
  | some d =>
    have hlt : d < a.tmps.size := Nat.lt_of_lt_of_le (by simpa [okd] using hd) h.size
    refine ⟨by simpa [Act.put] using h.size, h.defers, fun t x hg => ?_⟩
    simp only [putE, X.get] at hg
    cases hb : Nat.beq t d with
    | true =>
      rw [hb] at hg; simp at hg; subst hg
      rw [Nat.eq_of_beq_eq_true hb]
      simp [Act.put, hlt]
    | false =>
      rw [hb] at hg
      have hne : d ≠ t := fun e => by subst e; simp at hb
      have := h.get t x hg
      simp only [Act.put]
      rw [← this]
      simp [Array.getElem?_setIfInBounds_ne hne]

def envOf : Nat → List Value → Env
  | _, [] => []
  | i, v :: vs => (i, v) :: envOf (i + 1) vs

theorem envOf_get : ∀ (vs : List Value) (i t : Nat) (v : Value), get (envOf i vs) t = some v → i ≤ t ∧ vs[t - i]? = some v
  | [], _, _, _, h => by cases h
  | x :: vs, i, t, v, h => by
    simp only [envOf, X.get] at h
    cases hb : Nat.beq t i with
    | true =>
      rw [hb] at h; simp at h; subst h
      have := Nat.eq_of_beq_eq_true hb; subst this
      exact ⟨Nat.le_refl _, by simp⟩
    | false =>
      rw [hb] at h
      obtain ⟨h1, h2⟩ := envOf_get vs (i + 1) t v h
      refine ⟨by omega, ?_⟩
      have : t - i = (t - (i + 1)) + 1 := by omega
      rw [this]; simpa using h2

/-! ### What is wanted of an operation -/
def Wants (N : Nat) (ops : Array Oper) (E : Env) (o : Oper) : Prop := ∀ D a, Sat N D E a → Region.wanted o (yielded ops a.tmps) = true
def Skips (N : Nat) (ops : Array Oper) (E : Env) (o : Oper) : Prop := ∀ D a, Sat N D E a → Region.wanted o (yielded ops a.tmps) = false
theorem Wants.free {N : Nat} {ops : Array Oper} {E : Env} {o : Oper} (h : o.guard = none) : Wants N ops E o := fun _ _ _ => by simp [Region.wanted, h]
theorem yielded_at {N : Nat} {D : List Deferred} {ops : Array Oper} {E : Env} {a : Act} {j t : Nat} {oj : Oper} {v : Value} (hs : Sat N D E a) (hj : ops[j]? = some oj) (hd : oj.dst = some t)
    (hN : Nat.blt t N = true) (hE : get E t = some v) : yielded ops a.tmps j = match v with | .bool b => some b | _ => none := by
  have hlt : t < a.tmps.size := Nat.lt_of_lt_of_le (by simpa using hN) hs.size
  have h1 := hs.get t v hE
  have h2 : a.tmps[t]? = some v := by rw [Array.getElem?_eq_getElem hlt]; congr 1; simpa [hlt] using h1
  simp only [yielded, hj, Option.bind_some, hd, h2]
  cases v <;> rfl
theorem Wants.on {N : Nat} {ops : Array Oper} {E : Env} {o oj : Oper} {j t : Nat} {b c : Bool} (h : o.guard = some (j, b)) (hj : ops[j]? = some oj) (hd : oj.dst = some t) (hN : Nat.blt t N = true)
    (hE : get E t = some (.bool c)) (hc : c = b) : Wants N ops E o := fun _ _ hs => by
  simp [Region.wanted, h, yielded_at hs hj hd hN hE, hc]
theorem Skips.on {N : Nat} {ops : Array Oper} {E : Env} {o oj : Oper} {j t : Nat} {b c : Bool} (h : o.guard = some (j, b)) (hj : ops[j]? = some oj) (hd : oj.dst = some t) (hN : Nat.blt t N = true)
    (hE : get E t = some (.bool c)) (hc : c = !b) : Skips N ops E o := fun _ _ hs => by
  simp [Region.wanted, h, yielded_at hs hj hd hN hE, hc]
theorem Skips.un {N : Nat} {ops : Array Oper} {E : Env} {o oj : Oper} {j t : Nat} {b : Bool} (h : o.guard = some (j, b)) (hj : ops[j]? = some oj) (hd : oj.dst = some t) (hN : Nat.blt t N = true)
    (hE : get E t = some undef) : Skips N ops E o := fun _ _ hs => by
  simp [Region.wanted, h, yielded_at hs hj hd hN hE, undef]

/-! ### Codes -/
section
variable {P : Program} {N : Nat} {D : List Deferred} {Q : Exit → Act → World → Prop} {E : Env} {w : World}

def CW (P : Program) (N : Nat) (D : List Deferred) (c : Code) (Q : Exit → Act → World → Prop) (E : Env) (w : World) : Prop := ∀ a, Sat N D E a → c.wp P Q a w
def NW (N : Nat) (D : List Deferred) (Q : Exit → Act → World → Prop) (E : Env) (w : World) : Prop := ∀ a, Sat N D E a → Q .normal a w
def XW (N : Nat) (D : List Deferred) (id : Nat) (Q : Exit → Act → World → Prop) (E : Env) (w : World) : Prop := ∀ a, Sat N D E a → Q (.exit id) a w
def GW (N : Nat) (D : List Deferred) (l : Nat) (Q : Exit → Act → World → Prop) (E : Env) (w : World) : Prop := ∀ a, Sat N D E a → Q (.goto l) a w

theorem CW.sub {c : Code} {F : Env} (s : Sub E F) (h : CW P N D c Q E w) : CW P N D c Q F w := fun a ha => h a (ha.sub s)
theorem CW.seq {x y : Code} (h : CW P N D x (Exit.then (y.wp P Q) Q) E w) : CW P N D (.seq x y) Q E w := fun a ha => wp_seq (h a ha)
theorem NW.then {y : Code} (h : CW P N D y Q E w) : NW N D (Exit.then (y.wp P Q) Q) E w := fun a ha => h a ha
theorem CW.skip (h : NW N D Q E w) : CW P N D .skip Q E w := fun a ha => wp_skip (h a ha)
theorem CW.label {l : Nat} (h : NW N D Q E w) : CW P N D (.label l) Q E w := fun a ha => wp_label (h a ha)
theorem CW.cond {c : Operand} {x y : Code} {b : Bool} (hc : opd E c = some (.bool b)) (h1 : b = true → CW P N D x Q E w) (h2 : b = false → CW P N D y Q E w) : CW P N D (.cond c x y) Q E w :=
  fun a ha => wp_cond_split (ha.eval hc) (fun hb => h1 hb a ha) (fun hb => h2 hb a ha)
theorem CW.block {id : Nat} {c : Code} (h : CW P N D c (Exit.inBlock id Q) E w) : CW P N D (.block id c) Q E w := fun a ha => wp_block (h a ha)
theorem NW.block {id : Nat} (h : NW N D Q E w) : NW N D (Exit.inBlock id Q) E w := fun a ha => h a ha
theorem CW.exit {id : Nat} (h : XW N D id Q E w) : CW P N D (.exit id) Q E w := fun a ha => wp_exit (h a ha)
theorem XW.then {id : Nat} {K : Act → World → Prop} (h : XW N D id Q E w) : XW N D id (Exit.then K Q) E w := fun a ha => h a ha
theorem XW.hit {id : Nat} (h : NW N D Q E w) : XW N D id (Exit.inBlock id Q) E w := fun a ha => by
  show (if id = id then Q .normal a w else Q (.exit id) a w); rw [if_pos rfl]; exact h a ha
def RW (N : Nat) (D : List Deferred) (Q : Exit → Act → World → Prop) (E : Env) (w : World) : Prop := ∀ a, Sat N D E a → Q .ret a w
theorem CW.ret (h : RW N D Q E w) : CW P N D .ret Q E w := fun a ha => wp_ret (h a ha)
theorem RW.then {K : Act → World → Prop} (h : RW N D Q E w) : RW N D (Exit.then K Q) E w := fun a ha => h a ha
theorem RW.block {id : Nat} (h : RW N D Q E w) : RW N D (Exit.inBlock id Q) E w := fun a ha => h a ha
theorem CW.goto {l : Nat} (h : GW N D l Q E w) : CW P N D (.goto l) Q E w := fun a ha => wp_goto (h a ha)
theorem GW.then {l : Nat} {K : Act → World → Prop} (h : GW N D l Q E w) : GW N D l (Exit.then K Q) E w := fun a ha => h a ha
theorem GW.block {l id : Nat} (h : GW N D l Q E w) : GW N D l (Exit.inBlock id Q) E w := fun a ha => h a ha

/-- Ways that meet: a sequence whose first part comes to one of many environments. -/
theorem CW.cut {S : Type} {x y : Code} (Ek : S → Env) (I : S → World → Prop) (hk : ∀ s w, I s w → CW P N D y Q (Ek s) w)
    (h : CW P N D x (Exit.then (fun a w => ∃ s, Sat N D (Ek s) a ∧ I s w) Q) E w) : CW P N D (.seq x y) Q E w := fun a ha =>
  wp_seq (wp_mono (h a ha) fun e a' w' hq => by
    cases e with
    | normal => obtain ⟨s, hs, hI⟩ := hq; exact hk s w' hI a' hs
    | _ => exact hq)
theorem NW.cut {S : Type} {Ek : S → Env} {I : S → World → Prop} {Q' : Exit → Act → World → Prop} (s : S) (hs : Sub (Ek s) E) (hI : I s w) : NW N D (Exit.then (fun a w => ∃ s, Sat N D (Ek s) a ∧ I s w) Q') E w :=
  fun a ha => ⟨s, ha.sub hs, hI⟩

/-- Ways that meet behind the last code of a block or a function: what is asked there, by one environment. -/
theorem CW.meet {S : Type} {x : Code} (Ek : S → Env) (I : S → World → Prop) (hk : ∀ s w, I s w → NW N D Q (Ek s) w)
    (h : CW P N D x (Exit.then (fun a w => ∃ s, Sat N D (Ek s) a ∧ I s w) Q) E w) : CW P N D x Q E w := fun a ha =>
  wp_mono (h a ha) fun e a' w' hq => by
    cases e with
    | normal => obtain ⟨s, hs, hI⟩ := hq; exact hk s w' hI a' hs
    | _ => exact hq

/-- A loop. -/
theorem CW.loop {S : Type} {c : Code} (El : S → Env) (I : S → World → Prop) (μ : S → World → Nat) (s₀ : S) (hs : Sub (El s₀) E) (hI : I s₀ w)
    (round : ∀ s w, I s w → CW P N D c (Exit.then (fun a' w' => ∃ s', Sat N D (El s') a' ∧ (I s' w' ∧ μ s' w' < μ s w)) Q) (El s) w) : CW P N D (.loop c) Q E w := by
  intro a ha b k cs
  have key : ∀ n s a w, μ s w = n → Sat N D (El s) a → I s w →
      ∃ e a' w', Q e a' w' ∧ Arrives P (lone (b.at a (.code c :: .inLoop c :: k)) cs w) b k cs e a' w' := by
    intro n
    induction n using Nat.strongRecOn with
    | _ n ih =>
      intro s a w hn ha hI
      obtain ⟨e, a₁, w₁, hq, harr⟩ := round s w hI a ha b (.inLoop c :: k) cs
      cases e with
      | normal =>
        obtain ⟨s', hs', hI', hlt⟩ := hq
        obtain ⟨e₂, a₂, w₂, hq₂, harr₂⟩ := ih (μ s' w₁) (hn ▸ hlt) s' a₁ w₁ rfl hs' hI'
        exact ⟨e₂, a₂, w₂, hq₂, .of_steps (Steps.trans harr (.one step_inLoop)) harr₂⟩
      | exit id => exact ⟨_, a₁, w₁, hq, .pass (x := .inLoop c) rfl (fun _ _ => .inl (by simp)) harr⟩
      | goto l => exact ⟨_, a₁, w₁, hq, .pass (x := .inLoop c) rfl (fun _ _ => .inl (by simp)) harr⟩
      | ret => exact ⟨_, a₁, w₁, hq, .pass (x := .inLoop c) rfl (fun _ _ => .inl (by simp)) harr⟩
      | panic ch => exact ⟨_, a₁, w₁, hq, .pass (x := .inLoop c) rfl (fun _ _ => .inl (by simp)) harr⟩
      | outgrown => exact ⟨_, a₁, w₁, hq, .pass (x := .inLoop c) rfl (fun _ _ => .inl (by simp)) harr⟩
  obtain ⟨e, a', w', hq, harr⟩ := key _ s₀ a w rfl (ha.sub hs) hI
  exact ⟨e, a', w', hq, .of_steps (.one step_loop) harr⟩
theorem NW.loop {S : Type} {Ek : S → Env} {I : S → World → Prop} {μ : S → World → Nat} {n : Nat} {Q' : Exit → Act → World → Prop} (s : S) (hs : Sub (Ek s) E) (hI : I s w ∧ μ s w < n) :
    NW N D (Exit.then (fun a w => ∃ s, Sat N D (Ek s) a ∧ (I s w ∧ μ s w < n)) Q') E w :=
  fun a ha => ⟨s, ha.sub hs, hI⟩

/-- A scope with one label that is jumped to from ahead of it alone. -/
theorem CW.scope {S : Type} {c rest : Code} (l : Nat) (Ek : S → Env) (I : S → World → Prop) (hf : findLabel c l = some rest)
    (hk : ∀ s w, I s w → CW P N D rest (Exit.jump l (fun _ _ => False) Q) (Ek s) w)
    (h : CW P N D c (Exit.jump l (fun a w => ∃ s, Sat N D (Ek s) a ∧ I s w) Q) E w) : CW P N D (.scope c) Q E w := fun a ha =>
  wp_scope_jumps l (fun a w => ∃ s, Sat N D (Ek s) a ∧ I s w) (fun _ _ => 0) hf (h a ha) fun a w ⟨s, hs, hI⟩ =>
    wp_mono (hk s w hI a hs) fun e a' w' hq => by
      cases e with
      | goto l' => exact hq.2.elim
      | _ => exact hq
theorem NW.jump {l : Nat} {J : Act → World → Prop} (h : NW N D Q E w) : NW N D (Exit.jump l J Q) E w := fun a ha => h a ha
theorem XW.jump {l id : Nat} {J : Act → World → Prop} (h : XW N D id Q E w) : XW N D id (Exit.jump l J Q) E w := fun a ha => h a ha
theorem RW.jump {l : Nat} {J : Act → World → Prop} (h : RW N D Q E w) : RW N D (Exit.jump l J Q) E w := fun a ha => h a ha
theorem GW.hit {S : Type} {l : Nat} {Ek : S → Env} {I : S → World → Prop} (s : S) (hs : Sub (Ek s) E) (hI : I s w) : GW N D l (Exit.jump l (fun a w => ∃ s, Sat N D (Ek s) a ∧ I s w) Q) E w :=
  fun a ha => ⟨rfl, s, ha.sub hs, hI⟩
end

/-! ### A region in the text's order -/
section
variable {P : Program} {N : Nat} {D : List Deferred} {ops : Array Oper} {Q : Exit → Act → World → Prop} {E : Env} {w w' : World} {L : Nat → Env → World → Prop} {i : Nat} {o : Oper} {v : Value}

def LW (P : Program) (N : Nat) (D : List Deferred) (ops : Array Oper) (Q : Exit → Act → World → Prop) (i : Nat) (E : Env) (w : World) : Prop :=
  ∀ a, Sat N D E a → wpList P ops Q (ops.toList.drop i) a w

theorem CW.region {id : Nat} (h : ∀ L, L = LW P N D ops Q → L 0 E w) : CW P N D (.region id ops false) Q E w :=
  fun a ha => wp_region_list (by have := h _ rfl a ha; simpa using this)

theorem drop_at (ho : ops[i]? = some o) : ops.toList.drop i = o :: ops.toList.drop (i + 1) := by
  obtain ⟨hi, rfl⟩ := Array.getElem?_eq_some_iff.1 ho
  rw [List.drop_eq_getElem_cons (by simpa using hi)]
  simp

theorem LW.step (hL : L = LW P N D ops Q) (ho : ops[i]? = some o) (hw : Wants N ops E o)
    (h : ∀ a, Sat N D E a → o.wp P a w (wpList P ops Q (ops.toList.drop (i + 1))) Q) : L i E w := by
  subst hL
  intro a ha
  rw [drop_at ho]
  unfold wpList
  rw [if_pos (hw _ _ ha)]
  exact .inl (h a ha)

theorem LW.val (hL : L = LW P N D ops Q) (ho : ops[i]? = some o) (hw : Wants N ops E o) (hd : okd N o.dst = true)
    (hv : ∀ a, Sat N D E a → (execOp a.eval o).run P w = .ok (.value v) w') (k : L (i + 1) (putE o.dst v E) w') : L i E w :=
  LW.step hL ho hw fun a ha => by
    unfold Oper.wp; rw [hv a ha, Oper.upon_value]
    rw [hL] at k; exact k _ (ha.put hd)
theorem LW.eff (hL : L = LW P N D ops Q) (ho : ops[i]? = some o) (hw : Wants N ops E o) (hd : okd N o.dst = true)
    (hv : ∀ a, Sat N D E a → (execOp a.eval o).run P w = .ok .skip w') (k : L (i + 1) (putE o.dst undef E) w') : L i E w :=
  LW.step hL ho hw fun a ha => by
    unfold Oper.wp; rw [hv a ha, Oper.upon_skip]
    rw [hL] at k; exact k _ (ha.put hd)
theorem LW.call {f : Nat} {args : Array Value} {R : Ending → World → Prop} (hL : L = LW P N D ops Q) (ho : ops[i]? = some o) (hw : Wants N ops E o) (hd : okd N o.dst = true)
    (hv : ∀ a, Sat N D E a → (execOp a.eval o).run P w = .ok (.enter f args) w') (hc : Calls P f args w' R)
    (k : ∀ e w'', R e w'' → ∃ v, e = .returned v ∧ L (i + 1) (putE o.dst v E) w'') : L i E w :=
  LW.step hL ho hw fun a ha => by
    unfold Oper.wp; rw [hv a ha, Oper.upon_enter]
    refine hc.mono fun e w'' hR => ?_
    obtain ⟨v, rfl, hk⟩ := k e w'' hR
    rw [hL] at hk; exact hk _ (ha.put hd)
theorem LW.skip (hL : L = LW P N D ops Q) (ho : ops[i]? = some o) (hs : Skips N ops E o) (hd : okd N o.dst = true) (k : L (i + 1) (putE o.dst undef E) w) : L i E w := by
  subst hL
  intro a ha
  rw [drop_at ho]
  unfold wpList
  rw [if_neg (by rw [hs _ _ ha]; simp)]
  exact k _ (ha.put hd)
theorem LW.nil (hL : L = LW P N D ops Q) (hi : ops[i]? = none) (k : NW N D Q E w) : L i E w := by
  subst hL
  intro a ha
  have : ops.toList.drop i = [] := List.drop_eq_nil_of_le (by simpa using hi)
  rw [this]; exact k a ha
theorem LW.sub (hL : L = LW P N D ops Q) {F : Env} (s : Sub E F) (k : L i E w) : L i F w := by
  subst hL; exact fun a ha => k a (ha.sub s)
end

/-! ### A region that draws its order -/
section
variable {P : Program} {ops : Array Oper} {Q : Exit → Act → World → Prop} {S : World → Prop} {z : Nat}

/-- Whatever comes up next; behind each operation that comes up ahead of z S holds. -/
def AH (P : Program) (ops : Array Oper) (Q : Exit → Act → World → Prop) (S : World → Prop) (z : Nat) : Nat → Array Bool → Act → World → Prop
  | 0, l, a, w => Region.ready .any ops l = [] ∧ Q .normal a w
  | n + 1, l, a, w => (Region.ready .any ops l = [] → Q .normal a w) ∧
    ∀ i ∈ Region.ready .any ops l, wpOp P ops Q i (fun a' w' => ((l.setIfInBounds i true).getD z false = false → S w') ∧ AH P ops Q S z n (l.setIfInBounds i true) a' w') a w

theorem AH.any : ∀ (n : Nat) (l : Array Bool) (a : Act) (w : World), AH P ops Q S z n l a w → wpAny P .any ops Q n l a w
  | 0, _, _, _, h => h
  | n + 1, _, _, _, h => ⟨h.1, fun i hi => wpOp_mono (fun a' w' h' => AH.any n _ a' w' h'.2) (h.2 i hi)⟩

/-- What has come up has come up behind what it waits for. -/
structure Shut (ops : Array Oper) (l : Array Bool) : Prop where
  size : l.size = ops.size
  up : ∀ j oj, ops[j]? = some oj → l.getD j false = true → ∀ e ∈ oj.after, Region.binds .any e = true → l.getD e.on false = true
theorem Shut.none : Shut ops (Array.replicate ops.size false) := ⟨by simp, fun j oj hj h => by
  have hlt : j < ops.size := (Array.getElem?_eq_some_iff.1 hj).1
  simp [hlt] at h⟩
theorem getD_both {l : Array Bool} {i : Nat} (h : l.getD i true = false) : l.getD i false = false := by
  rcases Nat.lt_or_ge i l.size with h' | h' <;> simp_all
theorem Shut.set {l : Array Bool} {i : Nat} (h : Shut ops l) (hi : i ∈ Region.ready .any ops l) : Shut ops (l.setIfInBounds i true) := by
  refine ⟨by simpa using h.size, fun j oj hj hl e he hb => getD_set_true ?_⟩
  by_cases hji : i = j
  · subst hji
    obtain ⟨_, o, ho, hall⟩ := mem_ready.1 hi
    rw [hj] at ho; cases ho
    exact hall e he hb
  · rw [getD_set_ne false hji] at hl
    exact h.up j oj hj hl e he hb
/-- Does z wait for i, straight or through others? -/
def waits (ops : Array Oper) : Nat → Nat → Nat → Bool
  | 0, _, _ => false
  | f + 1, z, i => match ops[z]? with
    | none => false
    | some o => o.after.toList.any (fun e => Region.binds .any e && e.on == i) || o.after.toList.any (fun e => Region.binds .any e && waits ops f e.on i)
theorem Shut.waits {l : Array Bool} (h : Shut ops l) {i : Nat} : ∀ (f z : Nat), X.waits ops f z i = true → l.getD z false = true → l.getD i false = true := by
  intro f
  induction f with
  | zero => intro z hw; cases hw
  | succ f ih =>
    intro z hw hz
    simp only [X.waits] at hw
    cases ho : ops[z]? with
    | none => rw [ho] at hw; cases hw
    | some o =>
      rw [ho] at hw
      simp only [Bool.or_eq_true, List.any_eq_true, Bool.and_eq_true] at hw
      rcases hw with ⟨e, he, hb, hi⟩ | ⟨e, he, hb, hi⟩
      · have := h.up z o ho hz e (by simpa using he) hb
        rwa [show e.on = i from by simpa using hi] at this
      · exact ih _ hi (h.up z o ho hz e (by simpa using he) hb)

theorem AH.first {S₀ : World → Prop} {i : Nat} {oi : Oper} {v : Value} (hi : ops[i]? = some oi) (hsel : ∀ (j : Nat) (o : Oper) cs b, ops[j]? = some o → o.op ≠ .select cs b)
    (hQ : ∀ c a w, Q (.panic c) (a.put oi.dst v) w → Q (.panic c) a w) (hz : i ≠ z)
    (hS₀ : ∀ l w, Shut ops l → l.getD i true = false → (l.getD z false = false → S w) → S₀ w) :
    ∀ (n : Nat) (l : Array Bool) (a : Act) (w : World),
      (∀ j oj, ops[j]? = some oj → j ≠ i → l.getD j true = false → (∀ e ∈ oj.after, Region.binds .any e = true → e.on ≠ i) → oi.apart ops oj = true) →
      Shut ops l → i ∈ Region.ready .any ops l → YieldsIf P ops S₀ oi v a → (l.getD z false = false → S w) → AH P ops Q S z n (l.setIfInBounds i true) (a.put oi.dst v) w → AH P ops Q S z (n + 1) l a w := by
  intro n
  induction n with
  | zero =>
    intro l a w _ hsh hr hy hS H
    have hpend : l.getD i true = false := (mem_ready.1 hr).1
    refine ⟨fun h => (by rw [h] at hr; cases hr), fun j hj => ?_⟩
    by_cases hji : j = i
    · subst hji; exact hy.wpOp hi (hS₀ l w hsh hpend hS) ⟨fun h => hS (by rwa [getD_set_ne false hz] at h), H⟩
    · have hm := ready_mono hj hji
      rw [H.1] at hm; cases hm
  | succ n ih =>
    intro l a w hfree hsh hr hy hS H
    have hpend : l.getD i true = false := (mem_ready.1 hr).1
    refine ⟨fun h => (by rw [h] at hr; cases hr), fun j hj => ?_⟩
    by_cases hji : j = i
    · subst hji; exact hy.wpOp hi (hS₀ l w hsh hpend hS) ⟨fun h => hS (by rwa [getD_set_ne false hz] at h), H⟩
    · have h1 := H.2 j (ready_mono hj hji)
      obtain ⟨hjun, oj, hoj, hall⟩ := mem_ready.1 hj
      have hnot : ∀ e ∈ oj.after, Region.binds .any e = true → e.on ≠ i := fun e he hb heq => by
        have h2 := hall e he hb
        rw [heq, getD_both hpend] at h2; cases h2
      have h2 := wpOp_putIf hoj (hfree j oj hoj hji hjun hnot) (fun cs b => hsel i oi cs b hi) (fun cs b => hsel j oj cs b hoj) hQ hy h1
      refine wpOp_mono (fun a' w' h3 => ?_) h2
      obtain ⟨hy', hS', hA'⟩ := h3
      have hS'' : (l.setIfInBounds j true).getD z false = false → S w' := fun h => hS' (by rw [Array.setIfInBounds_comm _ _ (Ne.symm hji), getD_set_ne false hz]; exact h)
      refine ⟨hS'', ih (l.setIfInBounds j true) a' w' (fun k ok hk hki hun hno => hfree k ok hk hki ?_ hno) (hsh.set hj) (ready_mono hr (Ne.symm hji)) hy' hS'' ?_⟩
      · by_cases hjk : j = k
        · subst hjk; exact hjun
        · rw [getD_set_ne true hjk] at hun; exact hun
      · rw [Array.setIfInBounds_comm _ _ hji]; exact hA'

/-- What is asked of number i, so that it may be taken first, as a Bool. -/
def chk (ops : Array Oper) (z : Nat) (l : Array Bool) (i : Nat) : Bool :=
  Region.noSelect ops && (Region.free .any ops l i && ((Region.ready .any ops l).contains i && !Nat.beq i z))
/-- .. and, where it reads memory: z waits for it. -/
def chkR (ops : Array Oper) (z : Nat) (i : Nat) : Bool := Nat.ble ops.size z || waits ops 12 z i
theorem chkR_spec {i : Nat} (h : chkR ops z i = true) : ∀ l w, Shut ops l → l.getD i true = false → (l.getD z false = false → S w) → S w := fun l w hsh hi hS => by
  refine hS ?_
  cases hz : l.getD z false with
  | false => rfl
  | true =>
    simp only [chkR, Bool.or_eq_true] at h
    rcases h with h | h
    · have h1 : ops.size ≤ z := by simpa using h
      rw [← hsh.size] at h1
      simp [h1] at hz
    · have := hsh.waits _ _ h hz
      rw [getD_both hi] at this; cases this

/-- No way out but the region's end. -/
def NP (Q : Exit → Act → World → Prop) : Exit → Act → World → Prop
  | .normal, a, w => Q .normal a w
  | _, _, _ => False

variable {N : Nat} {D : List Deferred} {E : Env} {w w' : World} {H : Nat → Array Bool → Env → World → Prop} {n : Nat} {l : Array Bool} {i : Nat} {o : Oper} {v : Value}

def HW (P : Program) (N : Nat) (D : List Deferred) (ops : Array Oper) (Q : Exit → Act → World → Prop) (S : World → Prop) (z : Nat) (n : Nat) (l : Array Bool) (E : Env) (w : World) : Prop :=
  ∀ a, Sat N D E a → Shut ops l → AH P ops (NP Q) S z n l a w

theorem CW.drawn {id : Nat} (S : World → Prop) (z : Nat) (hm : P.follows .mixedOrders = true) (h : ∀ H, H = HW P N D ops Q S z → H ops.size (Array.replicate ops.size false) E w.drew) :
    CW P N D (.region id ops true) Q E w := fun a ha =>
  wp_mono (wp_region_any hm (AH.any _ _ _ _ (h _ rfl a ha Shut.none))) fun e a w hq => by
    cases e with
    | normal => exact hq
    | _ => exact hq.elim

theorem HW.first {S₀ : World → Prop} (hH : H = HW P N D ops Q S z) (ho : ops[i]? = some o) (hc : chk ops z l i = true) (hd : okd N o.dst = true) (hS : l.getD z false = false → S w)
    (hS₀ : ∀ l w, Shut ops l → l.getD i true = false → (l.getD z false = false → S w) → S₀ w)
    (hy : ∀ a, Sat N D E a → YieldsIf P ops S₀ o v a) (k : H n (l.setIfInBounds i true) (putE o.dst v E) w) : H (n + 1) l E w := by
  subst hH
  intro a ha hsh
  simp only [chk, Bool.and_eq_true] at hc
  have hr : i ∈ Region.ready .any ops l := by simpa using hc.2.2.1
  have hz : i ≠ z := fun e => by have := hc.2.2.2; subst e; simp at this
  exact AH.first ho (Region.noSelect_spec hc.1) (fun _ _ _ h => h) hz hS₀ n l a w (Region.free_spec ho hc.2.1) hsh hr (hy a ha) hS (k _ (ha.put hd) (hsh.set hr))
/-- What reads memory is taken first. -/
theorem HW.take (hH : H = HW P N D ops Q S z) (ho : ops[i]? = some o) (hc : chk ops z l i = true) (hcr : chkR ops z i = true) (hw : Wants N ops E o) (hd : okd N o.dst = true) (hS : l.getD z false = false → S w)
    (hv : ∀ a, Sat N D E a → ∀ w, S w → (execOp a.eval o).run P w = .ok (.value v) w) (k : H n (l.setIfInBounds i true) (putE o.dst v E) w) : H (n + 1) l E w :=
  HW.first hH ho hc hd hS (chkR_spec hcr) (fun a ha => .inl ⟨hw _ _ ha, hv a ha⟩) k
/-- What looks at no memory is taken first. -/
theorem HW.pure (hH : H = HW P N D ops Q S z) (ho : ops[i]? = some o) (hc : chk ops z l i = true) (hw : Wants N ops E o) (hd : okd N o.dst = true) (hS : l.getD z false = false → S w)
    (hv : ∀ a, Sat N D E a → ∀ w, True → (execOp a.eval o).run P w = .ok (.value v) w) (k : H n (l.setIfInBounds i true) (putE o.dst v E) w) : H (n + 1) l E w :=
  HW.first (S₀ := fun _ => True) hH ho hc hd hS (fun _ _ _ _ _ => trivial) (fun a ha => .inl ⟨hw _ _ ha, hv a ha⟩) k
theorem HW.skip (hH : H = HW P N D ops Q S z) (ho : ops[i]? = some o) (hc : chk ops z l i = true) (hs : Skips N ops E o) (hd : okd N o.dst = true) (hS : l.getD z false = false → S w)
    (k : H n (l.setIfInBounds i true) (putE o.dst undef E) w) : H (n + 1) l E w :=
  HW.first (S₀ := fun _ => True) hH ho hc hd hS (fun _ _ _ _ _ => trivial) (fun a ha => .inr ⟨hs _ _ ha, rfl⟩) k
theorem HW.one (hH : H = HW P N D ops Q S z) (hr : Region.ready .any ops l = [i]) (ho : ops[i]? = some o) (hw : Wants N ops E o)
    (h : ∀ a, Sat N D E a → Shut ops l → o.wp P a w (fun a' w' => ((l.setIfInBounds i true).getD z false = false → S w') ∧ AH P ops (NP Q) S z n (l.setIfInBounds i true) a' w') (NP Q)) : H (n + 1) l E w := by
  subst hH
  intro a ha hsh
  refine ⟨fun h0 => (by rw [hr] at h0; cases h0), fun j hj => ?_⟩
  rw [hr] at hj
  have hji : j = i := by simpa using hj
  subst hji
  unfold wpOp
  simp only [ho, hw _ _ ha, if_true]
  exact .inl (h a ha hsh)
theorem HW.val (hH : H = HW P N D ops Q S z) (hr : Region.ready .any ops l = [i]) (ho : ops[i]? = some o) (hw : Wants N ops E o) (hd : okd N o.dst = true)
    (hv : ∀ a, Sat N D E a → (execOp a.eval o).run P w = .ok (.value v) w') (hS : (l.setIfInBounds i true).getD z false = false → S w') (k : H n (l.setIfInBounds i true) (putE o.dst v E) w') : H (n + 1) l E w :=
  HW.one hH hr ho hw fun a ha hsh => by
    unfold Oper.wp; rw [hv a ha, Oper.upon_value]
    rw [hH] at k; exact ⟨hS, k _ (ha.put hd) (hsh.set (by rw [hr]; simp))⟩
theorem HW.eff (hH : H = HW P N D ops Q S z) (hr : Region.ready .any ops l = [i]) (ho : ops[i]? = some o) (hw : Wants N ops E o) (hd : okd N o.dst = true)
    (hv : ∀ a, Sat N D E a → (execOp a.eval o).run P w = .ok .skip w') (hS : (l.setIfInBounds i true).getD z false = false → S w') (k : H n (l.setIfInBounds i true) (putE o.dst undef E) w') : H (n + 1) l E w :=
  HW.one hH hr ho hw fun a ha hsh => by
    unfold Oper.wp; rw [hv a ha, Oper.upon_skip]
    rw [hH] at k; exact ⟨hS, k _ (ha.put hd) (hsh.set (by rw [hr]; simp))⟩
theorem HW.call {f : Nat} {args : Array Value} {R : Ending → World → Prop} (hH : H = HW P N D ops Q S z) (hr : Region.ready .any ops l = [i]) (ho : ops[i]? = some o) (hw : Wants N ops E o) (hd : okd N o.dst = true)
    (hv : ∀ a, Sat N D E a → (execOp a.eval o).run P w = .ok (.enter f args) w') (hc : Calls P f args w' R)
    (k : ∀ e w'', R e w'' → ∃ v, e = .returned v ∧ ((l.setIfInBounds i true).getD z false = false → S w'') ∧ H n (l.setIfInBounds i true) (putE o.dst v E) w'') : H (n + 1) l E w :=
  HW.one hH hr ho hw fun a ha hsh => by
    unfold Oper.wp; rw [hv a ha, Oper.upon_enter]
    refine hc.mono fun e w'' hR => ?_
    obtain ⟨v, rfl, hS, hk⟩ := k e w'' hR
    rw [hH] at hk; exact ⟨hS, hk _ (ha.put hd) (hsh.set (by rw [hr]; simp))⟩
theorem HW.skip1 (hH : H = HW P N D ops Q S z) (hr : Region.ready .any ops l = [i]) (ho : ops[i]? = some o) (hs : Skips N ops E o) (hd : okd N o.dst = true) (hS : (l.setIfInBounds i true).getD z false = false → S w)
    (k : H n (l.setIfInBounds i true) (putE o.dst undef E) w) : H (n + 1) l E w := by
  subst hH
  intro a ha hsh
  refine ⟨fun h0 => (by rw [hr] at h0; cases h0), fun j hj => ?_⟩
  have hj' := hj
  rw [hr] at hj
  have hji : j = i := by simpa using hj
  subst hji
  unfold wpOp
  simp only [ho, hs _ _ ha, Bool.false_eq_true, if_false]
  exact ⟨hS, k _ (ha.put hd) (hsh.set hj')⟩
/-- Number i comes up now. -/
def H1 (P : Program) (N : Nat) (D : List Deferred) (ops : Array Oper) (Q : Exit → Act → World → Prop) (S : World → Prop) (z : Nat) (n : Nat) (l : Array Bool) (i : Nat) (E : Env) (w : World) : Prop :=
  i ∈ Region.ready .any ops l → ∀ a, Sat N D E a → Shut ops l → wpOp P ops (NP Q) i (fun a' w' => ((l.setIfInBounds i true).getD z false = false → S w') ∧ AH P ops (NP Q) S z n (l.setIfInBounds i true) a' w') a w
theorem HW.two {j : Nat} (hH : H = HW P N D ops Q S z) (hr : Region.ready .any ops l = [i, j]) (h1 : H1 P N D ops Q S z n l i E w) (h2 : H1 P N D ops Q S z n l j E w) : H (n + 1) l E w := by
  subst hH
  intro a ha hsh
  refine ⟨fun h0 => (by rw [hr] at h0; cases h0), fun k hk => ?_⟩
  have hk' := hk
  rw [hr] at hk
  rcases List.mem_cons.1 hk with rfl | hk
  · exact h1 hk' a ha hsh
  · have : k = j := by simpa using hk
    subst this
    exact h2 hk' a ha hsh
theorem H1.val (hH : H = HW P N D ops Q S z) (ho : ops[i]? = some o) (hw : Wants N ops E o) (hd : okd N o.dst = true)
    (hv : ∀ a, Sat N D E a → (execOp a.eval o).run P w = .ok (.value v) w') (hS : (l.setIfInBounds i true).getD z false = false → S w') (k : H n (l.setIfInBounds i true) (putE o.dst v E) w') : H1 P N D ops Q S z n l i E w := by
  intro hr a ha hsh
  unfold wpOp
  simp only [ho, hw _ _ ha, if_true]
  refine .inl ?_
  unfold Oper.wp; rw [hv a ha, Oper.upon_value]
  rw [hH] at k; exact ⟨hS, k _ (ha.put hd) (hsh.set hr)⟩
theorem H1.call {f : Nat} {args : Array Value} {R : Ending → World → Prop} (hH : H = HW P N D ops Q S z) (ho : ops[i]? = some o) (hw : Wants N ops E o) (hd : okd N o.dst = true)
    (hv : ∀ a, Sat N D E a → (execOp a.eval o).run P w = .ok (.enter f args) w') (hc : Calls P f args w' R)
    (k : ∀ e w'', R e w'' → ∃ v, e = .returned v ∧ ((l.setIfInBounds i true).getD z false = false → S w'') ∧ H n (l.setIfInBounds i true) (putE o.dst v E) w'') : H1 P N D ops Q S z n l i E w := by
  intro hr a ha hsh
  unfold wpOp
  simp only [ho, hw _ _ ha, if_true]
  refine .inl ?_
  unfold Oper.wp; rw [hv a ha, Oper.upon_enter]
  refine hc.mono fun e w'' hR => ?_
  obtain ⟨v, rfl, hS, hk⟩ := k e w'' hR
  rw [hH] at hk; exact ⟨hS, hk _ (ha.put hd) (hsh.set hr)⟩
theorem HW.done (hH : H = HW P N D ops Q S z) (hr : Region.ready .any ops l = []) (k : NW N D Q E w) : H n l E w := by
  subst hH
  intro a ha _
  cases n with
  | zero => exact ⟨hr, k a ha⟩
  | succ n => exact ⟨fun _ => k a ha, by rw [hr]; simp⟩
theorem HW.sub (hH : H = HW P N D ops Q S z) {F : Env} (s : Sub E F) (k : H n l E w) : H n l F w := by
  subst hH; exact fun a ha => k a (ha.sub s)
end

/-! ### A function -/
section
variable {P : Program} {N : Nat} {E : Env} {w : World} {fn : Func} {R : Ending → World → Prop}
theorem enter {f : Nat} {c : Code} {args : Array Value} (hf : P.funcs[f]? = some fn) (hb : fn.body = some c) (hN : fn.ntmps = N)
    (h : CW P N [] c (bodyPost P fn R) (envOf 0 args.toList) w) : Calls P f args w R := by
  refine calls_of_wp hf hb (h _ ⟨?_, rfl, fun t v hg => ?_⟩)
  · rw [← hN]; simp; omega
  · obtain ⟨_, h2⟩ := envOf_get _ _ _ _ hg
    have h3 : args[t]? = some v := by simpa using h2
    obtain ⟨hlt, h4⟩ := Array.getElem?_eq_some_iff.1 h3
    show (args ++ _).getD t undef = v
    simp [Array.getElem?_append_left hlt, h3]

theorem res0 (hr : fn.results = #[]) (h : R (.returned (.tuple #[])) w) (a : Act) (ha : Sat N [] E a) : bodyPost P fn R .ret a w :=
  bodyPost_ret (results_none hr _ _ _) ha.defers h
theorem res0n (hr : fn.results = #[]) (h : R (.returned (.tuple #[])) w) : NW N [] (bodyPost P fn R) E w := fun a ha =>
  bodyPost_end (results_none hr _ _ _) ha.defers h
theorem res1 {t : Nat} {v : Value} (hr : fn.results = #[.tmp t]) (hg : get E t = some v) (h : R (.returned v) w) (a : Act) (ha : Sat N [] E a) : bodyPost P fn R .ret a w :=
  bodyPost_ret (results_tmp hr _ _ _) ha.defers (by rw [ha.get _ _ hg]; exact h)
theorem res2 {t u : Nat} {v x : Value} (hr : fn.results = #[.tmp t, .tmp u]) (hg : get E t = some v) (hu : get E u = some x) (h : R (.returned (.tuple #[v, x])) w) (a : Act) (ha : Sat N [] E a) : bodyPost P fn R .ret a w :=
  bodyPost_ret (results_tmp2 hr _ _ _) ha.defers (by rw [ha.get _ _ hg, ha.get _ _ hu]; exact h)
/-- Result variables, some of them in cells. -/
def ResOK (P : Program) (E : Env) (w : World) : List ResultVar → List Value → Prop
  | [], vs => vs = []
  | .tmp t :: rs, vs => ∃ v us, vs = v :: us ∧ get E t = some v ∧ ResOK P E w rs us
  | .cell a T :: rs, vs => ∃ v us q, vs = v :: us ∧ get E a = some (.pointer (some q)) ∧ (loadVar T q).run P w = .ok v w ∧ ResOK P E w rs us
def resF (a : Act) : ResultVar → Sem Value
  | .tmp t => pure (a.tmps.getD t undef)
  | .cell c T => do loadVar T (← asAddr (a.tmps.getD c undef))
theorem ResOK.run {D : List Deferred} {a : Act} (ha : Sat N D E a) : ∀ (rs : List ResultVar) (vs : List Value), ResOK P E w rs vs →
    (rs.mapM (resF a)).run P w = .ok vs w
  | [], vs, h => by simp only [ResOK] at h; subst h; rfl
  | .tmp t :: rs, vs, h => by
    obtain ⟨v, us, rfl, hg, hr⟩ := h
    have ih := ResOK.run ha rs us hr
    rw [List.mapM_cons]
    simp only [resF, Sem.run_bind, Sem.run_pure, Result.andThen_ok, ha.get _ _ hg]
    rw [ih]; rfl
  | .cell c T :: rs, vs, h => by
    obtain ⟨v, us, q, rfl, hg, hl, hr⟩ := h
    have ih := ResOK.run ha rs us hr
    rw [List.mapM_cons]
    have hA : (asAddr (a.tmps.getD c undef)).run P w = .ok q w := by rw [ha.get _ _ hg]; rfl
    simp only [resF, Sem.run_bind, Sem.run_pure, Result.andThen_ok, hA, hl]
    rw [ih]; rfl
theorem resN {fn : Func} {vs : List Value} {x : Value} (h : ResOK P E w fn.results.toList vs) (hx : x = match vs with | [v] => v | _ => .tuple vs.toArray) (hR : R (.returned x) w) (a : Act) (ha : Sat N [] E a) : bodyPost P fn R .ret a w := by
  refine bodyPost_ret (v := x) ?_ ha.defers hR
  have h1 := ResOK.run ha _ _ h
  change (do let vs ← fn.results.mapM (resF a); pure (if h : vs.size = 1 then vs[0] else .tuple vs) : Sem Value).run P w = .ok x w
  rw [Array.mapM_eq_mapM_toList]
  simp only [Sem.run_bind, Sem.run_map, h1, Result.andThen_ok, Sem.run_pure]
  subst hx
  match vs with
  | [] => simp
  | [v] => simp
  | v :: u :: r => simp
theorem lvN {t : TypeId} {q : Addr} {cs : List Value} (ht : (match P.underlying t with | some (.struct _) | some (.array _ _) => true | _ => false) = true)
    (hz : (P.info? t).map (·.size) = some cs.length) (hc : ∀ j v, cs[j]? = some v → w.cell? (q.add j) = some v) : (loadVar t q).run P w = .ok (.agg cs.toArray) w := by
  have h1 : (isAgg t).run P w = .ok true w := by
    unfold isAgg
    cases hu : P.underlying t with
    | none => rw [hu] at ht; cases ht
    | some u => rw [hu] at ht; simp only [Sem.run_bind, run_underlying hu, Result.andThen_ok]; cases u <;> first | rfl | (cases ht)
  have h2 : (sizeOf t).run P w = .ok cs.length w := by
    cases hi : P.info? t with
    | none => rw [hi] at hz; cases hz
    | some i => rw [hi] at hz; simp at hz; simp [sizeOf, typeInfo, hi, hz]
  simp [loadVar, h1, h2, run_loadCells_list w q cs hc]
theorem ResOK.nil : ResOK P E w [] [] := rfl
theorem ResOK.t {t : Nat} {v : Value} {rs : List ResultVar} {us : List Value} (h : get E t = some v) (r : ResOK P E w rs us) : ResOK P E w (.tmp t :: rs) (v :: us) := ⟨v, us, rfl, h, r⟩
theorem ResOK.c {a : Nat} {T : TypeId} {q : Addr} {v : Value} {rs : List ResultVar} {us : List Value} (h : get E a = some (.pointer (some q))) (hl : (loadVar T q).run P w = .ok v w) (r : ResOK P E w rs us) : ResOK P E w (.cell a T :: rs) (v :: us) :=
  ⟨v, us, q, rfl, h, hl, r⟩
end
end Go.X
end

/- XOps -/
section
/- The engine's rules for single operations, over any program. -/
set_option linter.unusedVariables false
set_option linter.unusedSimpArgs false
namespace Go.X
open Go
section
variable {P : Program} {N : Nat} {D : List Deferred} {E : Env} {w w' : World} {d : Option Nat} {T : TypeId} {p : String} {af : Array Edge} {g : Option (Nat × Bool)} {S : World → Prop} {v : Value}

/-- In every world of S the operation yields v and leaves the world. -/
def Rd (P : Program) (N : Nat) (D : List Deferred) (E : Env) (o : Oper) (v : Value) (S : World → Prop) : Prop := ∀ a, Sat N D E a → ∀ w, S w → (execOp a.eval o).run P w = .ok (.value v) w
/-- In world w the operation yields v and leaves world w'. -/
def Vl (P : Program) (N : Nat) (D : List Deferred) (E : Env) (o : Oper) (w : World) (v : Value) (w' : World) : Prop := ∀ a, Sat N D E a → (execOp a.eval o).run P w = .ok (.value v) w'
def Ef (P : Program) (N : Nat) (D : List Deferred) (E : Env) (o : Oper) (w : World) (w' : World) : Prop := ∀ a, Sat N D E a → (execOp a.eval o).run P w = .ok .skip w'
def Cl (P : Program) (N : Nat) (D : List Deferred) (E : Env) (o : Oper) (w : World) (f : Nat) (args : Array Value) : Prop := ∀ a, Sat N D E a → (execOp a.eval o).run P w = .ok (.enter f args) w

theorem LW.rd {ops : Array Oper} {Q : Exit → Act → World → Prop} {L : Nat → Env → World → Prop} {i : Nat} {o : Oper} (hL : L = LW P N D ops Q) (ho : ops[i]? = some o) (hw : Wants N ops E o) (hd : okd N o.dst = true)
    (hv : Rd P N D E o v (· = w)) (k : L (i + 1) (putE o.dst v E) w) : L i E w := LW.val hL ho hw hd (fun a ha => hv a ha w rfl) k


def opdP (E : Env) : List (Nat × Operand) → Option (List (Nat × Value))
  | [] => some []
  | (i, x) :: r => match opd E x with
    | none => none
    | some v => match opdP E r with
      | none => none
      | some vs => some ((i, v) :: vs)
theorem opdP_map {a : Act} (ha : Sat N D E a) {ps : Array (Nat × Operand)} {vs : List (Nat × Value)} (h : opdP E ps.toList = some vs) : (ps.map fun (i, x) => (i, a.eval x)) = vs.toArray := by
  have key : ∀ (l : List (Nat × Operand)) (vs : List (Nat × Value)), opdP E l = some vs → l.map (fun (i, x) => (i, a.eval x)) = vs := by
    intro l
    induction l with
    | nil => intro vs h; simp [opdP] at h; simp [h]
    | cons q r ih =>
      intro vs h
      obtain ⟨i, x⟩ := q
      simp only [opdP] at h
      split at h
      · cases h
      · rename_i v hv
        split at h
        · cases h
        · rename_i us hus
          simp at h; subst h
          simp [ha.eval hv, ih _ hus]
  rw [← Array.toList_inj]
  simpa using key _ _ h
def opdL (E : Env) : List Operand → Option (List Value)
  | [] => some []
  | x :: r => match opd E x with
    | none => none
    | some v => match opdL E r with
      | none => none
      | some vs => some (v :: vs)
theorem opdL_map {a : Act} (ha : Sat N D E a) {xs : Array Operand} {vs : List Value} (h : opdL E xs.toList = some vs) : xs.map a.eval = vs.toArray := by
  have key : ∀ (l : List Operand) (vs : List Value), opdL E l = some vs → l.map a.eval = vs := by
    intro l
    induction l with
    | nil => intro vs h; simp [opdL] at h; simp [h]
    | cons x r ih =>
      intro vs h
      simp only [opdL] at h
      split at h
      · cases h
      · rename_i v hv
        split at h
        · cases h
        · rename_i us hus
          simp at h; subst h
          simp [ha.eval hv, ih _ hus]
  rw [← Array.toList_inj]
  simpa using key _ _ h

def optV (E : Env) : Option Operand → Option (Option Value)
  | none => some none
  | some x => match opd E x with
    | none => none
    | some v => some (some v)
theorem optV_map {a : Act} (ha : Sat N D E a) {x : Option Operand} {v : Option Value} (h : optV E x = some v) : x.map a.eval = v := by
  cases x with
  | none => simp [optV] at h; simp [← h]
  | some x =>
    simp only [optV] at h
    split at h
    · cases h
    · rename_i u hu
      simp at h; subst h
      simp [ha.eval hu]
theorem eqs {q : Addr} (h : w.cell? q = some v) : ∀ w', w' = w → w'.cell? q = some v := fun _ e => e ▸ h

theorem Rd.move {x : Operand} (h : opd E x = some v) : Rd P N D E ⟨d, .move x, T, p, af, g⟩ v S := fun a ha w _ => by simp [execOp, ha.eval h]
theorem Rd.assign {x : Operand} (h : opd E x = some v) : Rd P N D E ⟨d, .assign x, T, p, af, g⟩ v S := fun a ha w _ => by simp [execOp, ha.eval h]
theorem Rd.pickT {c x y : Operand} {b : Bool} (hc : opd E c = some (.bool b)) (hb : b = true) (h : opd E x = some v) : Rd P N D E ⟨d, .pick c x y, T, p, af, g⟩ v S := fun a ha w _ => by
  simp [execOp, ha.eval hc, ha.eval h, hb, asBool]
theorem Rd.pickF {c x y : Operand} {b : Bool} (hc : opd E c = some (.bool b)) (hb : b = false) (h : opd E y = some v) : Rd P N D E ⟨d, .pick c x y, T, p, af, g⟩ v S := fun a ha w _ => by
  simp [execOp, ha.eval hc, ha.eval h, hb, asBool]
theorem Rd.bin {op : BinOp} {T1 T2 : TypeId} {x y : Operand} {vx vy : Value} (hx : opd E x = some vx) (hy : opd E y = some vy)
    (hr : ∀ w, ((do eqGuard op T1 x y vx vy; binOp op T1 vx vy : Sem Value)).run P w = .ok v w) : Rd P N D E ⟨d, .binOp op T1 x y T2, T, p, af, g⟩ v S := fun a ha w _ => by
  have := hr w
  simp only [Sem.run_bind] at this
  cases hg : (eqGuard op T1 x y vx vy).run P w with
  | ok u w1 => rw [hg] at this; simp only [Result.andThen_ok] at this; simp [execOp, ha.eval hx, ha.eval hy, hg, this]
  | halt h w1 => rw [hg] at this; cases this
theorem Rd.un {op : UnOp} {T1 : TypeId} {x : Operand} {vx : Value} (hx : opd E x = some vx) (hr : ∀ w, (Op.unary op vx).run P w = .ok v w) : Rd P N D E ⟨d, .unOp op T1 x, T, p, af, g⟩ v S := fun a ha w _ => by
  simp [execOp, ha.eval hx, hr w]
theorem Rd.nil {x : Operand} {q : Addr} (hx : opd E x = some (.pointer (some q))) : Rd P N D E ⟨d, .nilCheck x, T, p, af, g⟩ (.pointer (some q)) S := fun a ha w _ => by
  simp [execOp, ha.eval hx]
theorem Rd.fa {s : TypeId} {x : Operand} {f : Nat} {q : Addr} (hx : opd E x = some (.pointer (some q))) (hr : ∀ w, (Instr.fieldAt s (.pointer (some q)) f).run P w = .ok v w) :
    Rd P N D E ⟨d, .fieldAddr s x f, T, p, af, g⟩ v S := fun a ha w _ => by
  simp [execOp, ha.eval hx, hr w]
theorem Rd.extract {x : Operand} {i : Nat} {vs : Array Value} (hx : opd E x = some (.tuple vs)) (hi : vs[i]? = some v) : Rd P N D E ⟨d, .extract x i, T, p, af, g⟩ v S := fun a ha w _ => by
  simp [execOp, ha.eval hx, Instr.extract, hi]
theorem Rd.build {t : TypeId} {ps : Array (Nat × Operand)} {vs : List (Nat × Value)} (hx : opdP E ps.toList = some vs) (hr : ∀ w, (Instr.build t vs.toArray).run P w = .ok v w) :
    Rd P N D E ⟨d, .build t ps, T, p, af, g⟩ v S := fun a ha w _ => by
  simp [execOp, opdP_map ha hx, hr w]
theorem Rd.makeFunc {f : Nat} {cap : Array Operand} {vs : List Value} (hx : opdL E cap.toList = some vs) : Rd P N D E ⟨d, .makeFunc (.func f) #[] cap, T, p, af, g⟩ (.func (.func f) #[] vs.toArray) S := fun a ha w _ => by
  simp [execOp, opdL_map ha hx, Instr.makeFunc]

/-- A load of one cell. -/
theorem Rd.ld {t : TypeId} {x : Operand} {q : Addr} (hx : opd E x = some (.pointer (some q))) (ht : (match P.underlying t with | some (.struct _) | some (.array _ _) | none => false | _ => true) = true)
    (hc : ∀ w, S w → w.cell? q = some v) : Rd P N D E ⟨d, .load t x, T, p, af, g⟩ v S := fun a ha w hS => by
  have h1 : (isAgg t).run P w = .ok false w := by
    unfold isAgg
    cases hu : P.underlying t with
    | none => rw [hu] at ht; cases ht
    | some u => rw [hu] at ht; simp only [Sem.run_bind, run_underlying hu, Result.andThen_ok]; cases u <;> first | rfl | (cases ht)
  simp [execOp, ha.eval hx, Instr.loadAt, Instr.sureAddr, loadVar, h1, hc w hS]
/-- A load of a struct or an array. -/
theorem Rd.ldN {t : TypeId} {x : Operand} {q : Addr} {cs : List Value} (hx : opd E x = some (.pointer (some q))) (ht : (match P.underlying t with | some (.struct _) | some (.array _ _) => true | _ => false) = true)
    (hz : (P.info? t).map (·.size) = some cs.length) (hc : ∀ w, S w → ∀ j v, cs[j]? = some v → w.cell? (q.add j) = some v) : Rd P N D E ⟨d, .load t x, T, p, af, g⟩ (.agg cs.toArray) S := fun a ha w hS => by
  have h1 : (isAgg t).run P w = .ok true w := by
    unfold isAgg
    cases hu : P.underlying t with
    | none => rw [hu] at ht; cases ht
    | some u => rw [hu] at ht; simp only [Sem.run_bind, run_underlying hu, Result.andThen_ok]; cases u <;> first | rfl | (cases ht)
  have h2 : (sizeOf t).run P w = .ok cs.length w := by
    cases hi : P.info? t with
    | none => rw [hi] at hz; cases hz
    | some i => rw [hi] at hz; simp at hz; simp [sizeOf, typeInfo, hi, hz]
  simp [execOp, ha.eval hx, Instr.loadAt, Instr.sureAddr, loadVar, h1, h2, run_loadCells_list w q cs (hc w hS)]
theorem Rd.lookup {t : TypeId} {x k : Operand} {ok : Bool} {vx vk : Value} (hx : opd E x = some vx) (hk : opd E k = some vk) (hl : ∀ w, S w → (Instr.lookup t vx vk ok).run P w = .ok v w) :
    Rd P N D E ⟨d, .lookup t x k ok, T, p, af, g⟩ v S := fun a ha w hS => by
  simp [execOp, ha.eval hx, ha.eval hk, hl w hS]
theorem Rd.index {t : TypeId} {x k : Operand} {vx vk : Value} (hx : opd E x = some vx) (hk : opd E k = some vk) (hl : ∀ w, (Instr.index t vx vk).run P w = .ok v w) :
    Rd P N D E ⟨d, .index t x k, T, p, af, g⟩ v S := fun a ha w hS => by
  simp [execOp, ha.eval hx, ha.eval hk, hl w]
theorem Rd.slice {t : TypeId} {x : Operand} {lo hi mx : Option Operand} {vx : Value} {vlo vhi vmx : Option Value} (hx : opd E x = some vx) (h1 : optV E lo = some vlo) (h2 : optV E hi = some vhi) (h3 : optV E mx = some vmx)
    (hl : ∀ w, (Instr.sliceAt t vx vlo vhi vmx).run P w = .ok v w) : Rd P N D E ⟨d, .slice t x lo hi mx, T, p, af, g⟩ v S := fun a ha w hS => by
  simp [execOp, ha.eval hx, optV_map ha h1, optV_map ha h2, optV_map ha h3, hl w]
/-- A builtin that only reads. -/
theorem Rd.builtin {b : Builtin} {args : Array Operand} {ts : Array TypeId} {vs : List Value} (hx : opdL E args.toList = some vs)
    (hl : ∀ w, S w → (builtin b ts T (args.map fun | .const _ => true | _ => false) vs.toArray).run P w = .ok (.value v) w) : Rd P N D E ⟨d, .call ⟨.builtin b, args, ts⟩, T, p, af, g⟩ v S := fun a ha w hS => by
  have h1 : args.map a.eval = vs.toArray := opdL_map ha hx
  simp [execOp, resolve, invoke, h1]
  exact hl w hS
/-- The address of an array's element. -/
theorem Rd.iaA {t e : TypeId} {x k : Operand} {q : Addr} {n sz : Nat} {ik : IntKind} {i : Int} (hx : opd E x = some (.pointer (some q))) (hk : opd E k = some (.int ik i)) (ht : P.underlying t = some (.array n e))
    (hz : (P.info? e).map (·.size) = some sz) (h0 : 0 ≤ i) (h1 : i < n) : Rd P N D E ⟨d, .indexAddr t x k, T, p, af, g⟩ (.pointer (some (q.add (i.toNat * sz)))) S := fun a ha w _ => by
  have h2 : (sizeOf e).run P w = .ok sz w := by
    cases hi : P.info? e with
    | none => rw [hi] at hz; cases hz
    | some i => rw [hi] at hz; simp at hz; simp [sizeOf, typeInfo, hi, hz]
  simp [execOp, ha.eval hx, ha.eval hk, Instr.indexAt, asIntOf, run_underlying ht, Instr.sureAddr, h0, h1, h2]
/-- The address of a slice's element. -/
theorem Rd.iaS {t e : TypeId} {x k : Operand} {q : Addr} {n c sz : Nat} {ik : IntKind} {i : Int} (hx : opd E x = some (.slice (some q) n c)) (hk : opd E k = some (.int ik i)) (ht : P.underlying t = some (.slice e))
    (hz : (P.info? e).map (·.size) = some sz) (h0 : 0 ≤ i) (h1 : i < n) : Rd P N D E ⟨d, .indexAddr t x k, T, p, af, g⟩ (.pointer (some (q.add (i.toNat * sz)))) S := fun a ha w _ => by
  have h2 : (sizeOf e).run P w = .ok sz w := by
    cases hi : P.info? e with
    | none => rw [hi] at hz; cases hz
    | some i => rw [hi] at hz; simp at hz; simp [sizeOf, typeInfo, hi, hz]
  simp [execOp, ha.eval hx, ha.eval hk, Instr.indexAt, asIntOf, run_underlying ht, h0, h1, h2]

/-! ### Operations that change the world -/
theorem Vl.box {t : TypeId} {x : Operand} (hx : opd E x = some v) : Vl P N D E ⟨d, .box t x, T, p, af, g⟩ w (.pointer (some ⟨w.heap.size, 0, none⟩)) (w.alloc (.cells v.cells t)) := fun a ha => by
  simp [execOp, ha.eval hx, Instr.box, newVar, newRow]
theorem Vl.alloc {t : TypeId} {z : Value} (hz : (zeroValue t).run P w = .ok z w) : Vl P N D E ⟨d, .alloc t, T, p, af, g⟩ w (.pointer (some ⟨w.heap.size, 0, none⟩)) (w.alloc (.cells z.cells t)) := fun a ha => by
  simp [execOp, Instr.alloc, hz, newVar, newRow]
theorem Vl.makeMap {t : TypeId} : Vl P N D E ⟨d, .makeMap t none, T, p, af, g⟩ w (.map (some w.heap.size)) (w.alloc (.map #[] 0)) := fun a ha => by
  simp [execOp, Instr.makeMap]
theorem Vl.buildSlice {t : TypeId} {n : Nat} {ps : Array (Nat × Operand)} {vs : List (Nat × Value)} (hx : opdP E ps.toList = some vs) (hr : (Instr.buildSlice t n vs.toArray).run P w = .ok v w') :
    Vl P N D E ⟨d, .buildSlice t n ps, T, p, af, g⟩ w v w' := fun a ha => by
  simp [execOp, opdP_map ha hx, hr]
theorem Vl.builtin {b : Builtin} {args : Array Operand} {ts : Array TypeId} {vs : List Value} (hx : opdL E args.toList = some vs)
    (hl : (builtin b ts T (args.map fun | .const _ => true | _ => false) vs.toArray).run P w = .ok (.value v) w') : Vl P N D E ⟨d, .call ⟨.builtin b, args, ts⟩, T, p, af, g⟩ w v w' := fun a ha => by
  have h1 : args.map a.eval = vs.toArray := opdL_map ha hx
  simp [execOp, resolve, invoke, h1]
  exact hl
theorem Vl.range {t : TypeId} {x : Operand} {vx : Value} (hx : opd E x = some vx) (hr : (Instr.range t vx).run P w = .ok v w') : Vl P N D E ⟨d, .range t x, T, p, af, g⟩ w v w' := fun a ha => by
  simp [execOp, ha.eval hx, hr]
theorem Vl.next {x : Operand} {s : Bool} {vx : Value} (hx : opd E x = some vx) (hr : (Instr.next vx s T).run P w = .ok v w') : Vl P N D E ⟨d, .next x s, T, p, af, g⟩ w v w' := fun a ha => by
  simp [execOp, ha.eval hx, hr]
theorem Vl.entry {x : Operand} {vx : Value} (hx : opd E x = some vx) (hr : (Instr.entry vx).run P w = .ok v w') : Vl P N D E ⟨d, .entry x, T, p, af, g⟩ w v w' := fun a ha => by
  simp [execOp, ha.eval hx, hr]
theorem Ef.mapUpdate {t : TypeId} {m k x : Operand} {vm vk vx : Value} (hm : opd E m = some vm) (hk : opd E k = some vk) (hx : opd E x = some vx) (hr : (Instr.mapUpdate t vm vk vx).run P w = .ok () w') :
    Ef P N D E ⟨d, .mapUpdate t m k x, T, p, af, g⟩ w w' := fun a ha => by
  simp [execOp, ha.eval hm, ha.eval hk, ha.eval hx, hr]
theorem Ef.insert {t : TypeId} {m k x : Operand} {vm vk vx : Value} (hm : opd E m = some vm) (hk : opd E k = some vk) (hx : opd E x = some vx) (hr : (Instr.mapUpdate t vm vk vx).run P w = .ok () w') :
    Ef P N D E ⟨d, .insert t m k x, T, p, af, g⟩ w w' := fun a ha => by
  simp [execOp, ha.eval hm, ha.eval hk, ha.eval hx, hr]
/-- A store of one cell. -/
theorem Ef.st {t : TypeId} {x y : Operand} {q : Addr} {old : Value} (hx : opd E x = some (.pointer (some q))) (hy : opd E y = some v) (hv : v.oneCell' = true) (hz : (P.info? t).map (·.size) = some 1)
    (hc : w.cell? q = some old) (hf : w.frozen? q = false) : Ef P N D E ⟨d, .store t x y, T, p, af, g⟩ w (w.setCell q v) := fun a ha => by
  have h2 : (sizeOf t).run P w = .ok 1 w := by
    cases hi : P.info? t with
    | none => rw [hi] at hz; cases hz
    | some i => rw [hi] at hz; simp at hz; simp [sizeOf, typeInfo, hi, hz]
  have hcs : v.cells = #[v] := by cases v <;> first | rfl | (cases hv)
  have h0 : q.add 0 = q := rfl
  simp [execOp, ha.eval hx, ha.eval hy, Instr.storeAt, Instr.sureAddr, storeVar, h2, hcs, storeCells, h0, run_store P w q v .plain hv, hc, hf]
/-- The cells of a value laid from an address on. -/
def setCells (w : World) (q : Addr) : Nat → List Value → World
  | _, [] => w
  | i, v :: vs => setCells (w.setCell (q.add i) v) q (i + 1) vs
theorem isSome_setCell {w : World} {q q' : Addr} {v : Value} (h : (w.cell? q').isSome = true) : ((w.setCell q v).cell? q').isSome = true := by
  by_cases e : q = q'
  · subst e
    obtain ⟨x, hx⟩ := Option.isSome_iff_exists.1 h
    rw [World.cell?_setCell_same _ _ _ hx]; rfl
  · rw [World.cell?_setCell_other _ _ _ _ e]; exact h
theorem run_storeCells' (q : Addr) : ∀ (vs : List Value) (i : Nat) (w : World), (∀ v ∈ vs, v.oneCell' = true) → (∀ j, j < vs.length → (w.cell? (q.add (i + j))).isSome = true) →
    (∀ j, j < vs.length → w.frozen? (q.add (i + j)) = false) → (storeCells q vs i).run P w = .ok () (setCells w q i vs)
  | [], i, w, _, _, _ => rfl
  | v :: vs, i, w, h1, hc, hf => by
    obtain ⟨old, ho⟩ := Option.isSome_iff_exists.1 (hc 0 (by simp))
    have hf0 := hf 0 (by simp)
    simp only [Nat.add_zero] at ho hf0
    simp only [storeCells, Sem.run_bind, run_store P w (q.add i) v .plain (h1 v (by simp)), ho, hf0, setCells]
    exact run_storeCells' q vs (i + 1) _ (fun x hx => h1 x (by simp [hx])) (fun j hj => isSome_setCell (by have := hc (j + 1) (by simp; omega); rwa [show i + (j + 1) = i + 1 + j from by omega] at this))
      (fun j hj => by rw [World.frozen?_setCell]; have := hf (j + 1) (by simp; omega); rwa [show i + (j + 1) = i + 1 + j from by omega] at this)
/-- A store of a struct or an array. -/
theorem Ef.stN {t : TypeId} {x y : Operand} {q : Addr} {cs : List Value} (hx : opd E x = some (.pointer (some q))) (hy : opd E y = some (.agg cs.toArray)) (hz : (P.info? t).map (·.size) = some cs.length)
    (h1 : ∀ v ∈ cs, v.oneCell' = true) (hc : ∀ j, j < cs.length → (w.cell? (q.add j)).isSome = true) (hf : ∀ j, j < cs.length → w.frozen? (q.add j) = false) :
    Ef P N D E ⟨d, .store t x y, T, p, af, g⟩ w (setCells w q 0 cs) := fun a ha => by
  have h2 : (sizeOf t).run P w = .ok cs.length w := by
    cases hi : P.info? t with
    | none => rw [hi] at hz; cases hz
    | some i => rw [hi] at hz; simp at hz; simp [sizeOf, typeInfo, hi, hz]
  simp [execOp, ha.eval hx, ha.eval hy, Instr.storeAt, Instr.sureAddr, storeVar, h2, Value.cells, run_storeCells' (P := P) q cs 0 w h1 (by simpa using hc) (by simpa using hf)]

/-! ### Calls -/
theorem run_call {f : Nat} {fn : Func} {args : Array Value} (hf : P.funcs[f]? = some fn) (hn : (fn.name == "runtime.NumGoroutine") = false) (hb : fn.body.isNone = false) : (callFunc f args).run P w = .ok (.enter f args) w := by
  simp only [callFunc, Sem.run_bind, run_program, Result.andThen_ok, hf, hn, hb, Bool.false_eq_true, if_false, Sem.run_pure]
theorem Cl.fn {f : Nat} {fn : Func} {args : Array Operand} {ts : Array TypeId} {vs : List Value} (hx : opdL E args.toList = some vs) (hf : P.funcs[f]? = some fn) (hn : (fn.name == "runtime.NumGoroutine") = false)
    (hb : fn.body.isNone = false) : Cl P N D E ⟨d, .call ⟨.value (.func f), args, ts⟩, T, p, af, g⟩ w f vs.toArray := fun a ha => by
  have h1 : args.map a.eval = vs.toArray := opdL_map ha hx
  simp [execOp, resolve, Act.eval, Deferred.ofValue, invoke, h1, run_call hf hn hb]
/-- A call of a function value that is known to be function f with what it has captured. -/
theorem Cl.fv {x : Operand} {f : Nat} {fn : Func} {cap : Array Value} {args : Array Operand} {ts : Array TypeId} {vs : List Value} (hv : opd E x = some (.func (.func f) #[] cap)) (hx : opdL E args.toList = some vs)
    (hf : P.funcs[f]? = some fn) (hn : (fn.name == "runtime.NumGoroutine") = false) (hb : fn.body.isNone = false) : Cl P N D E ⟨d, .call ⟨.value x, args, ts⟩, T, p, af, g⟩ w f (vs.toArray ++ cap) := fun a ha => by
  have h1 : args.map a.eval = vs.toArray := opdL_map ha hx
  simp [execOp, resolve, ha.eval hv, Deferred.ofValue, invoke, h1, run_call hf hn hb]

/-- What a function value does, called with these arguments. -/
def CallsV (P : Program) (fv : Value) (args : Array Value) (w : World) (R : Ending → World → Prop) : Prop :=
  ∃ f cap fn, fv = .func (.func f) #[] cap ∧ P.funcs[f]? = some fn ∧ (fn.name == "runtime.NumGoroutine") = false ∧ fn.body.isNone = false ∧ Calls P f (args ++ cap) w R
end
end Go.X
end

/- XRun -/
section
/- Small lemmas that the printed texts use. -/
set_option linter.unusedVariables false
set_option linter.unusedSimpArgs false
namespace Go.X
open Go
/-- The cells from an address on. -/
def CellsAt (w : World) (q : Addr) : Nat → List Value → Prop
  | _, [] => True
  | i, v :: vs => w.cell? (q.add i) = some v ∧ CellsAt w q (i + 1) vs
theorem cellsAt_get' {w : World} {q : Addr} : ∀ {vs : List Value} {i : Nat}, CellsAt w q i vs → ∀ j v, vs[j]? = some v → w.cell? (q.add (i + j)) = some v
  | [], _, _, j, v, h => by simp at h
  | x :: vs, i, ⟨h1, h2⟩, 0, v, h => by simp at h; subst h; exact h1
  | x :: vs, i, ⟨h1, h2⟩, j + 1, v, h => by
    have := cellsAt_get' h2 j v (by simpa using h)
    rwa [show i + 1 + j = i + (j + 1) from by omega] at this
theorem cellsAt_get {w : World} {q : Addr} {vs : List Value} (h : CellsAt w q 0 vs) : ∀ j v, vs[j]? = some v → w.cell? (q.add j) = some v := fun j v hj => by
  have := cellsAt_get' h j v hj; rwa [Nat.zero_add] at this
theorem cellsS {w : World} {q : Addr} {vs : List Value} (h : CellsAt w q 0 vs) : ∀ w', w' = w → ∀ j v, vs[j]? = some v → w'.cell? (q.add j) = some v := fun _ e => e ▸ cellsAt_get h
def Has (w : World) (q : Addr) (n : Nat) : Prop := ∀ j, j < n → (w.cell? (q.add j)).isSome = true
def Free (w : World) (q : Addr) (n : Nat) : Prop := ∀ j, j < n → w.frozen? (q.add j) = false
def _root_.Go.World.size (w : World) : Nat := w.heap.size
section
variable {P : Program} {N : Nat} {D : List Deferred} {E : Env} {w w' : World} {o : Oper} {v : Value}
theorem boxE {b : Nat} {x : Obj} (hb : b = w.size) (hw : w' = w.alloc x) (h : Vl P N D E o w (.pointer (some ⟨w.heap.size, 0, none⟩)) (w.alloc x)) : Vl P N D E o w (.pointer (some ⟨b, 0, none⟩)) w' := by subst hb; subst hw; exact h
theorem mapE {b : Nat} {x : Obj} (hb : b = w.size) (hw : w' = w.alloc x) (h : Vl P N D E o w (.map (some w.heap.size)) (w.alloc x)) : Vl P N D E o w (.map (some b)) w' := by subst hb; subst hw; exact h
theorem sliceE {b n : Nat} {x : Obj} (hb : b = w.size) (hw : w' = w.alloc x) (h : ∀ w, Vl P N D E o w (.slice (some ⟨w.heap.size, 0, none⟩) n n) (w.alloc x)) : Vl P N D E o w (.slice (some ⟨b, 0, none⟩) n n) w' := by subst hb; subst hw; exact h w
theorem stE {q : Addr} (hw : w' = w.setCell q v) (h : Ef P N D E o w (w.setCell q v)) : Ef P N D E o w w' := by subst hw; exact h
theorem stNE {q : Addr} {cs : List Value} (hw : w' = setCells w q 0 cs) (h : Ef P N D E o w (setCells w q 0 cs)) : Ef P N D E o w w' := by subst hw; exact h
theorem valB {ts : Array TypeId} {T : TypeId} {c : Array Bool} {vs : Array Value} {b : Builtin} {f : Array TypeId → TypeId → Array Value → Sem Value} (h : (f ts T vs).run P w = .ok v w')
    (hb : builtin b ts T c vs = (do pure (.value (← f ts T vs))) := by rfl) : (builtin b ts T c vs).run P w = .ok (.value v) w' := by
  rw [hb]; simp [h]
theorem ptr_nil_eq {T : TypeId} {x y : Operand} (hT : P.underlying T = some (.pointer (P.pointee T))) (a : Option Addr) (w : World) :
    ((do eqGuard .eql T x y (.pointer a) (.pointer none); binOp .eql T (.pointer a) (.pointer none) : Sem Value)).run P w = .ok (.bool (Option.isNone a)) w := by
  have h1 : (eqGuard .eql T x y (.pointer a) (.pointer none)).run P w = .ok () w := by simp [eqGuard]
  simp only [Sem.run_bind, h1, Result.andThen_ok]
  exact run_eql_pointer_nil w T a hT
end
end Go.X
end

/- XHeap -/
section
/- Worlds that differ in some blocks alone; cells; maps as lists of keys and values. -/
set_option linter.unusedVariables false
set_option linter.unusedSimpArgs false
set_option linter.unusedSectionVars false
namespace Go.X
open Go Go.RowKit Go.MapKept

/-- w' is w but for the blocks of fp, and new ones. -/
structure Chg (fp : List Nat) (w w' : World) : Prop where
  os : w'.os = w.os
  tape : w'.tape = w.tape
  output : w'.output = w.output
  size : w.heap.size ≤ w'.heap.size
  block : ∀ i, i < w.heap.size → i ∉ fp → w'.heap[i]? = w.heap[i]?

theorem Chg.refl (fp : List Nat) (w : World) : Chg fp w w := ⟨rfl, rfl, rfl, Nat.le_refl _, fun _ _ _ => rfl⟩
theorem Chg.trans {f g : List Nat} {a b c : World} (h : Chg f a b) (k : Chg g b c) (hg : ∀ i ∈ g, i < a.heap.size → i ∈ f) : Chg f a c :=
  ⟨k.os.trans h.os, k.tape.trans h.tape, k.output.trans h.output, Nat.le_trans h.size k.size,
    fun i hi hf => (k.block i (Nat.lt_of_lt_of_le hi h.size) (fun hm => hf (hg i hm hi))).trans (h.block i hi hf)⟩
theorem Chg.mono {f g : List Nat} {a b : World} (h : Chg f a b) (hg : ∀ i ∈ f, i < a.heap.size → i ∈ g) : Chg g a b :=
  ⟨h.os, h.tape, h.output, h.size, fun i hi hf => h.block i hi (fun hm => hf (hg i hm hi))⟩
theorem Chg.trans0 {a b c : World} (h : Chg [] a b) (k : Chg [] b c) : Chg [] a c := h.trans k (by simp)
theorem Chg.nil {f : List Nat} {a b : World} (h : Chg [] a b) : Chg f a b := h.mono (by simp)
theorem Chg.drew (w : World) : Chg [] w w.drew := ⟨rfl, rfl, rfl, Nat.le_refl _, fun _ _ _ => rfl⟩
theorem Chg.alloc (w : World) (o : Obj) : Chg [] w (w.alloc o) := ⟨rfl, rfl, rfl, by simp, fun i hi _ => Below.heap_alloc w o i hi⟩
theorem Chg.setCell (w : World) (q : Addr) (v : Value) : Chg [q.block] w (w.setCell q v) := by
  refine ⟨rfl, rfl, rfl, by simp [World.setCell], fun i hi hf => ?_⟩
  have hne : q.block ≠ i := fun e => hf (by simp [e])
  simp [World.setCell, Array.getElem?_modify, hne]
theorem Chg.setCells (q : Addr) : ∀ (vs : List Value) (i : Nat) (w : World), Chg [q.block] w (setCells w q i vs)
  | [], _, w => Chg.refl _ w
  | v :: vs, i, w => by
    have h1 := Chg.setCell w (q.add i) v
    have hb : (q.add i).block = q.block := by unfold Addr.add; split <;> rfl
    rw [hb] at h1
    exact h1.trans (Chg.setCells q vs (i + 1) _) (fun _ h _ => h)
theorem Chg.put {w : World} {r : Nat} {o : Obj} : Chg [r] w { w with heap := w.heap.setIfInBounds r o } := by
  refine ⟨rfl, rfl, rfl, by simp, fun i hi hf => ?_⟩
  have hne : r ≠ i := fun e => hf (by simp [e])
  simp [hne]
theorem Chg.below {w w' : World} (h : Chg [] w w') : Below w.heap.size w w' := ⟨h.os, h.tape, h.output, h.size, fun k hk => h.block k hk (by simp)⟩
theorem lt_of_heap {w : World} {b : Nat} {o : Obj} (h : w.heap[b]? = some o) : b < w.heap.size := (Array.getElem?_eq_some_iff.1 h).1
theorem Chg.obj {f : List Nat} {w w' : World} (h : Chg f w w') {b : Nat} {o : Obj} (hf : b ∉ f) (hb : w.heap[b]? = some o) : w'.heap[b]? = some o := (h.block b (lt_of_heap hb) hf).trans hb
theorem Chg.cell {f : List Nat} {w w' : World} (h : Chg f w w') {q : Addr} {v : Value} (hf : q.block ∉ f) (hq : w.cell? q = some v) : w'.cell? q = some v := by
  have hb := h.block q.block (World.block_lt_of_cell? w q hq) hf
  unfold World.cell? at hq ⊢
  rw [hb]; exact hq
theorem add_block (q : Addr) (i : Nat) : (q.add i).block = q.block := by unfold Addr.add; split <;> rfl
theorem Chg.cells {f : List Nat} {w w' : World} (h : Chg f w w') {q : Addr} (hf : q.block ∉ f) : ∀ {i : Nat} {vs : List Value}, CellsAt w q i vs → CellsAt w' q i vs
  | _, [], _ => trivial
  | i, v :: vs, ⟨h1, h2⟩ => ⟨h.cell (fun hm => hf (add_block q i ▸ hm)) h1, h.cells hf h2⟩

/-! ### Cells of a known block -/
theorem add_at (b o n : Nat) : (⟨b, o, none⟩ : Addr).add n = ⟨b, o + n, none⟩ := by unfold Addr.add; split <;> simp_all
theorem cell_of {w : World} {b : Nat} {c : Array Value} {t : TypeId} {fr : Nat × Nat} (h : w.heap[b]? = some (.cells c t fr)) (i : Nat) : w.cell? ⟨b, i, none⟩ = c[i]? := by simp [World.cell?, h]
theorem free_of {w : World} {b : Nat} {c : Array Value} {t : TypeId} (h : w.heap[b]? = some (.cells c t (0, 0))) (i : Nat) : w.frozen? ⟨b, i, none⟩ = false := by simp [World.frozen?, h]
theorem heap_new (w : World) (o : Obj) : (w.alloc o).heap[w.size]? = some o := (MapKept.heap_alloc w o).1
theorem set_heap {w : World} {b i : Nat} {c : Array Value} {t : TypeId} {fr : Nat × Nat} (h : w.heap[b]? = some (.cells c t fr)) (v : Value) : (w.setCell ⟨b, i, none⟩ v).heap[b]? = some (.cells (c.setIfInBounds i v) t fr) := by
  simp [World.setCell, Array.getElem?_modify, h]
theorem setCells_heap {b o : Nat} {t : TypeId} {fr : Nat × Nat} : ∀ (vs : List Value) (i : Nat) (w : World) (c : Array Value), w.heap[b]? = some (.cells c t fr) →
    (setCells w ⟨b, o, none⟩ i vs).heap[b]? = some (.cells (vs.zipIdx.foldl (fun c (v, j) => c.setIfInBounds (o + i + j) v) c) t fr)
  | [], i, w, c, h => by simpa [setCells] using h
  | v :: vs, i, w, c, h => by
    simp only [setCells, add_at]
    rw [setCells_heap vs (i + 1) _ _ (set_heap h v)]
    simp only [List.zipIdx_cons, List.foldl_cons, Nat.add_zero, Nat.zero_add]
    congr 2
    have : ∀ (l : List Value) (k : Nat) (c : Array Value), (l.zipIdx (k + 1)).foldl (fun c (x : Value × Nat) => c.setIfInBounds (o + i + x.2) x.1) c = (l.zipIdx k).foldl (fun c (x : Value × Nat) => c.setIfInBounds (o + (i + 1) + x.2) x.1) c := by
      intro l
      induction l with
      | nil => intro k c; rfl
      | cons x l ih =>
        intro k c
        simp only [List.zipIdx_cons, List.foldl_cons]
        rw [ih (k + 1)]
        congr 2
        omega
    exact (this vs 0 _).symm

/-! ### Maps -/
/-- A type of keys: what looks for one finds it by equality. -/
structure KeyT (P : Program) (kt : TypeId) {K : Type} [DecidableEq K] (enc : K → Value) : Prop where
  inj : ∀ a b, enc a = enc b → a = b
  check : ∀ e w k, (Instr.checkKey e 10000 kt (enc k)).run P w = .ok () w
  find : ∀ w k (es : List MapEntry), (∀ x ∈ es, ∃ a, x.key = enc a) →
    ((∀ x ∈ es, x.key ≠ enc k) ∧ (Instr.findKey kt (enc k) es).run P w = .ok none w) ∨
    (∃ j e, es[j]? = some e ∧ e.key = enc k ∧ (Instr.findKey kt (enc k) es).run P w = .ok (some (j, e.val)) w)
  stays : ∀ k, Instr.sameBits 10000 (enc k) (enc k) = true

theorem int_keyT {P : Program} {kt : TypeId} {q : IntKind} (hk : P.underlying kt = some (.int q)) : KeyT P kt (fun n : Int => .int q n) where
  inj := fun a b h => by simpa using h
  check := fun e w k => run_checkKey hk (by simp [IsKey]) e 9999
  find := fun w k es hes => by
    have hk' : IsKey (.int q) (.int q k) := by simp [IsKey]
    rcases findNow_spec hk' es 0 (fun x hx => by obtain ⟨a, ha⟩ := hes x hx; rw [ha]; simp [IsKey]) with ⟨h1, h2⟩ | ⟨j, e, h1, h2, h3⟩
    · exact .inl ⟨h2, run_findKey hk h1⟩
    · exact .inr ⟨j, e, h2, h3, by simpa using run_findKey hk h1⟩
  stays := fun k => by simp [Instr.sameBits]

/-- Block r is a map with these keys and values, in some order of laying. -/
def MapIs (w : World) (r : Nat) {K V : Type} (ke : K → Value) (ve : V → Value) (l : List (K × V)) : Prop :=
  ∃ es clk, w.heap[r]? = some (.map es clk) ∧ es.toList.map (fun (e : MapEntry) => (e.key, e.val)) = l.map (fun (p : K × V) => (ke p.1, ve p.2)) ∧ (l.map Prod.fst).Nodup ∧
    (∀ e ∈ es.toList, e.born < clk) ∧ (es.toList.map (·.born)).Nodup
section
variable {P : Program} {K V : Type} [DecidableEq K] {ke : K → Value} {ve : V → Value} {kt et T : TypeId} {w : World} {r : Nat} {l : List (K × V)}

theorem MapIs.chg {f : List Nat} {w' : World} (h : MapIs w r ke ve l) (hc : Chg f w w') (hf : r ∉ f) : MapIs w' r ke ve l := by
  obtain ⟨es, clk, h1, h2⟩ := h
  exact ⟨es, clk, hc.obj hf h1, h2⟩
theorem MapIs.lt (h : MapIs w r ke ve l) : r < w.heap.size := by obtain ⟨es, clk, h1, _⟩ := h; exact lt_of_heap h1
theorem MapIs.new (w : World) : MapIs (w.alloc (.map #[] 0)) w.size ke ve ([] : List (K × V)) := ⟨#[], 0, heap_new w _, rfl, by simp, by simp, by simp⟩

/-- What a list of pairs has at a key. -/
def lookK (k : K) (l : List (K × V)) : Option V := (l.find? (fun p => p.1 = k)).map Prod.snd

theorem lookK_at {l : List (K × V)} (hn : (l.map Prod.fst).Nodup) {j : Nat} {k : K} {v : V} (h : l[j]? = some (k, v)) : lookK k l = some v := by
  induction l generalizing j with
  | nil => simp at h
  | cons p l ih =>
    simp only [List.map_cons, List.nodup_cons] at hn
    cases j with
    | zero => simp at h; subst h; simp [lookK]
    | succ j =>
      simp at h
      have hm : k ∈ l.map Prod.fst := List.mem_map.2 ⟨(k, v), List.mem_of_getElem? h, rfl⟩
      have hne : p.1 ≠ k := fun e => hn.1 (e ▸ hm)
      have := ih hn.2 h
      unfold lookK at this ⊢
      rw [List.find?_cons_of_neg (by simpa using hne)]; exact this

theorem find_at (hK : KeyT P kt ke) {es : Array MapEntry} (hn : (l.map Prod.fst).Nodup) (he : es.toList.map (fun (e : MapEntry) => (e.key, e.val)) = l.map (fun (p : K × V) => (ke p.1, ve p.2))) (k : K) :
    (lookK k l = none ∧ (∀ p ∈ l, p.1 ≠ k) ∧ (Instr.findKey kt (ke k) es.toList).run P w = .ok none w) ∨
    (∃ j v, lookK k l = some v ∧ l[j]? = some (k, v) ∧ (∃ e, es.toList[j]? = some e ∧ e.key = ke k) ∧ (Instr.findKey kt (ke k) es.toList).run P w = .ok (some (j, ve v)) w) := by
  have hkeys : ∀ x ∈ es.toList, ∃ a, x.key = ke a := fun x hx => by
    have hm : (x.key, x.val) ∈ l.map (fun (p : K × V) => (ke p.1, ve p.2)) := he ▸ List.mem_map.2 ⟨x, hx, rfl⟩
    obtain ⟨p, _, hp⟩ := List.mem_map.1 hm
    exact ⟨p.1, (congrArg Prod.fst hp).symm⟩
  have hget : ∀ (j : Nat) (e : MapEntry), es.toList[j]? = some e → ∃ p : K × V, l[j]? = some p ∧ e.key = ke p.1 ∧ e.val = ve p.2 := fun j e hj => by
    have h1 : (es.toList.map (fun (e : MapEntry) => (e.key, e.val)))[j]? = some (e.key, e.val) := by rw [List.getElem?_map, hj]; rfl
    rw [he, List.getElem?_map] at h1
    cases hl : l[j]? with
    | none => rw [hl] at h1; cases h1
    | some p => rw [hl] at h1; simp at h1; exact ⟨p, rfl, h1.1.symm, h1.2.symm⟩
  rcases hK.find w k es.toList hkeys with ⟨h1, h2⟩ | ⟨j, e, hj, hek, h2⟩
  · left
    have hno : ∀ p ∈ l, p.1 ≠ k := fun p hp e => by
      have hm : (ke p.1, ve p.2) ∈ es.toList.map (fun (e : MapEntry) => (e.key, e.val)) := he ▸ List.mem_map.2 ⟨p, hp, rfl⟩
      obtain ⟨x, hx, hxe⟩ := List.mem_map.1 hm
      exact h1 x hx ((congrArg Prod.fst hxe).trans (by rw [e]))
    refine ⟨?_, hno, h2⟩
    unfold lookK
    rw [List.find?_eq_none.2 (by simpa using hno)]; rfl
  · right
    obtain ⟨p, hp, hpk, hpv⟩ := hget j e hj
    have hk : p.1 = k := hK.inj _ _ (by rw [← hpk, hek])
    have h2' : (Instr.findKey kt (ke k) es.toList).run P w = .ok (some (j, ve p.2)) w := by rw [h2, hpv]
    have hl : l[j]? = some (k, p.2) := by rw [hp, ← hk]
    exact ⟨j, p.2, lookK_at hn hl, hl, ⟨e, hj, hek⟩, h2'⟩

theorem MapIs.lookup (h : MapIs w r ke ve l) (hm : P.underlying T = some (.map kt et)) (hK : KeyT P kt ke) {z : Value} (hz : ∀ w, (zeroValue et).run P w = .ok z w) (k : K) (ok : Bool) :
    (Instr.lookup T (.map (some r)) (ke k) ok).run P w = .ok (if ok then .tuple #[((lookK k l).map ve).getD z, .bool (lookK k l).isSome] else ((lookK k l).map ve).getD z) w := by
  obtain ⟨es, clk, hb, he, hn, _⟩ := h
  rcases find_at (w := w) hK hn he k with ⟨h1, _, h2⟩ | ⟨j, v, h1, _, _, h2⟩
  · simp [Instr.lookup, run_underlying hm, MapKept.run_getObj_map hb, hK.check, h2, hz, h1, Result.andThen]
  · simp [Instr.lookup, run_underlying hm, MapKept.run_getObj_map hb, hK.check, h2, h1, Result.andThen]

/-- The pairs behind an update. -/
def upd (k : K) (v : V) (l : List (K × V)) : List (K × V) := if (lookK k l).isSome then l.map (fun p => if p.1 = k then (k, v) else p) else l ++ [(k, v)]
def del (k : K) (l : List (K × V)) : List (K × V) := l.filter (fun p => p.1 ≠ k)

theorem lookK_none {l : List (K × V)} {k : K} : lookK k l = none ↔ ∀ p ∈ l, p.1 ≠ k := by simp [lookK]
theorem lookK_mem {l : List (K × V)} {k : K} {v : V} (h : lookK k l = some v) : (k, v) ∈ l := by
  unfold lookK at h
  cases hf : l.find? (fun p => decide (p.1 = k)) with
  | none => rw [hf] at h; cases h
  | some p =>
    rw [hf] at h
    have h1 := List.find?_some hf
    have h2 := List.mem_of_find?_eq_some hf
    simp at h h1
    obtain ⟨a, b⟩ := p
    simp at h h1; subst h h1; exact h2
theorem lookK_iff {l : List (K × V)} (hn : (l.map Prod.fst).Nodup) {k : K} {v : V} : lookK k l = some v ↔ (k, v) ∈ l := by
  refine ⟨lookK_mem, fun h => ?_⟩
  obtain ⟨j, hj⟩ := List.getElem?_of_mem h
  exact lookK_at hn hj
theorem lookK_nil (k : K) : lookK k ([] : List (K × V)) = none := rfl
theorem lookK_cons (k : K) (p : K × V) (l : List (K × V)) : lookK k (p :: l) = if p.1 = k then some p.2 else lookK k l := by
  unfold lookK; simp only [List.find?_cons]; by_cases h : p.1 = k <;> simp [h]
theorem lookK_append (k : K) (l m : List (K × V)) : lookK k (l ++ m) = (lookK k l).or (lookK k m) := by
  induction l with
  | nil => simp [lookK_nil]
  | cons p l ih => simp only [List.cons_append, lookK_cons, ih]; split <;> simp
theorem lookK_upd (k k' : K) (v : V) (l : List (K × V)) : lookK k' (upd k v l) = if k' = k then some v else lookK k' l := by
  unfold upd
  by_cases hs : (lookK k l).isSome
  · simp only [hs, if_true]
    have : ∀ (l : List (K × V)), lookK k' (l.map (fun p => if p.1 = k then (k, v) else p)) = if k' = k then (lookK k l).map (fun _ => v) else lookK k' l := by
      intro l
      induction l with
      | nil => simp [lookK_nil]
      | cons p l ih =>
        simp only [List.map_cons, lookK_cons, ih]
        by_cases h1 : p.1 = k <;> by_cases h2 : k' = k
        · subst h2; simp [h1]
        · simp [h1, h2, Ne.symm h2]
        · subst h2; simp [h1]
        · simp [h1, h2]
    rw [this]
    obtain ⟨u, hu⟩ := Option.isSome_iff_exists.1 hs
    simp [hu]
  · have hs' : lookK k l = none := by simpa using hs
    simp only [hs', Option.isSome_none, Bool.false_eq_true, if_false]
    rw [lookK_append, lookK_cons, lookK_nil]
    by_cases h2 : k' = k
    · subst h2; simp [hs']
    · simp [h2, Ne.symm h2]
theorem lookK_del (k k' : K) (l : List (K × V)) : lookK k' (del k l) = if k' = k then none else lookK k' l := by
  induction l with
  | nil => simp [del, lookK_nil]
  | cons p l ih =>
    unfold del at ih ⊢
    by_cases h1 : p.1 = k
    · rw [List.filter_cons_of_neg (by simpa using h1), ih, lookK_cons]
      by_cases h2 : k' = k
      · simp [h2]
      · have h3 : p.1 ≠ k' := fun e => h2 (e.symm.trans h1)
        simp [h2, h3]
    · rw [List.filter_cons_of_pos (by simpa using h1), lookK_cons, lookK_cons, ih]
      by_cases h2 : k' = k
      · simp [h2, h1]
      · simp [h2]
theorem keys_upd (k : K) (v : V) (l : List (K × V)) : (upd k v l).map Prod.fst = if (lookK k l).isSome then l.map Prod.fst else l.map Prod.fst ++ [k] := by
  unfold upd
  split
  · rw [List.map_map]; apply List.map_congr_left; intro p _; simp only [Function.comp]; split <;> simp_all
  · simp
theorem nodup_upd {l : List (K × V)} (hn : (l.map Prod.fst).Nodup) (k : K) (v : V) : ((upd k v l).map Prod.fst).Nodup := by
  rw [keys_upd]
  split
  · exact hn
  · rename_i h
    rw [List.nodup_append]
    refine ⟨hn, by simp, fun a ha b hb e => ?_⟩
    simp at hb; subst hb; subst e
    obtain ⟨p, hp, hpe⟩ := List.mem_map.1 ha
    exact (lookK_none.1 (by simpa using h)) p hp hpe
theorem nodup_del {l : List (K × V)} (hn : (l.map Prod.fst).Nodup) (k : K) : ((del k l).map Prod.fst).Nodup := hn.sublist (List.filter_sublist.map _)

theorem MapIs.update (h : MapIs w r ke ve l) (hm : P.underlying T = some (.map kt et)) (hK : KeyT P kt ke) (k : K) (v : V) :
    ∃ w', (Instr.mapUpdate T (.map (some r)) (ke k) (ve v)).run P w = .ok () w' ∧ Chg [r] w w' ∧ w'.heap.size = w.heap.size ∧ MapIs w' r ke ve (upd k v l) := by
  obtain ⟨es, clk, hb, he, hn, hbn, hbd⟩ := h
  rcases find_at (w := w) hK hn he k with ⟨h1, h3, h2⟩ | ⟨j, v0, h1, hlj, ⟨e, hej, hek⟩, h2⟩
  · refine ⟨{ w with heap := w.heap.setIfInBounds r (.map (es.push { key := ke k, val := ve v, born := clk }) (clk + 1)) }, by simp [Instr.mapUpdate, run_underlying hm, MapKept.run_getObj_map hb, hK.check, h2, MapKept.run_setObj_map _ hb, Result.andThen], Chg.put, by simp, _, _, (MapKept.heap_set hb).1, ?_, nodup_upd hn k v, ?_, ?_⟩
    · simp [upd, h1, he]
    · intro x hx
      simp only [Array.toList_push, List.mem_append, List.mem_singleton] at hx
      rcases hx with hx | rfl
      · exact Nat.lt_succ_of_lt (hbn x hx)
      · exact Nat.lt_succ_self _
    · simp only [Array.toList_push, List.map_append, List.map_cons, List.map_nil]
      rw [List.nodup_append]
      refine ⟨hbd, by simp, fun a ha b hb e => ?_⟩
      simp at hb; subst hb; subst e
      obtain ⟨x, hx, hxe⟩ := List.mem_map.1 ha
      exact Nat.lt_irrefl _ (hxe ▸ hbn x hx)
  · have hj : es[j]? = some e := by simpa using hej
    have hkeep : (Instr.keyThatStays (ke k) (ke k)).run P w = .ok (ke k) w := by simp [Instr.keyThatStays, hK.stays]
    have hb' : (es.modify j fun e => { e with key := ke k, val := ve v }).toList.map (·.born) = es.toList.map (·.born) := by
      rw [Array.toList_modify]
      refine List.ext_getElem? fun i => ?_
      simp only [List.getElem?_map, List.getElem?_modify]
      by_cases h : j = i <;> simp [h]
      cases es[i]? <;> rfl
    refine ⟨{ w with heap := w.heap.setIfInBounds r (.map (es.modify j fun e => { e with key := ke k, val := ve v }) clk) }, by simp [Instr.mapUpdate, run_underlying hm, MapKept.run_getObj_map hb, hK.check, h2, hj, hek, hkeep, MapKept.run_setObj_map _ hb, Result.andThen], Chg.put, by simp, _, _, (MapKept.heap_set hb).1, ?_, nodup_upd hn k v, ?_, ?_⟩
    · have hup : upd k v l = l.map (fun p => if p.1 = k then (k, v) else p) := by simp [upd, h1]
      rw [hup, List.map_map, Array.toList_modify]
      refine List.ext_getElem? fun i => ?_
      have hi := congrArg (fun t : List (Value × Value) => t[i]?) he
      simp only [List.getElem?_map] at hi
      simp only [List.getElem?_map, List.getElem?_modify]
      by_cases hji : j = i
      · subst hji
        simp [hlj, hej]
      · simp only [hji, if_false]
        cases hl : l[i]? with
        | none => rw [hl] at hi; simpa [hl] using hi
        | some p =>
          have hpk : p.1 ≠ k := fun e => by
            have : (l.map Prod.fst)[i]? = (l.map Prod.fst)[j]? := by simp [hl, hlj, e]
            have hlt : i < (l.map Prod.fst).length := by
              have := (List.getElem?_eq_some_iff.1 hl).1
              simpa using this
            exact hji ((List.getElem?_inj hlt hn).1 this).symm
          rw [hl] at hi
          simpa [hl, hpk] using hi
    · intro x hx
      have hm : x.born ∈ es.toList.map (·.born) := hb' ▸ List.mem_map.2 ⟨x, hx, rfl⟩
      obtain ⟨y, hy, hye⟩ := List.mem_map.1 hm
      exact hye ▸ hbn y hy
    · rw [hb']; exact hbd

theorem MapIs.delete (h : MapIs w r ke ve l) (hm : P.underlying T = some (.map kt et)) (hK : KeyT P kt ke) (k : K) {ty : TypeId} :
    ∃ w', (Builtin.delete_ #[T, kt] ty #[.map (some r), ke k]).run P w = .ok (.tuple #[]) w' ∧ Chg [r] w w' ∧ w'.heap.size = w.heap.size ∧ MapIs w' r ke ve (del k l) := by
  obtain ⟨es, clk, hb, he, hn, hbn, hbd⟩ := h
  rcases find_at (w := w) hK hn he k with ⟨h1, h3, h2⟩ | ⟨j, v0, h1, hlj, ⟨e, hej, hek⟩, h2⟩
  · refine ⟨{ w with heap := w.heap.setIfInBounds r (.map es clk) }, by simp [Builtin.delete_, run_underlying hm, MapKept.run_getObj_map hb, hK.check, h2, MapKept.run_setObj_map _ hb, Result.andThen], Chg.put, by simp, _, _, (MapKept.heap_set hb).1, ?_, nodup_del hn k, hbn, hbd⟩
    rw [he]
    have : del k l = l := by unfold del; exact List.filter_eq_self.2 (by simpa using h3)
    rw [this]
  · have hjlt : j < es.size := by simpa using (List.getElem?_eq_some_iff.1 hej).1
    have het : (es.eraseIdxIfInBounds j).toList = es.toList.eraseIdx j := by
      unfold Array.eraseIdxIfInBounds
      simp [hjlt, Array.toList_eraseIdx]
    refine ⟨{ w with heap := w.heap.setIfInBounds r (.map (es.eraseIdxIfInBounds j) clk) }, by simp [Builtin.delete_, run_underlying hm, MapKept.run_getObj_map hb, hK.check, h2, MapKept.run_setObj_map _ hb, Result.andThen], Chg.put, by simp, _, _, (MapKept.heap_set hb).1, ?_, nodup_del hn k, ?_, ?_⟩
    · rw [het]
      have hd : del k l = l.eraseIdx j := by
        clear he hbn hbd hek hej h2 hjlt het hb h1
        unfold del
        induction l generalizing j with
        | nil => simp at hlj
        | cons p l ih =>
          simp only [List.map_cons, List.nodup_cons] at hn
          cases j with
          | zero =>
            simp at hlj; subst hlj
            rw [List.filter_cons_of_neg (by simp)]
            simp only [List.eraseIdx_cons_zero]
            refine List.filter_eq_self.2 fun q hq => ?_
            simp only [ne_eq, decide_not, Bool.not_eq_eq_eq_not, Bool.not_true, decide_eq_false_iff_not]
            intro e; exact hn.1 (List.mem_map.2 ⟨q, hq, e⟩)
          | succ j =>
            simp at hlj
            have hm : k ∈ l.map Prod.fst := List.mem_map.2 ⟨(k, v0), List.mem_of_getElem? hlj, rfl⟩
            have hne : p.1 ≠ k := fun e => hn.1 (e ▸ hm)
            rw [List.filter_cons_of_pos (by simpa using hne), List.eraseIdx_cons_succ, ih hn.2 j hlj]
      rw [hd]
      have h5 : ∀ {α β : Type} (f : α → β) (m : List α) (i : Nat), (m.eraseIdx i).map f = (m.map f).eraseIdx i := by
        intro α β f m
        induction m with
        | nil => intro i; rfl
        | cons x m ih => intro i; cases i <;> simp [ih]
      rw [h5, h5, he]
    · intro x hx
      rw [het] at hx
      exact hbn x ((List.eraseIdx_sublist _ _).subset hx)
    · rw [het]; exact hbd.sublist ((List.eraseIdx_sublist _ _).map _)

end
end Go.X
end

/- XIter -/
section
/- Going over a map: the engine's rule for an entry; what the steps yield, by the kit's laws. -/
set_option linter.unusedVariables false
set_option linter.unusedSimpArgs false
set_option linter.unusedSectionVars false
namespace Go.X
open Go Go.RowKit Go.MapKept Go.ChangeMaps
section
variable {P : Program} {N : Nat} {D : List Deferred} {E : Env} {w w' : World} {d : Option Nat} {T : TypeId} {p : String} {af : Array Edge} {g : Option (Nat × Bool)} {S : World → Prop} {v : Value}
theorem Rd.entry {x : Operand} {vx : Value} (hx : opd E x = some vx) (hl : ∀ w, S w → (Instr.entry vx).run P w = .ok v w) : Rd P N D E ⟨d, .entry x, T, p, af, g⟩ v S := fun a ha w hS => by
  simp [execOp, ha.eval hx, hl w hS]
end

section
variable {P : Program} {K V : Type} [DecidableEq K] {ke : K → Value} {ve : V → Value} {kt et T : TypeId} {w w' : World} {it m : Nat} {l done : List (K × V)}
/-- An iterator over a map that reads as l; the pairs that it has yielded, in order. -/
def IterAt (w : World) (it m : Nat) (ke : K → Value) (ve : V → Value) (l done : List (K × V)) : Prop :=
  ∃ (es : Array MapEntry) (clk since c0 : Nat) (seen : Array Nat) (ds : List MapEntry), w.heap[it]? = some (.mapIter (some m) since seen c0) ∧ since ≤ c0 ∧ since ≤ clk ∧ w.heap[m]? = some (.map es clk) ∧ (∀ x ∈ es.toList, x.born < since) ∧
    es.toList.map (fun (e : MapEntry) => (e.key, e.val)) = l.map (fun (p : K × V) => (ke p.1, ve p.2)) ∧ (l.map Prod.fst).Nodup ∧ (es.toList.map (·.born)).Nodup ∧
    ds.map (·.born) = seen.toList ∧ (∀ d ∈ ds, d ∈ es.toList) ∧ ds.map (fun (e : MapEntry) => (e.key, e.val)) = done.map (fun (p : K × V) => (ke p.1, ve p.2)) ∧ (∀ x ∈ done, x ∈ l) ∧ (done.map Prod.fst).Nodup
theorem IterAt.chg {f : List Nat} (h : IterAt w it m ke ve l done) (hc : Chg f w w') (h1 : it ∉ f) (h2 : m ∉ f) : IterAt w' it m ke ve l done := by
  obtain ⟨es, clk, since, c0, seen, ds, a, b, b', c, rest⟩ := h
  exact ⟨es, clk, since, c0, seen, ds, hc.obj h1 a, b, b', hc.obj h2 c, rest⟩
theorem iter_range (h : MapIs w m ke ve l) (hm : P.underlying T = some (.map kt et)) :
    ∃ it w', (Instr.range T (.map (some m))).run P w = .ok (.pointer (some ⟨it, 0, none⟩)) w' ∧ Chg [] w w' ∧ it = w.heap.size ∧ IterAt w' it m ke ve l [] := by
  obtain ⟨es, clk, hb, he, hn, hbn, hbd⟩ := h
  refine ⟨w.heap.size, w.alloc (.mapIter (some m) clk #[] clk), ?_, Chg.alloc _ _, rfl, es, clk, clk, clk, #[], [], heap_new w _, Nat.le_refl _, Nat.le_refl _, (Chg.alloc w _).obj (by simp) hb, hbn, he, hn, hbd, rfl, by simp, rfl, by simp, by simp⟩
  simp [Instr.range, run_underlying hm, MapKept.run_getObj_map hb, newObj, Result.andThen]
  rfl
theorem iter_next (h : IterAt w it m ke ve l done) (hne : it ≠ m) (hinj : ∀ a b, ke a = ke b → a = b) (ty : TypeId) :
    ((Instr.next (.pointer (some ⟨it, 0, none⟩)) false ty).run P w = .ok (.tuple #[.bool false]) w ∧ ∀ x ∈ l, x ∈ done) ∨
    (∃ (k : K) (v : V) (w' : World), (k, v) ∈ l ∧ k ∉ done.map Prod.fst ∧ (Instr.next (.pointer (some ⟨it, 0, none⟩)) false ty).run P w = .ok (.tuple #[.bool true, ke k, ve v]) w' ∧ Chg [it] w w' ∧
      IterAt w' it m ke ve l (done ++ [(k, v)]) ∧ (Instr.entry (.pointer (some ⟨it, 0, none⟩))).run P w' = .ok (.tuple #[ke k, ve v]) w') := by
  obtain ⟨es, clk, since, c0, seen, ds, h1, h2, h2', h3, h4, h5, h6, h7, h8, h9, h10, h11, h12⟩ := h
  have keyuniq : ∀ e ∈ es.toList, ∀ e' ∈ es.toList, e.key = e'.key → e = e' := by
    intro e he e' he' hk
    obtain ⟨i, hi⟩ := List.getElem?_of_mem he
    obtain ⟨j, hj⟩ := List.getElem?_of_mem he'
    have pi : (l.map (fun (p : K × V) => (ke p.1, ve p.2)))[i]? = some (e.key, e.val) := by rw [← h5, List.getElem?_map, hi]; rfl
    have pj : (l.map (fun (p : K × V) => (ke p.1, ve p.2)))[j]? = some (e'.key, e'.val) := by rw [← h5, List.getElem?_map, hj]; rfl
    rw [List.getElem?_map] at pi pj
    cases li : l[i]? with
    | none => rw [li] at pi; cases pi
    | some a =>
      cases lj : l[j]? with
      | none => rw [lj] at pj; cases pj
      | some b =>
        rw [li] at pi; rw [lj] at pj
        simp at pi pj
        have hab : a.1 = b.1 := hinj _ _ (by rw [pi.1, pj.1, hk])
        have e1 : (l.map Prod.fst)[i]? = (l.map Prod.fst)[j]? := by simp [li, lj, hab]
        have hlt : i < (l.map Prod.fst).length := by have := (List.getElem?_eq_some_iff.1 li).1; simpa using this
        have := (List.getElem?_inj hlt h6).1 e1
        subst this
        rw [hi] at hj; cases hj; rfl
  rcases run_next_at (P := P) w ty it m since c0 seen es clk h1 h3 h4 h2 with ⟨k1, k2⟩ | ⟨e, he, w1, hw1, hrun⟩
  · left
    refine ⟨k2, fun x hx => ?_⟩
    have hx' : (ke x.1, ve x.2) ∈ es.toList.map (fun (e : MapEntry) => (e.key, e.val)) := h5 ▸ List.mem_map.2 ⟨x, hx, rfl⟩
    obtain ⟨e, he, hee⟩ := List.mem_map.1 hx'
    have hseen : e.born ∈ seen.toList := by
      refine Classical.byContradiction fun hn => ?_
      have hl : e ∈ (leftOf es seen) := by
        unfold leftOf
        rw [Array.mem_filter]
        exact ⟨by simpa using he, by simpa using hn⟩
      have := Array.size_pos_of_mem hl
      omega
    rw [← h8] at hseen
    obtain ⟨d, hd, hde⟩ := List.mem_map.1 hseen
    have hdd : (d.key, d.val) ∈ done.map (fun (p : K × V) => (ke p.1, ve p.2)) := h10 ▸ List.mem_map.2 ⟨d, hd, rfl⟩
    obtain ⟨y, hy, hye⟩ := List.mem_map.1 hdd
    have hborn : d = e := by
      obtain ⟨i, hi⟩ := List.getElem?_of_mem (h9 d hd)
      obtain ⟨j, hj⟩ := List.getElem?_of_mem he
      have e1 : (es.toList.map (·.born))[i]? = (es.toList.map (·.born))[j]? := by rw [List.getElem?_map, List.getElem?_map, hi, hj]; simp [hde]
      have hlt : i < (es.toList.map (·.born)).length := by have := (List.getElem?_eq_some_iff.1 hi).1; simpa using this
      have := (List.getElem?_inj hlt h7).1 e1
      subst this
      rw [hi] at hj; cases hj; rfl
    have hk : y.1 = x.1 := hinj _ _ ((congrArg Prod.fst hye).trans (by rw [hborn]; exact congrArg Prod.fst hee))
    have hyl := h11 y hy
    have hxy : y = x := by
      have a1 : lookK y.1 l = some y.2 := (lookK_iff h6).2 hyl
      have a2 : lookK x.1 l = some x.2 := (lookK_iff h6).2 hx
      rw [hk, a2] at a1
      exact Prod.ext hk (by simpa using a1.symm)
    rw [← hxy]; exact hy
  · right
    have he' : e ∈ es.toList ∧ e.born ∉ seen.toList := by
      unfold leftOf at he
      simpa using he
    have hm : (e.key, e.val) ∈ l.map (fun (p : K × V) => (ke p.1, ve p.2)) := h5 ▸ List.mem_map.2 ⟨e, he'.1, rfl⟩
    obtain ⟨⟨k, v⟩, hkl, hkv⟩ := List.mem_map.1 hm
    simp only [Prod.mk.injEq] at hkv
    obtain ⟨hk, hv⟩ := hkv
    have hnew : k ∉ done.map Prod.fst := by
      intro hmem
      obtain ⟨y, hy, rfl⟩ := List.mem_map.1 hmem
      have hyd : (ke y.1, ve y.2) ∈ ds.map (fun (e : MapEntry) => (e.key, e.val)) := h10 ▸ List.mem_map.2 ⟨y, hy, rfl⟩
      obtain ⟨d, hd, hde⟩ := List.mem_map.1 hyd
      have := keyuniq d (h9 d hd) e he'.1 ((congrArg Prod.fst hde).trans hk)
      subst this
      exact he'.2 (h8 ▸ List.mem_map.2 ⟨d, hd, rfl⟩)
    have hw1' : Chg [] w w1 := by rcases hw1 with rfl | rfl; exact Chg.refl _ _; exact Chg.drew _
    have hput : Chg [it] w1 (setBlock w1 it (.mapIter (some m) since (seen.push e.born) clk)) := Chg.put
    have hit1 := hw1'.obj (by simp) h1
    have hm1 := hw1'.obj (by simp) h3
    have hit2 : (setBlock w1 it (.mapIter (some m) since (seen.push e.born) clk)).heap[it]? = some (.mapIter (some m) since (seen.push e.born) clk) := (MapKept.heap_set hit1).1
    have hm2 := hput.obj (by simpa using Ne.symm hne) hm1
    refine ⟨k, v, _, hkl, hnew, by rw [hk, hv]; exact hrun, hw1'.nil.trans hput (fun _ h _ => h), ?_, ?_⟩
    · refine ⟨es, clk, since, clk, seen.push e.born, ds ++ [e], hit2, h2', h2', hm2, h4, h5, h6, h7, by simp [h8], fun d hd => ?_, by simp [h10, hk, hv], fun x hx => ?_, ?_⟩
      · rcases List.mem_append.1 hd with hd | hd
        · exact h9 d hd
        · simp at hd; rw [hd]; exact he'.1
      · rcases List.mem_append.1 hx with hx | hx
        · exact h11 x hx
        · simp at hx; rw [hx]; exact hkl
      · rw [List.map_append, List.nodup_append]
        refine ⟨h12, by simp, fun a ha b hb e => ?_⟩
        simp at hb; subst hb; subst e; exact hnew ha
    · rw [hk, hv]
      exact run_entry_at _ it m since seen es clk e hit2 hm2 he'.1 h7
end
theorem nodup_sub_length {α : Type} : ∀ {a b : List α}, a.Nodup → (∀ x ∈ a, x ∈ b) → a.length ≤ b.length
  | [], _, _, _ => Nat.zero_le _
  | x :: a, b, h, hs => by
    obtain ⟨s, t, rfl⟩ := List.append_of_mem (hs x (.head _))
    have := nodup_sub_length (a := a) (b := s ++ t) (List.nodup_cons.1 h).2 (fun y hy => by
      have h1 := hs y (.tail _ hy)
      have hne : y ≠ x := fun e => (List.nodup_cons.1 h).1 (e ▸ hy)
      simp only [List.mem_append, List.mem_cons] at h1 ⊢
      rcases h1 with h1 | h1 | h1
      · exact .inl h1
      · exact absurd h1 hne
      · exact .inr h1)
    simp at this ⊢; omega
/-- How many an iterator has yielded. -/
def seenN (w : World) (it : Nat) : Nat := match w.heap[it]? with | some (.mapIter _ _ seen _) => seen.size | _ => 0
theorem IterAt.count {K V : Type} [DecidableEq K] {ke : K → Value} {ve : V → Value} {w : World} {it m : Nat} {l done : List (K × V)} (h : IterAt w it m ke ve l done) : seenN w it = done.length := by
  obtain ⟨es, clk, since, c0, seen, ds, h1, h2, h2', h3, h4, h5, h6, h7, h8, h9, h10, h11, h12⟩ := h
  unfold seenN
  rw [h1]
  have a := congrArg List.length h8
  have b := congrArg List.length h10
  simp at a b
  simp only []
  omega
theorem IterAt.more {K V : Type} [DecidableEq K] {ke : K → Value} {ve : V → Value} {w : World} {it m : Nat} {l done : List (K × V)} (h : IterAt w it m ke ve l done) {k : K} {v : V} (hk : (k, v) ∈ l) (hn : k ∉ done.map Prod.fst) : done.length < l.length := by
  obtain ⟨es, clk, since, c0, seen, ds, h1, h2, h2', h3, h4, h5, h6, h7, h8, h9, h10, h11, h12⟩ := h
  have := nodup_sub_length (a := k :: done.map Prod.fst) (b := l.map Prod.fst) (List.nodup_cons.2 ⟨hn, h12⟩) (fun x hx => by
    rcases List.mem_cons.1 hx with rfl | hx
    · exact List.mem_map.2 ⟨_, hk, rfl⟩
    · obtain ⟨y, hy, rfl⟩ := List.mem_map.1 hx
      exact List.mem_map.2 ⟨y, h11 y hy, rfl⟩)
  simp at this; omega
theorem IterAt.sub {K V : Type} [DecidableEq K] {ke : K → Value} {ve : V → Value} {w : World} {it m : Nat} {l done : List (K × V)} (h : IterAt w it m ke ve l done) : (∀ x ∈ done, x ∈ l) ∧ (done.map Prod.fst).Nodup ∧ (l.map Prod.fst).Nodup := by
  obtain ⟨es, clk, since, c0, seen, ds, h1, h2, h2', h3, h4, h5, h6, h7, h8, h9, h10, h11, h12⟩ := h
  exact ⟨h11, h12, h6⟩
/-- At the end all has been yielded. -/
theorem IterAt.end_look {K V : Type} [DecidableEq K] {ke : K → Value} {ve : V → Value} {w : World} {it m : Nat} {l done : List (K × V)} (h : IterAt w it m ke ve l done) (ha : ∀ x ∈ l, x ∈ done) (k : K) : lookK k done = lookK k l := by
  obtain ⟨h1, h2, h3⟩ := h.sub
  cases hd : lookK k done with
  | some v => exact ((lookK_iff h3).2 (h1 _ ((lookK_iff h2).1 hd))).symm
  | none =>
    cases hl : lookK k l with
    | none => rfl
    | some v => rw [(lookK_iff h2).2 (ha _ ((lookK_iff h3).1 hl))] at hd; cases hd
theorem mem_upd {K V : Type} [DecidableEq K] {k : K} {v : V} {l : List (K × V)} {x : K × V} (h : x ∈ upd k v l) : x = (k, v) ∨ x ∈ l := by
  unfold upd at h
  split at h
  · obtain ⟨y, hy, e⟩ := List.mem_map.1 h
    split at e
    · exact .inl e.symm
    · exact .inr (e ▸ hy)
  · rcases List.mem_append.1 h with h | h
    · exact .inr h
    · simp at h; exact .inl h
end Go.X
end

/- XRow -/
section
/- Rows that one owns, appends to them; rules for what the printed conditions say at each step. -/
set_option linter.unusedVariables false
set_option linter.unusedSimpArgs false
set_option linter.unusedSectionVars false
namespace Go.X
open Go Go.RowKit

/-- The slice p, n, c is a row of its own with these cells. -/
def RowAt (w : World) (e : TypeId) (size : Nat) (p : Option Addr) (n c : Nat) (xs : List Value) : Prop := w.ownsRow 0 e size (.slice p n c) n xs
def rowB (p : Option Addr) : List Nat := p.toList.map (·.block)

section
variable {P : Program} {w w' : World} {e : TypeId} {size n c : Nat} {p : Option Addr} {xs : List Value}
theorem mem_rowB {p : Option Addr} {b : Nat} : b ∈ rowB p ↔ ∃ a, p = some a ∧ a.block = b := by cases p <;> simp [rowB, eq_comm]
theorem rowB_nodup (p : Option Addr) : (rowB p).Nodup := by cases p <;> simp [rowB]
theorem RowAt.lt (h : RowAt w e size p n c xs) : ∀ b ∈ rowB p, b < w.heap.size := by
  intro b hb
  obtain ⟨a, rfl, rfl⟩ := mem_rowB.1 hb
  exact (World.ownsRow.lt h _ rfl).2
theorem RowAt.chg {f : List Nat} (h : RowAt w e size p n c xs) (hc : Chg f w w') (hf : ∀ b ∈ rowB p, b ∉ f) : RowAt w' e size p n c xs := by
  refine ⟨h.1, ?_⟩
  rcases h.2 with hn | ⟨g, cap, cur, hv, hb, hg, rest⟩
  · exact .inl hn
  · cases hv
    exact .inr ⟨g, c, cur, rfl, hb, hc.obj (hf g (mem_rowB.2 ⟨_, rfl, rfl⟩)) hg, rest⟩
theorem RowAt.nil : RowAt w e size none 0 0 [] := World.ownsRow_nil w 0 e size
theorem RowAt.of_heap {b : Nat} {cs : List Value} (hb : w.heap[b]? = some (.cells cs.toArray e (0, 0))) (hs : cs.length = n * size) (hn : n ≤ maxLen) : RowAt w e size (some ⟨b, 0, none⟩) n n cs :=
  ⟨hs, .inr ⟨b, n, cs.toArray, rfl, Nat.zero_le _, hb, Nat.le_refl _, hn, by simpa using hs, by simp [← hs]⟩⟩
theorem RowAt.length (h : RowAt w e size p n c xs) : xs.length = n * size := h.1
theorem RowAt.at (h : RowAt w e size p n c xs) {j : Nat} {u : Value} (hj : xs[j]? = some u) : ∃ a, p = some a ∧ w.cell? (a.add j) = some u := by
  rcases h.2 with ⟨hn, hz⟩ | ⟨g, cap, cur, hv, hb, hg, rest⟩
  · have : xs = [] := List.eq_nil_of_length_eq_zero (by rw [h.1, hz]; simp)
    simp [this] at hj
  · cases hv
    exact ⟨_, rfl, World.ownsRow.cells (h : World.ownsRow w 0 e size _ n xs) rfl j u hj⟩

/-- An append to such a row. -/
theorem RowAt.append (h : RowAt w e size p n c xs) {t ty : TypeId} {i : TypeInfo} {z : Value} {bytes : Nat} (ht : P.underlying t = some (.slice e)) (hi : P.info? e = some i) (hz : i.zero = some z)
    (hsize : i.size = size) (hby : i.bytes = bytes) (hzs : z.cells.size = size) (hsz : 0 < size)
    {a : Addr} {m mc : Nat} {news : List Value} (hl : news.length = m * size) (hnews : ∀ j u, news[j]? = some u → w.cell? (a.add j) = some u) (h1 : ∀ u ∈ news, u.oneCell' = true)
    (h63 : n + m ≤ maxLen) (hbytes : (n + m) * bytes ≤ 140737488355328) :
    ∃ p' c' w', (Builtin.append_ #[t, t] ty #[.slice p n c, .slice (some a) m mc]).run P w = .ok (.slice p' (n + m) c') w' ∧ RowAt w' e size p' (n + m) c' (xs ++ news) ∧ Chg (rowB p) w w' ∧
      (∀ b ∈ rowB p', b ∈ rowB p ∨ w.heap.size ≤ b) := by
  obtain ⟨v', w', hr, ho, hg, hnil⟩ := run_append_own (P := P) w 0 t ty e i z size bytes ht hi hz hsize hby hzs hsz (.slice p n c) n xs h a m mc news hl hnews h1 h63 hbytes (Nat.zero_le _)
  have hchg : Chg (rowB p) w w' := ⟨hg.os, hg.tape, hg.output, hg.size, fun k hk hf => hg.block k hk (fun he => hf (by
    cases p with
    | none => simp [Value.ownBlock] at he
    | some q => simp [Value.ownBlock] at he; simp [rowB, he]))⟩
  rcases ho.2 with ⟨hv, hz0⟩ | ⟨g, cap, cur, hv, hb, hgg, rest⟩
  · subst hv
    refine ⟨none, 0, w', by rw [hr, hz0], ?_, hchg, by simp [rowB]⟩
    rw [hz0] at ho ⊢; exact ho
  · subst hv
    refine ⟨some ⟨g, 0, none⟩, cap, w', hr, ho, hchg, fun b hb => ?_⟩
    simp [rowB] at hb; subst hb
    rcases h.2 with ⟨hv, hn0⟩ | ⟨g', cap', cur', hv, _, hgg', hnc, hcm, hcs, htake⟩
    · right
      cases hv
      obtain ⟨v2, w2, hr2, ho2, _, _⟩ := run_append_own (P := P) w w.heap.size t ty e i z size bytes ht hi hz hsize hby hzs hsz (.slice none 0 0) 0 xs ⟨h.1, .inl ⟨rfl, rfl⟩⟩ a m mc news hl hnews h1 (by omega) (by simpa using hbytes) (Nat.le_refl _)
      rw [hr] at hr2
      cases hr2
      rcases ho2.2 with ⟨hv2, _⟩ | ⟨g2, _, _, hv2, hb2, _⟩
      · cases hv2
      · cases hv2; exact hb2
    · cases hv
      by_cases hroom : n + m ≤ c
      · left
        have hfit : n * i.size + news.length ≤ cur'.size := by rw [hl, hcs, hsize, ← Nat.add_mul]; exact Nat.mul_le_mul_right _ hroom
        have hr2 := run_append_room (P := P) w t ty e i ht hi g' n c cur' hgg' a m mc news (by rw [hsize]; exact hl) hnews h1 hroom hfit
        rw [hr] at hr2
        cases hr2
        simp [rowB]
      · right
        have holds : ∀ j u, xs[j]? = some u → w.cell? ((⟨g', 0, none⟩ : Addr).add j) = some u := World.ownsRow.cells (h : World.ownsRow w 0 e size _ n xs) rfl
        have hr2 := run_append_grow (P := P) w t ty e i z ht hi hz ⟨g', 0, none⟩ n c xs (by rw [hsize]; exact h.1) holds a m mc news (by rw [hsize]; exact hl) hnews (by omega)
          (by simp only [maxLen] at h63; omega) (growslice_fits (by omega) (by rw [hby]; exact hbytes))
        rw [hr] at hr2
        cases hr2
        exact Nat.le_refl _
end

/-! ### Steps of the printed conditions -/
theorem v_alloc {w : World} {o : Obj} {K : Nat → World → Prop} (h : ∀ b w', b = w.heap.size → w'.heap[b]? = some o → Chg [] w w' → K b w') :
    ∀ b, b = World.size w → ∀ w1, w1 = World.alloc w o → K b w1 := by
  rintro b rfl w1 rfl
  exact h _ _ rfl (heap_new w o) (Chg.alloc w o)
theorem v_drew {w : World} {K : World → Prop} (h : ∀ w', Chg [] w w' → K w') : ∀ w1, w1 = World.drew w → K w1 := by rintro _ rfl; exact h _ (Chg.drew w)
theorem has_of {w : World} {b : Nat} {c : Array Value} {t : TypeId} (h : w.heap[b]? = some (.cells c t (0, 0))) {o n : Nat} (hn : o + n ≤ c.size) : Has w ⟨b, o, none⟩ n := by
  intro i hi
  rw [add_at, cell_of h, Array.getElem?_eq_getElem (by omega)]
  rfl
theorem free_of' {w : World} {b : Nat} {c : Array Value} {t : TypeId} (h : w.heap[b]? = some (.cells c t (0, 0))) {o n : Nat} : Free w ⟨b, o, none⟩ n := by
  intro i hi
  rw [add_at, free_of h]
theorem setCells_all {b : Nat} {t : TypeId} {w : World} {zs vs : List Value} (hl : zs.length = vs.length) (h : w.heap[b]? = some (.cells zs.toArray t (0, 0))) :
    (setCells w ⟨b, 0, none⟩ 0 vs).heap[b]? = some (.cells vs.toArray t (0, 0)) := by
  rw [setCells_heap vs 0 w _ h]
  congr 2
  have : ∀ (vs pre zs : List Value), zs.length = vs.length → ((vs.zipIdx pre.length).foldl (fun c (x : Value × Nat) => c.setIfInBounds (0 + 0 + x.2) x.1) (pre ++ zs).toArray) = (pre ++ vs).toArray := by
    intro vs
    induction vs with
    | nil => intro pre zs h; simp at h; simp [h]
    | cons v vs ih =>
      intro pre zs h
      cases zs with
      | nil => simp at h
      | cons z zs =>
        simp only [List.zipIdx_cons, List.foldl_cons]
        have e1 : ((pre ++ z :: zs).toArray.setIfInBounds (0 + 0 + pre.length) v) = ((pre ++ [v]) ++ zs).toArray := by
          simp
        rw [e1]
        have := ih (pre ++ [v]) zs (by simpa using h)
        simpa using this
  simpa using this vs [] zs hl
theorem setCells_mid {b : Nat} {t : TypeId} {w : World} {pre zs post vs : List Value} (hl : zs.length = vs.length) (h : w.heap[b]? = some (.cells (pre ++ zs ++ post).toArray t (0, 0))) :
    (setCells w ⟨b, pre.length, none⟩ 0 vs).heap[b]? = some (.cells (pre ++ vs ++ post).toArray t (0, 0)) := by
  rw [setCells_heap vs 0 w _ h]
  congr 2
  have : ∀ (vs mid zs : List Value), zs.length = vs.length → ((vs.zipIdx mid.length).foldl (fun c (x : Value × Nat) => c.setIfInBounds (pre.length + 0 + x.2) x.1) (pre ++ (mid ++ zs) ++ post).toArray) = (pre ++ (mid ++ vs) ++ post).toArray := by
    intro vs
    induction vs with
    | nil => intro mid zs h; simp at h; simp [h]
    | cons v vs ih =>
      intro mid zs h
      cases zs with
      | nil => simp at h
      | cons z zs =>
        simp only [List.zipIdx_cons, List.foldl_cons]
        have e1 : ((pre ++ (mid ++ z :: zs) ++ post).toArray.setIfInBounds (pre.length + 0 + mid.length) v) = (pre ++ ((mid ++ [v]) ++ zs) ++ post).toArray := by
          have e2 : pre.length + 0 + mid.length = (pre ++ mid).length := by simp
          rw [e2, show pre ++ (mid ++ z :: zs) ++ post = (pre ++ mid) ++ z :: (zs ++ post) by simp, List.setIfInBounds_toArray, List.set_append_right _ _ (Nat.le_refl _)]
          simp
        rw [e1]
        have := ih (mid ++ [v]) zs (by simpa using h)
        simpa using this
  simpa using this vs [] zs hl
theorem v_box {w : World} {T : TypeId} {zs vs : List Value} {n : Nat} (hl : zs.length = vs.length) (hn : n = zs.length) {K : Nat → World → Prop}
    (h : ∀ b w', b = w.heap.size → w'.heap[b]? = some (.cells vs.toArray T (0, 0)) → Chg [] w w' → K b w') :
    ∀ b, b = World.size w → ∀ w1, w1 = World.alloc w (.cells zs.toArray T) → Has w1 (⟨b, 0, none⟩ : Addr) n ∧ Free w1 (⟨b, 0, none⟩ : Addr) n ∧ ∀ w2, w2 = setCells w1 (⟨b, 0, none⟩ : Addr) 0 vs → K b w2 := by
  rintro b rfl w1 rfl
  have hb := heap_new w (.cells zs.toArray T)
  refine ⟨has_of hb (by simp [hn]), free_of' hb, ?_⟩
  rintro w2 rfl
  refine h _ _ rfl (setCells_all hl hb) ?_
  exact (Chg.alloc w _).trans (Chg.setCells ⟨w.size, 0, none⟩ vs 0 _) (by
    intro i hi hlt
    simp at hi; subst hi
    exact absurd hlt (Nat.lt_irrefl _))
theorem cellsAt_of {w : World} {b : Nat} {t : TypeId} {fr : Nat × Nat} {cs : List Value} (h : w.heap[b]? = some (.cells cs.toArray t fr)) : CellsAt w ⟨b, 0, none⟩ 0 cs := by
  have : ∀ (pre cs : List Value), w.heap[b]? = some (.cells (pre ++ cs).toArray t fr) → CellsAt w ⟨b, 0, none⟩ pre.length cs := by
    intro pre cs
    induction cs generalizing pre with
    | nil => intro _; trivial
    | cons c cs ih =>
      intro h
      refine ⟨by rw [add_at, cell_of h]; simp, ?_⟩
      have := ih (pre ++ [c]) (by simpa using h)
      simpa using this
  exact this [] cs h
theorem v_set {w : World} {b o i : Nat} {c : Array Value} {t : TypeId} {v : Value} (h : w.heap[b]? = some (.cells c t (0, 0))) (hi : o + i < c.size) {K : World → Prop}
    (hk : ∀ w', w'.heap[b]? = some (.cells (c.setIfInBounds (o + i) v) t (0, 0)) → Chg [b] w w' → w'.heap.size = w.heap.size → K w') :
    (∃ u : Value, w.cell? ((⟨b, o, none⟩ : Addr).add i) = some u) ∧ w.frozen? ((⟨b, o, none⟩ : Addr).add i) = false ∧ ∀ w7, w7 = World.setCell w ((⟨b, o, none⟩ : Addr).add i) v → K w7 := by
  rw [add_at]
  refine ⟨⟨_, by rw [cell_of h, Array.getElem?_eq_getElem hi]⟩, free_of h _, ?_⟩
  rintro w7 rfl
  exact hk _ (set_heap h v) (Chg.setCell w ⟨b, o + i, none⟩ v) (by simp [World.setCell])
theorem v_set0 {w : World} {b o : Nat} {c : Array Value} {t : TypeId} {v : Value} (h : w.heap[b]? = some (.cells c t (0, 0))) (hi : o < c.size) {K : World → Prop}
    (hk : ∀ w', w'.heap[b]? = some (.cells (c.setIfInBounds o v) t (0, 0)) → Chg [b] w w' → w'.heap.size = w.heap.size → K w') :
    (∃ u : Value, w.cell? (⟨b, o, none⟩ : Addr) = some u) ∧ w.frozen? (⟨b, o, none⟩ : Addr) = false ∧ ∀ w7, w7 = World.setCell w (⟨b, o, none⟩ : Addr) v → K w7 := by
  have := v_set (i := 0) (K := K) h (by simpa using hi) (v := v) (by simpa using hk)
  rw [add_at] at this; exact this
end Go.X
end

/- XEq -/
section
/- Equality of small structs. -/
namespace Go.Proofs.YtfcfkhbkkfpehaaGreat
open Go.X
theorem eqS_62 {x y : Operand} (a0 a1 b0 b1 : Int) (w : World) : ((do eqGuard .eql 62 x y (.agg #[.int .i64 a0, .int .i64 a1]) (.agg #[.int .i64 b0, .int .i64 b1]); binOp .eql 62 (.agg #[.int .i64 a0, .int .i64 a1]) (.agg #[.int .i64 b0, .int .i64 b1]) : Sem Value)).run Tryz.prog w = .ok (.bool ((a0 == b0) && (a1 == b1))) w := by
  cases h0 : (a0 == b0) <;> cases h1 : (a1 == b1) <;> simp [go_sem, h0, h1]
theorem neS_62 {x y : Operand} (a0 a1 b0 b1 : Int) (w : World) : ((do eqGuard .neq 62 x y (.agg #[.int .i64 a0, .int .i64 a1]) (.agg #[.int .i64 b0, .int .i64 b1]); binOp .neq 62 (.agg #[.int .i64 a0, .int .i64 a1]) (.agg #[.int .i64 b0, .int .i64 b1]) : Sem Value)).run Tryz.prog w = .ok (.bool (!((a0 == b0) && (a1 == b1)))) w := by
  cases h0 : (a0 == b0) <;> cases h1 : (a1 == b1) <;> simp [go_sem, h0, h1]
theorem eqS_37 {x y : Operand} (a0 a1 b0 b1 : Int) (w : World) : ((do eqGuard .eql 37 x y (.agg #[.int .i64 a0, .int .i64 a1]) (.agg #[.int .i64 b0, .int .i64 b1]); binOp .eql 37 (.agg #[.int .i64 a0, .int .i64 a1]) (.agg #[.int .i64 b0, .int .i64 b1]) : Sem Value)).run Tryz.prog w = .ok (.bool ((a0 == b0) && (a1 == b1))) w := by
  cases h0 : (a0 == b0) <;> cases h1 : (a1 == b1) <;> simp [go_sem, h0, h1]
end Go.Proofs.YtfcfkhbkkfpehaaGreat
end

/- XTypes -/
section
/- Facts of the seat's types. -/
set_option linter.unusedVariables false
set_option linter.unusedSimpArgs false
namespace Go.Proofs.YtfcfkhbkkfpehaaGreat
open Go Go.RowKit Go.X Go.MapKept
theorem u198 : Tryz.prog.underlying 147 = some (.map 22 3) := by kernel_rfl
theorem u143 : Tryz.prog.underlying 99 = some (.map 62 22) := by kernel_rfl
theorem u173 : Tryz.prog.underlying 156 = some (.map 3 162) := by kernel_rfl
theorem keyU32 : KeyT Tryz.prog 22 (fun n : Int => .int .u32 n) := int_keyT (by kernel_rfl)
theorem keyInt : KeyT Tryz.prog 3 (fun n : Int => .int .i64 n) := int_keyT (by kernel_rfl)
theorem zero22 (w : World) : (zeroValue 22).run Tryz.prog w = .ok (.int .u32 0) w := by simp [go_sem, zeroValue]; rfl
theorem zero3 (w : World) : (zeroValue 3).run Tryz.prog w = .ok (.int .i64 0) w := by simp [go_sem, zeroValue]; rfl
theorem zero174 (w : World) : (zeroValue 162).run Tryz.prog w = .ok (.pointer none) w := by simp [go_sem, zeroValue]; rfl
def encP (p : Int × Int) : Value := .agg #[.int .i64 p.1, .int .i64 p.2]
theorem find56 (k : Int × Int) (w : World) : ∀ (es : List MapEntry) (i : Nat), (∀ x ∈ es, ∃ a, x.key = encP a) →
    ((∀ x ∈ es, x.key ≠ encP k) ∧ (Instr.findAsking 62 (encP k) es i).run Tryz.prog w = .ok none w) ∨
    (∃ j e, es[j]? = some e ∧ e.key = encP k ∧ (Instr.findAsking 62 (encP k) es i).run Tryz.prog w = .ok (some (i + j, e.val)) w) := by
  intro es
  induction es with
  | nil => intro i _; exact .inl ⟨by simp, by simp [Instr.findAsking]⟩
  | cons e es ih =>
    intro i h
    obtain ⟨a, ha⟩ := h e (.head _)
    have heq : ∀ w, (Op.equal 62 (encP k) e.key).run Tryz.prog w = .ok ((k.1 == a.1) && (k.2 == a.2)) w := by
      intro w
      rw [ha]
      cases h0 : (k.1 == a.1) <;> cases h1 : (k.2 == a.2) <;> simp [go_sem, Op.equal, Op.maxDepth, encP, h0, h1]
    by_cases hk : k = a
    · refine .inr ⟨0, e, rfl, by rw [ha, hk], ?_⟩
      have hb : ((k.1 == a.1) && (k.2 == a.2)) = true := by simp [hk]
      simp [Instr.findAsking, heq, hb, Result.andThen]
    · have hb : ((k.1 == a.1) && (k.2 == a.2)) = false := by
        cases hq : ((k.1 == a.1) && (k.2 == a.2)) with
        | false => rfl
        | true => simp at hq; exact absurd (Prod.ext hq.1 hq.2) hk
      have hne : e.key ≠ encP k := by
        rw [ha]; intro he
        simp [encP] at he
        exact hk (Prod.ext he.1.symm he.2.symm)
      have hrun : (Instr.findAsking 62 (encP k) (e :: es) i).run Tryz.prog w = (Instr.findAsking 62 (encP k) es (i + 1)).run Tryz.prog w := by
        simp [Instr.findAsking, heq, hb, Result.andThen]
      rcases ih (i + 1) (fun x hx => h x (.tail _ hx)) with ⟨h1, h2⟩ | ⟨j, e', h1, h2, h3⟩
      · refine .inl ⟨fun x hx => ?_, hrun.trans h2⟩
        cases hx with
        | head => exact hne
        | tail _ hx => exact h1 x hx
      · exact .inr ⟨j + 1, e', by simpa using h1, h2, by rw [hrun, h3, show i + 1 + j = i + (j + 1) from by omega]⟩
theorem check56 (e : Bool) (n : Nat) (w : World) (k : Int × Int) : (Instr.checkKey e (n + 2) 62 (encP k)).run Tryz.prog w = .ok () w := by
  have hp : ∀ (t : TypeId) (x : Int), Tryz.prog.underlying t = some (.int .i64) → (Instr.checkKey e (n + 1) t (.int .i64 x)).run Tryz.prog w = .ok () w := fun t x ht => run_checkKey (d := .int .i64) ht (by simp [IsKey]) e n
  unfold Instr.checkKey encP
  simp [go_sem, hp]
theorem keyPlace : KeyT Tryz.prog 62 encP where
  inj := fun a b h => by simp [encP] at h; exact Prod.ext h.1 h.2
  check := fun e w k => by
    exact check56 e 9998 w k
  find := fun w k es hes => by
    rw [run_findKey_eq w (k := 62) (P := Tryz.prog) (by kernel_rfl)]
    rcases find56 k w es 0 hes with h | ⟨j, e, h1, h2, h3⟩
    · exact .inl h
    · exact .inr ⟨j, e, h1, h2, by simpa using h3⟩
  stays := fun k => by
    show Instr.sameBits (9999 + 1) (encP k) (encP k) = true
    unfold Instr.sameBits encP
    simp [Instr.sameBits]
end Go.Proofs.YtfcfkhbkkfpehaaGreat
end

/- XFshadow -/
section
set_option linter.unusedVariables false
set_option linter.unusedSimpArgs false
namespace Go.Proofs.YtfcfkhbkkfpehaaGreat
open Go.X

def z167 : List Value := List.replicate 1 (Value.int .i64 0) ++ List.replicate 64 (Value.int .u32 0)
/- (*pomander/shadow.Shadow).none -/
def V_shadow_Shadow_none (s1 : Option Addr) (w : World) (R : Bool → World → Prop) : Prop :=
  ∃ J1 : Bool → World → Prop, (∀ (b1 : Bool) (w1 : World), J1 b1 w1 → R b1 w1) ∧ (((Option.isNone s1) = false → ∃ a1 : Addr, s1 = some a1 ∧ (∃ (t1 : Int), w.cell? a1 = some (.int .i64 t1) ∧ (J1 (t1 == 0) w))) ∧ ((Option.isNone s1) = true → J1 true w))
set_option maxRecDepth 100000 in
theorem ok_shadow_Shadow_none (s1 : Option Addr) (w : World) (R : Bool → World → Prop) (h : V_shadow_Shadow_none s1 w R) : Calls Tryz.prog 81 #[.pointer s1] w (fun e w' => ∃ (r1 : Bool), e = .returned (.bool r1) ∧ R r1 w') := by
  unfold V_shadow_Shadow_none at h
  refine enter (N := 12) Tryz.func81 rfl rfl ?_
  refine CW.seq ?_
  refine CW.region fun L hL => ?_
  refine LW.rd hL rfl (Wants.free rfl) rfl (Rd.assign (v := .bool false) rfl) ?_
  refine LW.nil hL rfl ?_
  refine NW.then ?_
  refine CW.seq ?_
  refine CW.region fun L hL => ?_
  refine LW.rd hL rfl (Wants.free rfl) rfl (Rd.move (v := .pointer s1) rfl) ?_
  refine LW.rd hL rfl (Wants.free rfl) rfl (Rd.bin (v := .bool (Option.isNone s1)) rfl rfl (fun w => ptr_nil_eq (by kernel_rfl) s1 w)) ?_
  refine LW.rd hL rfl (Wants.free rfl) rfl (Rd.move (v := .bool (Option.isNone s1)) rfl) ?_
  obtain ⟨J1, hJ1, h1_J1, h0_J1⟩ := h
  suffices K1 : ∀ (b1 : Bool) (w1 : World), J1 b1 w1 → L 9 [(2, .bool false), (11, .bool b1)] w1 by
    rcases Bool.eq_false_or_eq_true (Option.isNone s1) with hb1 | hb1
    · have h := h0_J1 hb1
      refine LW.skip hL rfl (Skips.on rfl rfl rfl rfl rfl hb1) rfl ?_
      refine LW.skip hL rfl (Skips.on rfl rfl rfl rfl rfl hb1) rfl ?_
      refine LW.skip hL rfl (Skips.on rfl rfl rfl rfl rfl hb1) rfl ?_
      refine LW.skip hL rfl (Skips.on rfl rfl rfl rfl rfl hb1) rfl ?_
      refine LW.skip hL rfl (Skips.on rfl rfl rfl rfl rfl hb1) rfl ?_
      refine LW.rd hL rfl (Wants.free rfl) rfl (Rd.pickT rfl hb1 rfl) ?_
      exact LW.sub hL (by exact ⟨rfl, rfl, trivial⟩) (K1 true w h)
    · have h := h1_J1 hb1
      refine LW.rd hL rfl (Wants.on rfl rfl rfl rfl rfl hb1) rfl (Rd.move (v := .pointer s1) rfl) ?_
      obtain ⟨a1, ha1, h⟩ := h
      refine LW.rd hL rfl (Wants.on rfl rfl rfl rfl rfl hb1) rfl (Rd.nil (q := a1) (by rw [← ha1]; rfl)) ?_
      refine LW.rd hL rfl (Wants.on rfl rfl rfl rfl rfl hb1) rfl (Rd.fa (v := .pointer (some a1)) rfl (fun _ => by kernel_rfl)) ?_
      obtain ⟨t1, hc1, h⟩ := h
      refine LW.rd hL rfl (Wants.on rfl rfl rfl rfl rfl hb1) rfl (Rd.ld (v := .int .i64 t1) rfl (by kernel_rfl) (eqs hc1)) ?_
      refine LW.rd hL rfl (Wants.on rfl rfl rfl rfl rfl hb1) rfl (Rd.bin (v := .bool (t1 == 0)) rfl rfl (fun w => by kernel_rfl)) ?_
      refine LW.rd hL rfl (Wants.free rfl) rfl (Rd.pickF rfl hb1 rfl) ?_
      exact LW.sub hL (by exact ⟨rfl, rfl, trivial⟩) (K1 (t1 == 0) w h)
  intro b1 w1 h_
  have h := hJ1 b1 w1 h_; clear h_
  refine LW.rd hL rfl (Wants.free rfl) rfl (Rd.assign (v := .bool b1) rfl) ?_
  refine LW.nil hL rfl ?_
  refine NW.then ?_
  refine CW.ret ?_
  exact res1 rfl rfl ⟨b1, rfl, h⟩

/- (*pomander/shadow.Shadow).Size -/
def V_shadow_Shadow_Size (s1 : Option Addr) (w : World) (R : Int → World → Prop) : Prop :=
  Calls Tryz.prog 81 #[.pointer s1] w fun e w1 => ∃ (r2 : Bool), e = .returned (.bool r2) ∧ ((r2 = true → R 0 w1) ∧ (r2 = false → ∃ a1 : Addr, s1 = some a1 ∧ (∃ (t1 : Int), w1.cell? a1 = some (.int .i64 t1) ∧ (R (IntKind.wrap .i64 (t1 * 64)) w1))))
set_option maxRecDepth 100000 in
theorem ok_shadow_Shadow_Size (s1 : Option Addr) (w : World) (R : Int → World → Prop) (h : V_shadow_Shadow_Size s1 w R) : Calls Tryz.prog 138 #[.pointer s1] w (fun e w' => ∃ (r1 : Int), e = .returned (.int .i64 r1) ∧ R r1 w') := by
  unfold V_shadow_Shadow_Size at h
  refine enter (N := 10) Tryz.func138 rfl rfl ?_
  refine CW.seq ?_
  refine CW.region fun L hL => ?_
  refine LW.rd hL rfl (Wants.free rfl) rfl (Rd.assign (v := .int .i64 0) rfl) ?_
  refine LW.nil hL rfl ?_
  refine NW.then ?_
  refine CW.seq ?_
  refine CW.seq ?_
  refine CW.region fun L hL => ?_
  refine LW.rd hL rfl (Wants.free rfl) rfl (Rd.move (v := .pointer s1) rfl) ?_
  refine LW.call hL rfl (Wants.free rfl) rfl (Cl.fn (f := 81) rfl Tryz.func81 (by kernel_rfl) rfl) h (fun e w1 h_ => ?_)
  clear h
  obtain ⟨r2, rfl, h⟩ := h_
  refine ⟨_, rfl, ?_⟩
  refine LW.nil hL rfl ?_
  refine NW.then ?_
  refine CW.cond rfl (fun hb1 => ?_) (fun hb1 => ?_)
  · replace h := h.1 hb1
    refine CW.seq ?_
    refine CW.region fun L hL => ?_
    refine LW.rd hL rfl (Wants.free rfl) rfl (Rd.assign (v := .int .i64 0) rfl) ?_
    refine LW.nil hL rfl ?_
    refine NW.then ?_
    refine CW.ret ?_
    refine RW.then ?_
    exact res1 rfl rfl ⟨0, rfl, h⟩
  · replace h := h.2 hb1
    refine CW.skip ?_
    refine NW.then ?_
    refine CW.seq ?_
    refine CW.region fun L hL => ?_
    refine LW.rd hL rfl (Wants.free rfl) rfl (Rd.move (v := .pointer s1) rfl) ?_
    obtain ⟨a1, ha1, h⟩ := h
    refine LW.rd hL rfl (Wants.free rfl) rfl (Rd.nil (q := a1) (by rw [← ha1]; rfl)) ?_
    refine LW.rd hL rfl (Wants.free rfl) rfl (Rd.fa (v := .pointer (some a1)) rfl (fun _ => by kernel_rfl)) ?_
    obtain ⟨t1, hc1, h⟩ := h
    refine LW.rd hL rfl (Wants.free rfl) rfl (Rd.ld (v := .int .i64 t1) rfl (by kernel_rfl) (eqs hc1)) ?_
    refine LW.rd hL rfl (Wants.free rfl) rfl (Rd.bin (v := .int .i64 (IntKind.wrap .i64 (t1 * 64))) rfl rfl (fun w => by kernel_rfl)) ?_
    refine LW.rd hL rfl (Wants.free rfl) rfl (Rd.assign (v := .int .i64 (IntKind.wrap .i64 (t1 * 64))) rfl) ?_
    refine LW.nil hL rfl ?_
    refine NW.then ?_
    refine CW.ret ?_
    exact res1 rfl rfl ⟨IntKind.wrap .i64 (t1 * 64), rfl, h⟩

/- (*pomander/shadow.Shadow).get -/
def V_shadow_Shadow_get (s1 : Option Addr) (at1 : Int) (w : World) (R : Int → World → Prop) : Prop :=
  ∃ a1 : Addr, s1 = some a1 ∧ (∃ (t1 : Option Nat), w.cell? (a1.add 1) = some (.map t1) ∧ (∃ (v1 : Option Addr) (ok1 : Bool), (Instr.lookup 156 (.map t1) (.int .i64 (IntKind.wrap .i64 (Int.tdiv at1 64))) true).run Tryz.prog w = .ok (.tuple #[.pointer v1, .bool ok1]) w ∧ (((!ok1) = true → R 0 w) ∧ ((!ok1) = false → ∃ a2 : Addr, v1 = some a2 ∧ ((0 : Int) ≤ Int.tmod at1 64 ∧ (Int.tmod at1 64 : Int) < 64 ∧ (∃ (t2 : Int), w.cell? ((a2.add 1).add (Int.toNat (Int.tmod at1 64) * 1)) = some (.int .u32 t2) ∧ (R t2 w)))))))
set_option maxRecDepth 100000 in
theorem ok_shadow_Shadow_get (s1 : Option Addr) (at1 : Int) (w : World) (R : Int → World → Prop) (h : V_shadow_Shadow_get s1 at1 w R) : Calls Tryz.prog 135 #[.pointer s1, .int .i64 at1] w (fun e w' => ∃ (r1 : Int), e = .returned (.int .u32 r1) ∧ R r1 w') := by
  unfold V_shadow_Shadow_get at h
  refine enter (N := 26) Tryz.func135 rfl rfl ?_
  refine CW.seq ?_
  refine CW.region fun L hL => ?_
  refine LW.rd hL rfl (Wants.free rfl) rfl (Rd.assign (v := .int .u32 0) rfl) ?_
  refine LW.nil hL rfl ?_
  refine NW.then ?_
  refine CW.seq ?_
  refine CW.region fun L hL => ?_
  refine LW.rd hL rfl (Wants.free rfl) rfl (Rd.move (v := .pointer s1) rfl) ?_
  obtain ⟨a1, ha1, h⟩ := h
  refine LW.rd hL rfl (Wants.free rfl) rfl (Rd.nil (q := a1) (by rw [← ha1]; rfl)) ?_
  refine LW.rd hL rfl (Wants.free rfl) rfl (Rd.fa (v := .pointer (some (a1.add 1))) rfl (fun _ => by kernel_rfl)) ?_
  obtain ⟨t1, hc1, h⟩ := h
  refine LW.rd hL rfl (Wants.free rfl) rfl (Rd.ld (v := .map t1) rfl (by kernel_rfl) (eqs hc1)) ?_
  refine LW.rd hL rfl (Wants.free rfl) rfl (Rd.move (v := .int .i64 at1) rfl) ?_
  refine LW.rd hL rfl (Wants.free rfl) rfl (Rd.bin (v := .int .i64 (IntKind.wrap .i64 (Int.tdiv at1 64))) rfl rfl (fun w => by kernel_rfl)) ?_
  obtain ⟨v1, ok1, hl1, h⟩ := h
  refine LW.rd hL rfl (Wants.free rfl) rfl (Rd.lookup (v := .tuple #[.pointer v1, .bool ok1]) rfl rfl (fun _ e => e ▸ hl1)) ?_
  refine LW.rd hL rfl (Wants.free rfl) rfl (Rd.move (v := .tuple #[.pointer v1, .bool ok1]) rfl) ?_
  refine LW.rd hL rfl (Wants.free rfl) rfl (Rd.extract (v := .pointer v1) rfl rfl) ?_
  refine LW.rd hL rfl (Wants.free rfl) rfl (Rd.extract (v := .bool ok1) rfl rfl) ?_
  refine LW.rd hL rfl (Wants.free rfl) rfl (Rd.assign (v := .pointer v1) rfl) ?_
  refine LW.rd hL rfl (Wants.free rfl) rfl (Rd.assign (v := .bool ok1) rfl) ?_
  refine LW.nil hL rfl ?_
  refine NW.then ?_
  refine CW.seq ?_
  refine CW.seq ?_
  refine CW.region fun L hL => ?_
  refine LW.rd hL rfl (Wants.free rfl) rfl (Rd.move (v := .bool ok1) rfl) ?_
  refine LW.rd hL rfl (Wants.free rfl) rfl (Rd.un (v := .bool (!ok1)) rfl (fun _ => by kernel_rfl)) ?_
  refine LW.nil hL rfl ?_
  refine NW.then ?_
  refine CW.cond rfl (fun hb1 => ?_) (fun hb1 => ?_)
  · replace h := h.1 hb1
    refine CW.seq ?_
    refine CW.region fun L hL => ?_
    refine LW.rd hL rfl (Wants.free rfl) rfl (Rd.assign (v := .int .u32 0) rfl) ?_
    refine LW.nil hL rfl ?_
    refine NW.then ?_
    refine CW.ret ?_
    refine RW.then ?_
    exact res1 rfl rfl ⟨0, rfl, h⟩
  · replace h := h.2 hb1
    refine CW.skip ?_
    refine NW.then ?_
    refine CW.seq ?_
    refine CW.region fun L hL => ?_
    refine LW.rd hL rfl (Wants.free rfl) rfl (Rd.move (v := .pointer v1) rfl) ?_
    refine LW.rd hL rfl (Wants.free rfl) rfl (Rd.move (v := .int .i64 at1) rfl) ?_
    refine LW.rd hL rfl (Wants.free rfl) rfl (Rd.bin (v := .int .i64 (Int.tmod at1 64)) rfl rfl (fun w => by kernel_rfl)) ?_
    obtain ⟨a2, ha2, h⟩ := h
    refine LW.rd hL rfl (Wants.free rfl) rfl (Rd.nil (q := a2) (by rw [← ha2]; rfl)) ?_
    refine LW.rd hL rfl (Wants.free rfl) rfl (Rd.fa (v := .pointer (some (a2.add 1))) rfl (fun _ => by kernel_rfl)) ?_
    obtain ⟨hi1, hi2, h⟩ := h
    refine LW.rd hL rfl (Wants.free rfl) rfl (Rd.iaA (sz := 1) rfl rfl Tryz.underlying165 (by kernel_rfl) hi1 hi2) ?_
    obtain ⟨t2, hc2, h⟩ := h
    refine LW.rd hL rfl (Wants.free rfl) rfl (Rd.ld (v := .int .u32 t2) rfl (by kernel_rfl) (eqs hc2)) ?_
    refine LW.rd hL rfl (Wants.free rfl) rfl (Rd.assign (v := .int .u32 t2) rfl) ?_
    refine LW.nil hL rfl ?_
    refine NW.then ?_
    refine CW.ret ?_
    exact res1 rfl rfl ⟨t2, rfl, h⟩

/- (*pomander/shadow.Shadow).put -/
def V_shadow_Shadow_put (s1 : Option Addr) (at1 : Int) (set1 : Int) (w : World) (R : World → Prop) : Prop :=
  ∃ a1 : Addr, s1 = some a1 ∧ (∃ (t1 : Option Nat), w.cell? (a1.add 1) = some (.map t1) ∧ (∃ (v1 : Option Addr) (ok1 : Bool), (Instr.lookup 156 (.map t1) (.int .i64 (IntKind.wrap .i64 (Int.tdiv at1 64))) true).run Tryz.prog w = .ok (.tuple #[.pointer v1, .bool ok1]) w ∧ (∃ J1 : (Option Addr) → World → Prop, (∀ (s2 : (Option Addr)) (w1 : World), J1 s2 w1 → ∃ J2 : Unit → World → Prop, (∀ (s3 : Unit) (w2 : World), J2 s3 w2 → ∃ J3 : Unit → World → Prop, (∀ (s4 : Unit) (w3 : World), J3 s4 w3 → ∃ a2 : Addr, s2 = some a2 ∧ ((0 : Int) ≤ Int.tmod at1 64 ∧ (Int.tmod at1 64 : Int) < 64 ∧ ((∃ o : Value, w3.cell? ((a2.add 1).add (Int.toNat (Int.tmod at1 64) * 1)) = some o) ∧ w3.frozen? ((a2.add 1).add (Int.toNat (Int.tmod at1 64) * 1)) = false ∧ ∀ w4 : World, w4 = World.setCell w3 ((a2.add 1).add (Int.toNat (Int.tmod at1 64) * 1)) (.int .u32 set1) → (∃ a3 : Addr, s2 = some a3 ∧ (∃ (t2 : Int), w4.cell? a3 = some (.int .i64 t2) ∧ (((t2 == 0) = true → ∃ a4 : Addr, s1 = some a4 ∧ (∃ (t3 : Option Nat), w4.cell? (a4.add 1) = some (.map t3) ∧ (∃ w5 : World, (Builtin.delete_ #[156, 3] 0 #[.map t3, .int .i64 (IntKind.wrap .i64 (Int.tdiv at1 64))]).run Tryz.prog w4 = .ok (.tuple #[]) w5 ∧ (R w5)))) ∧ ((t2 == 0) = false → R w4))))))) ∧ (((!(set1 == 0)) = true → ∃ a5 : Addr, s2 = some a5 ∧ (∃ (t4 : Int), w2.cell? a5 = some (.int .i64 t4) ∧ (∃ a6 : Addr, s2 = some a6 ∧ ((∃ o : Value, w2.cell? a6 = some o) ∧ w2.frozen? a6 = false ∧ ∀ w6 : World, w6 = World.setCell w2 a6 (.int .i64 (IntKind.wrap .i64 (t4 + 1))) → (J3 () w6))))) ∧ ((!(set1 == 0)) = false → J3 () w2))) ∧ (∃ a7 : Addr, s2 = some a7 ∧ ((0 : Int) ≤ Int.tmod at1 64 ∧ (Int.tmod at1 64 : Int) < 64 ∧ (∃ (t5 : Int), w1.cell? ((a7.add 1).add (Int.toNat (Int.tmod at1 64) * 1)) = some (.int .u32 t5) ∧ (((!(t5 == 0)) = true → ∃ a8 : Addr, s2 = some a8 ∧ (∃ (t6 : Int), w1.cell? a8 = some (.int .i64 t6) ∧ (∃ a9 : Addr, s2 = some a9 ∧ ((∃ o : Value, w1.cell? a9 = some o) ∧ w1.frozen? a9 = false ∧ ∀ w7 : World, w7 = World.setCell w1 a9 (.int .i64 (IntKind.wrap .i64 (t6 - 1))) → (J2 () w7))))) ∧ ((!(t5 == 0)) = false → J2 () w1)))))) ∧ (((!ok1) = true → ((set1 == 0) = true → R w) ∧ ((set1 == 0) = false → ∀ b1 : Nat, b1 = World.size w → ∀ w8 : World, w8 = World.alloc w (.cells z167.toArray 167) → (∃ a10 : Addr, s1 = some a10 ∧ (∃ (t7 : Option Nat), w8.cell? (a10.add 1) = some (.map t7) ∧ (∃ w9 : World, (Instr.mapUpdate 156 (.map t7) (.int .i64 (IntKind.wrap .i64 (Int.tdiv at1 64))) (.pointer (some (⟨b1, 0, none⟩ : Addr)))).run Tryz.prog w8 = .ok () w9 ∧ (J1 (some (⟨b1, 0, none⟩ : Addr)) w9)))))) ∧ ((!ok1) = false → J1 v1 w)))))
set_option maxRecDepth 100000 in
theorem ok_shadow_Shadow_put (s1 : Option Addr) (at1 : Int) (set1 : Int) (w : World) (R : World → Prop) (h : V_shadow_Shadow_put s1 at1 set1 w R) : Calls Tryz.prog 123 #[.pointer s1, .int .i64 at1, .int .u32 set1] w (fun e w' => e = .returned (.tuple #[]) ∧ R w') := by
  unfold V_shadow_Shadow_put at h
  refine enter (N := 79) Tryz.func123 rfl rfl ?_
  refine CW.seq ?_
  refine CW.region fun L hL => ?_
  refine LW.rd hL rfl (Wants.free rfl) rfl (Rd.move (v := .int .i64 at1) rfl) ?_
  refine LW.rd hL rfl (Wants.free rfl) rfl (Rd.bin (v := .int .i64 (IntKind.wrap .i64 (Int.tdiv at1 64))) rfl rfl (fun w => by kernel_rfl)) ?_
  refine LW.rd hL rfl (Wants.free rfl) rfl (Rd.move (v := .int .i64 at1) rfl) ?_
  refine LW.rd hL rfl (Wants.free rfl) rfl (Rd.bin (v := .int .i64 (Int.tmod at1 64)) rfl rfl (fun w => by kernel_rfl)) ?_
  refine LW.rd hL rfl (Wants.free rfl) rfl (Rd.assign (v := .int .i64 (IntKind.wrap .i64 (Int.tdiv at1 64))) rfl) ?_
  refine LW.rd hL rfl (Wants.free rfl) rfl (Rd.assign (v := .int .i64 (Int.tmod at1 64)) rfl) ?_
  refine LW.nil hL rfl ?_
  refine NW.then ?_
  refine CW.seq ?_
  refine CW.region fun L hL => ?_
  refine LW.rd hL rfl (Wants.free rfl) rfl (Rd.move (v := .pointer s1) rfl) ?_
  obtain ⟨a1, ha1, h⟩ := h
  refine LW.rd hL rfl (Wants.free rfl) rfl (Rd.nil (q := a1) (by rw [← ha1]; rfl)) ?_
  refine LW.rd hL rfl (Wants.free rfl) rfl (Rd.fa (v := .pointer (some (a1.add 1))) rfl (fun _ => by kernel_rfl)) ?_
  obtain ⟨t1, hc1, h⟩ := h
  refine LW.rd hL rfl (Wants.free rfl) rfl (Rd.ld (v := .map t1) rfl (by kernel_rfl) (eqs hc1)) ?_
  refine LW.rd hL rfl (Wants.free rfl) rfl (Rd.move (v := .int .i64 (IntKind.wrap .i64 (Int.tdiv at1 64))) rfl) ?_
  obtain ⟨v1, ok1, hl1, h⟩ := h
  refine LW.rd hL rfl (Wants.free rfl) rfl (Rd.lookup (v := .tuple #[.pointer v1, .bool ok1]) rfl rfl (fun _ e => e ▸ hl1)) ?_
  refine LW.rd hL rfl (Wants.free rfl) rfl (Rd.move (v := .tuple #[.pointer v1, .bool ok1]) rfl) ?_
  refine LW.rd hL rfl (Wants.free rfl) rfl (Rd.extract (v := .pointer v1) rfl rfl) ?_
  refine LW.rd hL rfl (Wants.free rfl) rfl (Rd.extract (v := .bool ok1) rfl rfl) ?_
  refine LW.rd hL rfl (Wants.free rfl) rfl (Rd.assign (v := .pointer v1) rfl) ?_
  refine LW.rd hL rfl (Wants.free rfl) rfl (Rd.assign (v := .bool ok1) rfl) ?_
  refine LW.nil hL rfl ?_
  refine NW.then ?_
  obtain ⟨J1, hJ1, h⟩ := h
  refine CW.cut (S := (Option Addr)) (fun s2 => [(0, .pointer s1), (2, .int .u32 set1), (6, .int .i64 (IntKind.wrap .i64 (Int.tdiv at1 64))), (7, .int .i64 (Int.tmod at1 64)), (8, .pointer s2)]) J1 (fun s2 w1 h_ => ?_) ?_
  · replace h := hJ1 s2 w1 h_; clear h_
    obtain ⟨J2, hJ2, h⟩ := h
    refine CW.cut (S := Unit) (fun s3 => [(0, .pointer s1), (2, .int .u32 set1), (6, .int .i64 (IntKind.wrap .i64 (Int.tdiv at1 64))), (7, .int .i64 (Int.tmod at1 64)), (8, .pointer s2)]) J2 (fun s3 w2 h_ => ?_) ?_
    · replace h := hJ2 s3 w2 h_; clear h_
      obtain ⟨J3, hJ3, h⟩ := h
      refine CW.cut (S := Unit) (fun s4 => [(0, .pointer s1), (2, .int .u32 set1), (6, .int .i64 (IntKind.wrap .i64 (Int.tdiv at1 64))), (7, .int .i64 (Int.tmod at1 64)), (8, .pointer s2)]) J3 (fun s4 w3 h_ => ?_) ?_
      · replace h := hJ3 s4 w3 h_; clear h_
        refine CW.seq ?_
        refine CW.region fun L hL => ?_
        refine LW.rd hL rfl (Wants.free rfl) rfl (Rd.move (v := .pointer s2) rfl) ?_
        refine LW.rd hL rfl (Wants.free rfl) rfl (Rd.move (v := .int .i64 (Int.tmod at1 64)) rfl) ?_
        refine LW.rd hL rfl (Wants.free rfl) rfl (Rd.move (v := .int .u32 set1) rfl) ?_
        obtain ⟨a2, ha2, h⟩ := h
        refine LW.rd hL rfl (Wants.free rfl) rfl (Rd.nil (q := a2) (by rw [← ha2]; rfl)) ?_
        refine LW.rd hL rfl (Wants.free rfl) rfl (Rd.fa (v := .pointer (some (a2.add 1))) rfl (fun _ => by kernel_rfl)) ?_
        obtain ⟨hi1, hi2, h⟩ := h
        refine LW.rd hL rfl (Wants.free rfl) rfl (Rd.iaA (sz := 1) rfl rfl Tryz.underlying165 (by kernel_rfl) hi1 hi2) ?_
        obtain ⟨⟨o_w4, ho1⟩, hf1, h⟩ := h
        obtain ⟨w4, hw_w4⟩ : ∃ w4, w4 = World.setCell w3 ((a2.add 1).add (Int.toNat (Int.tmod at1 64) * 1)) (.int .u32 set1) := ⟨_, rfl⟩
        replace h := h w4 hw_w4
        refine LW.eff hL rfl (Wants.free rfl) rfl (stE hw_w4 (Ef.st rfl rfl rfl (by kernel_rfl) ho1 hf1)) ?_
        refine LW.nil hL rfl ?_
        refine NW.then ?_
        refine CW.seq ?_
        refine CW.region fun L hL => ?_
        refine LW.rd hL rfl (Wants.free rfl) rfl (Rd.move (v := .pointer s2) rfl) ?_
        obtain ⟨a3, ha3, h⟩ := h
        refine LW.rd hL rfl (Wants.free rfl) rfl (Rd.nil (q := a3) (by rw [← ha3]; rfl)) ?_
        refine LW.rd hL rfl (Wants.free rfl) rfl (Rd.fa (v := .pointer (some a3)) rfl (fun _ => by kernel_rfl)) ?_
        refine LW.rd hL rfl (Wants.free rfl) rfl (Rd.fa (v := .pointer (some a3)) rfl (fun _ => by kernel_rfl)) ?_
        obtain ⟨t2, hc2, h⟩ := h
        refine LW.rd hL rfl (Wants.free rfl) rfl (Rd.ld (v := .int .i64 t2) rfl (by kernel_rfl) (eqs hc2)) ?_
        refine LW.rd hL rfl (Wants.free rfl) rfl (Rd.bin (v := .bool (t2 == 0)) rfl rfl (fun w => by kernel_rfl)) ?_
        refine LW.nil hL rfl ?_
        refine NW.then ?_
        refine CW.cond rfl (fun hb1 => ?_) (fun hb1 => ?_)
        · replace h := h.1 hb1
          refine CW.region fun L hL => ?_
          refine LW.rd hL rfl (Wants.free rfl) rfl (Rd.move (v := .pointer s1) rfl) ?_
          obtain ⟨a4, ha4, h⟩ := h
          refine LW.rd hL rfl (Wants.free rfl) rfl (Rd.nil (q := a4) (by rw [← ha4]; rfl)) ?_
          refine LW.rd hL rfl (Wants.free rfl) rfl (Rd.fa (v := .pointer (some (a4.add 1))) rfl (fun _ => by kernel_rfl)) ?_
          obtain ⟨t3, hc3, h⟩ := h
          refine LW.rd hL rfl (Wants.free rfl) rfl (Rd.ld (v := .map t3) rfl (by kernel_rfl) (eqs hc3)) ?_
          refine LW.rd hL rfl (Wants.free rfl) rfl (Rd.move (v := .int .i64 (IntKind.wrap .i64 (Int.tdiv at1 64))) rfl) ?_
          obtain ⟨w5, hd1, h⟩ := h
          refine LW.val hL rfl (Wants.free rfl) rfl (Vl.builtin (v := .tuple #[]) rfl (valB hd1)) ?_
          refine LW.nil hL rfl ?_
          exact res0n rfl (by exact ⟨rfl, h⟩)
        · replace h := h.2 hb1
          refine CW.skip ?_
          exact res0n rfl (by exact ⟨rfl, h⟩)
      · skip
        refine CW.seq ?_
        refine CW.region fun L hL => ?_
        refine LW.rd hL rfl (Wants.free rfl) rfl (Rd.move (v := .int .u32 set1) rfl) ?_
        refine LW.rd hL rfl (Wants.free rfl) rfl (Rd.bin (v := .bool (!(set1 == 0))) rfl rfl (fun w => by kernel_rfl)) ?_
        refine LW.nil hL rfl ?_
        refine NW.then ?_
        refine CW.cond rfl (fun hb2 => ?_) (fun hb2 => ?_)
        · replace h := h.1 hb2
          refine CW.region fun L hL => ?_
          refine LW.rd hL rfl (Wants.free rfl) rfl (Rd.move (v := .pointer s2) rfl) ?_
          obtain ⟨a5, ha5, h⟩ := h
          refine LW.rd hL rfl (Wants.free rfl) rfl (Rd.nil (q := a5) (by rw [← ha5]; rfl)) ?_
          refine LW.rd hL rfl (Wants.free rfl) rfl (Rd.fa (v := .pointer (some a5)) rfl (fun _ => by kernel_rfl)) ?_
          refine LW.rd hL rfl (Wants.free rfl) rfl (Rd.fa (v := .pointer (some a5)) rfl (fun _ => by kernel_rfl)) ?_
          obtain ⟨t4, hc4, h⟩ := h
          refine LW.rd hL rfl (Wants.free rfl) rfl (Rd.ld (v := .int .i64 t4) rfl (by kernel_rfl) (eqs hc4)) ?_
          refine LW.rd hL rfl (Wants.free rfl) rfl (Rd.bin (v := .int .i64 (IntKind.wrap .i64 (t4 + 1))) rfl rfl (fun w => by kernel_rfl)) ?_
          obtain ⟨a6, ha6, h⟩ := h
          refine LW.rd hL rfl (Wants.free rfl) rfl (Rd.nil (q := a6) (by rw [← ha6]; rfl)) ?_
          refine LW.rd hL rfl (Wants.free rfl) rfl (Rd.fa (v := .pointer (some a6)) rfl (fun _ => by kernel_rfl)) ?_
          refine LW.rd hL rfl (Wants.free rfl) rfl (Rd.fa (v := .pointer (some a6)) rfl (fun _ => by kernel_rfl)) ?_
          obtain ⟨⟨o_w6, ho2⟩, hf2, h⟩ := h
          obtain ⟨w6, hw_w6⟩ : ∃ w6, w6 = World.setCell w2 a6 (.int .i64 (IntKind.wrap .i64 (t4 + 1))) := ⟨_, rfl⟩
          replace h := h w6 hw_w6
          refine LW.eff hL rfl (Wants.free rfl) rfl (stE hw_w6 (Ef.st rfl rfl rfl (by kernel_rfl) ho2 hf2)) ?_
          refine LW.nil hL rfl ?_
          exact NW.cut (S := Unit) (Ek := fun s4 => [(0, .pointer s1), (2, .int .u32 set1), (6, .int .i64 (IntKind.wrap .i64 (Int.tdiv at1 64))), (7, .int .i64 (Int.tmod at1 64)), (8, .pointer s2)]) () (by exact ⟨rfl, rfl, rfl, rfl, rfl, trivial⟩) h
        · replace h := h.2 hb2
          refine CW.skip ?_
          exact NW.cut (S := Unit) (Ek := fun s4 => [(0, .pointer s1), (2, .int .u32 set1), (6, .int .i64 (IntKind.wrap .i64 (Int.tdiv at1 64))), (7, .int .i64 (Int.tmod at1 64)), (8, .pointer s2)]) () (by exact ⟨rfl, rfl, rfl, rfl, rfl, trivial⟩) h
    · skip
      refine CW.seq ?_
      refine CW.region fun L hL => ?_
      refine LW.rd hL rfl (Wants.free rfl) rfl (Rd.move (v := .pointer s2) rfl) ?_
      refine LW.rd hL rfl (Wants.free rfl) rfl (Rd.move (v := .int .i64 (Int.tmod at1 64)) rfl) ?_
      obtain ⟨a7, ha7, h⟩ := h
      refine LW.rd hL rfl (Wants.free rfl) rfl (Rd.nil (q := a7) (by rw [← ha7]; rfl)) ?_
      refine LW.rd hL rfl (Wants.free rfl) rfl (Rd.fa (v := .pointer (some (a7.add 1))) rfl (fun _ => by kernel_rfl)) ?_
      obtain ⟨hi3, hi4, h⟩ := h
      refine LW.rd hL rfl (Wants.free rfl) rfl (Rd.iaA (sz := 1) rfl rfl Tryz.underlying165 (by kernel_rfl) hi3 hi4) ?_
      obtain ⟨t5, hc5, h⟩ := h
      refine LW.rd hL rfl (Wants.free rfl) rfl (Rd.ld (v := .int .u32 t5) rfl (by kernel_rfl) (eqs hc5)) ?_
      refine LW.rd hL rfl (Wants.free rfl) rfl (Rd.bin (v := .bool (!(t5 == 0))) rfl rfl (fun w => by kernel_rfl)) ?_
      refine LW.nil hL rfl ?_
      refine NW.then ?_
      refine CW.cond rfl (fun hb3 => ?_) (fun hb3 => ?_)
      · replace h := h.1 hb3
        refine CW.region fun L hL => ?_
        refine LW.rd hL rfl (Wants.free rfl) rfl (Rd.move (v := .pointer s2) rfl) ?_
        obtain ⟨a8, ha8, h⟩ := h
        refine LW.rd hL rfl (Wants.free rfl) rfl (Rd.nil (q := a8) (by rw [← ha8]; rfl)) ?_
        refine LW.rd hL rfl (Wants.free rfl) rfl (Rd.fa (v := .pointer (some a8)) rfl (fun _ => by kernel_rfl)) ?_
        refine LW.rd hL rfl (Wants.free rfl) rfl (Rd.fa (v := .pointer (some a8)) rfl (fun _ => by kernel_rfl)) ?_
        obtain ⟨t6, hc6, h⟩ := h
        refine LW.rd hL rfl (Wants.free rfl) rfl (Rd.ld (v := .int .i64 t6) rfl (by kernel_rfl) (eqs hc6)) ?_
        refine LW.rd hL rfl (Wants.free rfl) rfl (Rd.bin (v := .int .i64 (IntKind.wrap .i64 (t6 - 1))) rfl rfl (fun w => by kernel_rfl)) ?_
        obtain ⟨a9, ha9, h⟩ := h
        refine LW.rd hL rfl (Wants.free rfl) rfl (Rd.nil (q := a9) (by rw [← ha9]; rfl)) ?_
        refine LW.rd hL rfl (Wants.free rfl) rfl (Rd.fa (v := .pointer (some a9)) rfl (fun _ => by kernel_rfl)) ?_
        refine LW.rd hL rfl (Wants.free rfl) rfl (Rd.fa (v := .pointer (some a9)) rfl (fun _ => by kernel_rfl)) ?_
        obtain ⟨⟨o_w7, ho3⟩, hf3, h⟩ := h
        obtain ⟨w7, hw_w7⟩ : ∃ w7, w7 = World.setCell w1 a9 (.int .i64 (IntKind.wrap .i64 (t6 - 1))) := ⟨_, rfl⟩
        replace h := h w7 hw_w7
        refine LW.eff hL rfl (Wants.free rfl) rfl (stE hw_w7 (Ef.st rfl rfl rfl (by kernel_rfl) ho3 hf3)) ?_
        refine LW.nil hL rfl ?_
        exact NW.cut (S := Unit) (Ek := fun s3 => [(0, .pointer s1), (2, .int .u32 set1), (6, .int .i64 (IntKind.wrap .i64 (Int.tdiv at1 64))), (7, .int .i64 (Int.tmod at1 64)), (8, .pointer s2)]) () (by exact ⟨rfl, rfl, rfl, rfl, rfl, trivial⟩) h
      · replace h := h.2 hb3
        refine CW.skip ?_
        exact NW.cut (S := Unit) (Ek := fun s3 => [(0, .pointer s1), (2, .int .u32 set1), (6, .int .i64 (IntKind.wrap .i64 (Int.tdiv at1 64))), (7, .int .i64 (Int.tmod at1 64)), (8, .pointer s2)]) () (by exact ⟨rfl, rfl, rfl, rfl, rfl, trivial⟩) h
  · skip
    refine CW.seq ?_
    refine CW.region fun L hL => ?_
    refine LW.rd hL rfl (Wants.free rfl) rfl (Rd.move (v := .bool ok1) rfl) ?_
    refine LW.rd hL rfl (Wants.free rfl) rfl (Rd.un (v := .bool (!ok1)) rfl (fun _ => by kernel_rfl)) ?_
    refine LW.nil hL rfl ?_
    refine NW.then ?_
    refine CW.cond rfl (fun hb4 => ?_) (fun hb4 => ?_)
    · replace h := h.1 hb4
      refine CW.seq ?_
      refine CW.seq ?_
      refine CW.region fun L hL => ?_
      refine LW.rd hL rfl (Wants.free rfl) rfl (Rd.move (v := .int .u32 set1) rfl) ?_
      refine LW.rd hL rfl (Wants.free rfl) rfl (Rd.bin (v := .bool (set1 == 0)) rfl rfl (fun w => by kernel_rfl)) ?_
      refine LW.nil hL rfl ?_
      refine NW.then ?_
      refine CW.cond rfl (fun hb5 => ?_) (fun hb5 => ?_)
      · replace h := h.1 hb5
        refine CW.ret ?_
        refine RW.then ?_
        refine RW.then ?_
        exact res0 rfl ⟨rfl, h⟩
      · replace h := h.2 hb5
        refine CW.skip ?_
        refine NW.then ?_
        refine CW.seq ?_
        refine CW.region fun L hL => ?_
        refine LW.rd hL rfl (Wants.free rfl) rfl (Rd.build (v := .agg (z167).toArray) rfl (fun _ => by kernel_rfl)) ?_
        obtain ⟨b1, hb_b1⟩ : ∃ b1, b1 = World.size w := ⟨_, rfl⟩
        obtain ⟨w8, hw_w8⟩ : ∃ w8, w8 = World.alloc w (.cells z167.toArray 167) := ⟨_, rfl⟩
        replace h := h b1 hb_b1 w8 hw_w8
        refine LW.val hL rfl (Wants.free rfl) rfl (boxE hb_b1 hw_w8 (Vl.box (v := .agg (z167).toArray) rfl)) ?_
        refine LW.rd hL rfl (Wants.free rfl) rfl (Rd.assign (v := .pointer (some (⟨b1, 0, none⟩ : Addr))) rfl) ?_
        refine LW.nil hL rfl ?_
        refine NW.then ?_
        refine CW.region fun L hL => ?_
        refine LW.rd hL rfl (Wants.free rfl) rfl (Rd.move (v := .pointer s1) rfl) ?_
        obtain ⟨a10, ha10, h⟩ := h
        refine LW.rd hL rfl (Wants.free rfl) rfl (Rd.nil (q := a10) (by rw [← ha10]; rfl)) ?_
        refine LW.rd hL rfl (Wants.free rfl) rfl (Rd.fa (v := .pointer (some (a10.add 1))) rfl (fun _ => by kernel_rfl)) ?_
        obtain ⟨t7, hc7, h⟩ := h
        refine LW.rd hL rfl (Wants.free rfl) rfl (Rd.ld (v := .map t7) rfl (by kernel_rfl) (eqs hc7)) ?_
        refine LW.rd hL rfl (Wants.free rfl) rfl (Rd.move (v := .int .i64 (IntKind.wrap .i64 (Int.tdiv at1 64))) rfl) ?_
        refine LW.rd hL rfl (Wants.free rfl) rfl (Rd.move (v := .pointer (some (⟨b1, 0, none⟩ : Addr))) rfl) ?_
        obtain ⟨w9, hm1, h⟩ := h
        refine LW.eff hL rfl (Wants.free rfl) rfl (Ef.mapUpdate rfl rfl rfl hm1) ?_
        refine LW.nil hL rfl ?_
        exact NW.cut (S := (Option Addr)) (Ek := fun s2 => [(0, .pointer s1), (2, .int .u32 set1), (6, .int .i64 (IntKind.wrap .i64 (Int.tdiv at1 64))), (7, .int .i64 (Int.tmod at1 64)), (8, .pointer s2)]) (some (⟨b1, 0, none⟩ : Addr)) (by exact ⟨rfl, rfl, rfl, rfl, rfl, trivial⟩) h
    · replace h := h.2 hb4
      refine CW.skip ?_
      exact NW.cut (S := (Option Addr)) (Ek := fun s2 => [(0, .pointer s1), (2, .int .u32 set1), (6, .int .i64 (IntKind.wrap .i64 (Int.tdiv at1 64))), (7, .int .i64 (Int.tmod at1 64)), (8, .pointer s2)]) v1 (by exact ⟨rfl, rfl, rfl, rfl, rfl, trivial⟩) h

/- (*pomander/shadow.Shadow).through -/
def V_shadow_Shadow_through (s1 : Option Addr) (at1 : Int) (n1 : Int) (on1 : Value) (w : World) (R : Int → World → Prop) : Prop :=
  Calls Tryz.prog 81 #[.pointer s1] w fun e w1 => ∃ (r2 : Bool), e = .returned (.bool r2) ∧ ((r2 = true → R 1 w1) ∧ (r2 = false → ∃ J1 : Bool → World → Prop, (∀ (b1 : Bool) (w2 : World), J1 b1 w2 → ∃ J2 : Bool → World → Prop, (∀ (b2 : Bool) (w4 : World), J2 b2 w4 → (b2 = true → R 4 w4) ∧ (b2 = false → ∃ (I1 : Int → World → Prop) (m1 : Int → World → Nat), I1 0 w4 ∧ ∀ (s2 : Int) (w6 : World), I1 s2 w6 → ((decide (s2 < n1)) = true → CallsV Tryz.prog on1 #[.int .i64 (IntKind.wrap .i64 (at1 + s2))] w6 fun e w7 => e = .returned (.tuple #[]) ∧ ((I1 (IntKind.wrap .i64 (s2 + 1)) w7 ∧ m1 (IntKind.wrap .i64 (s2 + 1)) w7 < m1 s2 w6))) ∧ ((decide (s2 < n1)) = false → R 0 w6))) ∧ ((b1 = false → Calls Tryz.prog 138 #[.pointer s1] w2 fun e w5 => ∃ (r4 : Int), e = .returned (.int .i64 r4) ∧ (J2 (decide (n1 > (IntKind.wrap .i64 (r4 - at1)))) w5)) ∧ (b1 = true → J2 true w2))) ∧ (((decide (at1 < 0) || decide (n1 < 0)) = false → Calls Tryz.prog 138 #[.pointer s1] w1 fun e w3 => ∃ (r3 : Int), e = .returned (.int .i64 r3) ∧ (J1 (decide (at1 > r3)) w3)) ∧ ((decide (at1 < 0) || decide (n1 < 0)) = true → J1 true w1))))
set_option maxRecDepth 100000 in
theorem ok_shadow_Shadow_through (s1 : Option Addr) (at1 : Int) (n1 : Int) (on1 : Value) (w : World) (R : Int → World → Prop) (h : V_shadow_Shadow_through s1 at1 n1 on1 w R) : Calls Tryz.prog 121 #[.pointer s1, .int .i64 at1, .int .i64 n1, on1] w (fun e w' => ∃ (r1 : Int), e = .returned (.int .i64 r1) ∧ R r1 w') := by
  unfold V_shadow_Shadow_through at h
  refine enter (N := 44) Tryz.func121 rfl rfl ?_
  refine CW.seq ?_
  refine CW.region fun L hL => ?_
  refine LW.rd hL rfl (Wants.free rfl) rfl (Rd.assign (v := .int .i64 0) rfl) ?_
  refine LW.nil hL rfl ?_
  refine NW.then ?_
  refine CW.seq ?_
  refine CW.block ?_
  refine CW.seq ?_
  refine CW.region fun L hL => ?_
  refine LW.rd hL rfl (Wants.free rfl) rfl (Rd.move (v := .pointer s1) rfl) ?_
  refine LW.call hL rfl (Wants.free rfl) rfl (Cl.fn (f := 81) rfl Tryz.func81 (by kernel_rfl) rfl) h (fun e w1 h_ => ?_)
  clear h
  obtain ⟨r2, rfl, h⟩ := h_
  refine ⟨_, rfl, ?_⟩
  refine LW.rd hL rfl (Wants.free rfl) rfl (Rd.assign (v := .bool r2) rfl) ?_
  refine LW.nil hL rfl ?_
  refine NW.then ?_
  refine CW.cond rfl (fun hb1 => ?_) (fun hb1 => ?_)
  · replace h := h.1 hb1
    refine CW.seq ?_
    refine CW.region fun L hL => ?_
    refine LW.rd hL rfl (Wants.free rfl) rfl (Rd.assign (v := .int .i64 1) rfl) ?_
    refine LW.nil hL rfl ?_
    refine NW.then ?_
    refine CW.ret ?_
    refine RW.block ?_
    refine RW.then ?_
    exact res1 rfl rfl ⟨1, rfl, h⟩
  · replace h := h.2 hb1
    refine CW.seq ?_
    refine CW.region fun L hL => ?_
    refine LW.rd hL rfl (Wants.free rfl) rfl (Rd.move (v := .int .i64 at1) rfl) ?_
    refine LW.rd hL rfl (Wants.free rfl) rfl (Rd.bin (v := .bool (decide (at1 < 0))) rfl rfl (fun w => by kernel_rfl)) ?_
    refine LW.rd hL rfl (Wants.free rfl) rfl (Rd.move (v := .bool (decide (at1 < 0))) rfl) ?_
    suffices K1 : L 6 [(0, .pointer s1), (1, .int .i64 at1), (2, .int .i64 n1), (3, on1), (8, .int .i64 0), (19, .bool (decide (at1 < 0) || decide (n1 < 0)))] w1 by
      rcases Bool.eq_false_or_eq_true (decide (at1 < 0)) with hb3 | hb3
      · skip
        refine LW.skip hL rfl (Skips.on rfl rfl rfl rfl rfl hb3) rfl ?_
        refine LW.skip hL rfl (Skips.on rfl rfl rfl rfl rfl hb3) rfl ?_
        refine LW.rd hL rfl (Wants.free rfl) rfl (Rd.pickT rfl hb3 rfl) ?_
        exact LW.sub hL (by exact ⟨rfl, rfl, rfl, rfl, rfl, (by rw [hb3]; rfl), trivial⟩) K1
      · skip
        refine LW.rd hL rfl (Wants.on rfl rfl rfl rfl rfl hb3) rfl (Rd.move (v := .int .i64 n1) rfl) ?_
        refine LW.rd hL rfl (Wants.on rfl rfl rfl rfl rfl hb3) rfl (Rd.bin (v := .bool (decide (n1 < 0))) rfl rfl (fun w => by kernel_rfl)) ?_
        refine LW.rd hL rfl (Wants.free rfl) rfl (Rd.pickF rfl hb3 rfl) ?_
        exact LW.sub hL (by exact ⟨rfl, rfl, rfl, rfl, rfl, (by rw [hb3]; rfl), trivial⟩) K1
    refine LW.rd hL rfl (Wants.free rfl) rfl (Rd.move (v := .bool (decide (at1 < 0) || decide (n1 < 0))) rfl) ?_
    obtain ⟨J1, hJ1, h1_J1, h0_J1⟩ := h
    suffices K2 : ∀ (b1 : Bool) (w2 : World), J1 b1 w2 → L 12 [(0, .pointer s1), (1, .int .i64 at1), (2, .int .i64 n1), (3, on1), (8, .int .i64 0), (25, .bool b1)] w2 by
      rcases Bool.eq_false_or_eq_true (decide (at1 < 0) || decide (n1 < 0)) with hb4 | hb4
      · have h := h0_J1 hb4
        refine LW.skip hL rfl (Skips.on rfl rfl rfl rfl rfl hb4) rfl ?_
        refine LW.skip hL rfl (Skips.on rfl rfl rfl rfl rfl hb4) rfl ?_
        refine LW.skip hL rfl (Skips.on rfl rfl rfl rfl rfl hb4) rfl ?_
        refine LW.skip hL rfl (Skips.on rfl rfl rfl rfl rfl hb4) rfl ?_
        refine LW.rd hL rfl (Wants.free rfl) rfl (Rd.pickT rfl hb4 rfl) ?_
        exact LW.sub hL (by exact ⟨rfl, rfl, rfl, rfl, rfl, rfl, trivial⟩) (K2 true w1 h)
      · have h := h1_J1 hb4
        refine LW.rd hL rfl (Wants.on rfl rfl rfl rfl rfl hb4) rfl (Rd.move (v := .int .i64 at1) rfl) ?_
        refine LW.rd hL rfl (Wants.on rfl rfl rfl rfl rfl hb4) rfl (Rd.move (v := .pointer s1) rfl) ?_
        refine LW.call hL rfl (Wants.on rfl rfl rfl rfl rfl hb4) rfl (Cl.fn (f := 138) rfl Tryz.func138 (by kernel_rfl) rfl) h (fun e w3 h_ => ?_)
        clear h
        obtain ⟨r3, rfl, h⟩ := h_
        refine ⟨_, rfl, ?_⟩
        refine LW.rd hL rfl (Wants.on rfl rfl rfl rfl rfl hb4) rfl (Rd.bin (v := .bool (decide (at1 > r3))) rfl rfl (fun w => by kernel_rfl)) ?_
        refine LW.rd hL rfl (Wants.free rfl) rfl (Rd.pickF rfl hb4 rfl) ?_
        exact LW.sub hL (by exact ⟨rfl, rfl, rfl, rfl, rfl, rfl, trivial⟩) (K2 (decide (at1 > r3)) w3 h)
    intro b1 w2 h_
    have h := hJ1 b1 w2 h_; clear h_
    refine LW.rd hL rfl (Wants.free rfl) rfl (Rd.move (v := .bool b1) rfl) ?_
    obtain ⟨J2, hJ2, h1_J2, h0_J2⟩ := h
    suffices K3 : ∀ (b2 : Bool) (w4 : World), J2 b2 w4 → L 20 [(1, .int .i64 at1), (2, .int .i64 n1), (3, on1), (8, .int .i64 0), (33, .bool b2)] w4 by
      rcases Bool.eq_false_or_eq_true b1 with hb5 | hb5
      · have h := h0_J2 hb5
        refine LW.skip hL rfl (Skips.on rfl rfl rfl rfl rfl hb5) rfl ?_
        refine LW.skip hL rfl (Skips.on rfl rfl rfl rfl rfl hb5) rfl ?_
        refine LW.skip hL rfl (Skips.on rfl rfl rfl rfl rfl hb5) rfl ?_
        refine LW.skip hL rfl (Skips.on rfl rfl rfl rfl rfl hb5) rfl ?_
        refine LW.skip hL rfl (Skips.on rfl rfl rfl rfl rfl hb5) rfl ?_
        refine LW.skip hL rfl (Skips.on rfl rfl rfl rfl rfl hb5) rfl ?_
        refine LW.rd hL rfl (Wants.free rfl) rfl (Rd.pickT rfl hb5 rfl) ?_
        exact LW.sub hL (by exact ⟨rfl, rfl, rfl, rfl, rfl, trivial⟩) (K3 true w2 h)
      · have h := h1_J2 hb5
        refine LW.rd hL rfl (Wants.on rfl rfl rfl rfl rfl hb5) rfl (Rd.move (v := .int .i64 n1) rfl) ?_
        refine LW.rd hL rfl (Wants.on rfl rfl rfl rfl rfl hb5) rfl (Rd.move (v := .pointer s1) rfl) ?_
        refine LW.call hL rfl (Wants.on rfl rfl rfl rfl rfl hb5) rfl (Cl.fn (f := 138) rfl Tryz.func138 (by kernel_rfl) rfl) h (fun e w5 h_ => ?_)
        clear h
        obtain ⟨r4, rfl, h⟩ := h_
        refine ⟨_, rfl, ?_⟩
        refine LW.rd hL rfl (Wants.on rfl rfl rfl rfl rfl hb5) rfl (Rd.move (v := .int .i64 at1) rfl) ?_
        refine LW.rd hL rfl (Wants.on rfl rfl rfl rfl rfl hb5) rfl (Rd.bin (v := .int .i64 (IntKind.wrap .i64 (r4 - at1))) rfl rfl (fun w => by kernel_rfl)) ?_
        refine LW.rd hL rfl (Wants.on rfl rfl rfl rfl rfl hb5) rfl (Rd.bin (v := .bool (decide (n1 > (IntKind.wrap .i64 (r4 - at1))))) rfl rfl (fun w => by kernel_rfl)) ?_
        refine LW.rd hL rfl (Wants.free rfl) rfl (Rd.pickF rfl hb5 rfl) ?_
        exact LW.sub hL (by exact ⟨rfl, rfl, rfl, rfl, rfl, trivial⟩) (K3 (decide (n1 > (IntKind.wrap .i64 (r4 - at1)))) w5 h)
    intro b2 w4 h_
    have h := hJ2 b2 w4 h_; clear h_
    refine LW.rd hL rfl (Wants.free rfl) rfl (Rd.assign (v := .bool b2) rfl) ?_
    refine LW.nil hL rfl ?_
    refine NW.then ?_
    refine CW.cond rfl (fun hb6 => ?_) (fun hb6 => ?_)
    · replace h := h.1 hb6
      refine CW.seq ?_
      refine CW.region fun L hL => ?_
      refine LW.rd hL rfl (Wants.free rfl) rfl (Rd.assign (v := .int .i64 4) rfl) ?_
      refine LW.nil hL rfl ?_
      refine NW.then ?_
      refine CW.ret ?_
      refine RW.block ?_
      refine RW.then ?_
      exact res1 rfl rfl ⟨4, rfl, h⟩
    · replace h := h.2 hb6
      refine CW.skip ?_
      refine NW.block ?_
      refine NW.then ?_
      refine CW.seq ?_
      refine CW.seq ?_
      refine CW.region fun L hL => ?_
      refine LW.rd hL rfl (Wants.free rfl) rfl (Rd.move (v := .int .i64 n1) rfl) ?_
      refine LW.rd hL rfl (Wants.free rfl) rfl (Rd.move (v := .int .i64 0) rfl) ?_
      refine LW.nil hL rfl ?_
      refine NW.then ?_
      refine CW.block ?_
      obtain ⟨I1, m1, hI1, h⟩ := h
      refine CW.loop (S := Int) (fun s2 => [(1, .int .i64 at1), (3, on1), (8, .int .i64 0), (34, .int .i64 n1), (35, .int .i64 s2)]) I1 m1 0 (by exact ⟨rfl, rfl, rfl, rfl, rfl, trivial⟩) hI1 (fun s2 w6 hI1 => ?_)
      replace h := h s2 w6 hI1
      refine CW.seq ?_
      refine CW.region fun L hL => ?_
      refine LW.rd hL rfl (Wants.free rfl) rfl (Rd.bin (v := .bool (decide (s2 < n1))) rfl rfl (fun w => by kernel_rfl)) ?_
      refine LW.nil hL rfl ?_
      refine NW.then ?_
      refine CW.seq ?_
      refine CW.cond rfl (fun hb7 => ?_) (fun hb7 => ?_)
      · replace h := h.1 hb7
        refine CW.skip ?_
        refine NW.then ?_
        refine CW.seq ?_
        refine CW.block ?_
        refine CW.seq ?_
        refine CW.region fun L hL => ?_
        refine LW.rd hL rfl (Wants.free rfl) rfl (Rd.move (v := .int .i64 s2) rfl) ?_
        refine LW.rd hL rfl (Wants.free rfl) rfl (Rd.assign (v := .int .i64 s2) rfl) ?_
        refine LW.nil hL rfl ?_
        refine NW.then ?_
        refine CW.region fun L hL => ?_
        refine LW.rd hL rfl (Wants.free rfl) rfl (Rd.move (v := on1) rfl) ?_
        refine LW.rd hL rfl (Wants.free rfl) rfl (Rd.move (v := .int .i64 at1) rfl) ?_
        refine LW.rd hL rfl (Wants.free rfl) rfl (Rd.move (v := .int .i64 s2) rfl) ?_
        refine LW.rd hL rfl (Wants.free rfl) rfl (Rd.bin (v := .int .i64 (IntKind.wrap .i64 (at1 + s2))) rfl rfl (fun w => by kernel_rfl)) ?_
        obtain ⟨f1, cap_f1, fn_f1, he_f1, hf_f1, hn_f1, hb_f1, h⟩ := h
        refine LW.call hL rfl (Wants.free rfl) rfl (Cl.fv (f := f1) (cap := cap_f1) (by rw [← he_f1]; rfl) rfl hf_f1 hn_f1 hb_f1) h (fun e w7 h_ => ?_)
        clear h
        obtain ⟨rfl, h⟩ := h_
        refine ⟨_, rfl, ?_⟩
        refine LW.nil hL rfl ?_
        refine NW.block ?_
        refine NW.then ?_
        refine CW.region fun L hL => ?_
        refine LW.rd hL rfl (Wants.free rfl) rfl (Rd.bin (v := .int .i64 (IntKind.wrap .i64 (s2 + 1))) rfl rfl (fun w => by kernel_rfl)) ?_
        refine LW.rd hL rfl (Wants.free rfl) rfl (Rd.move (v := .int .i64 (IntKind.wrap .i64 (s2 + 1))) rfl) ?_
        refine LW.nil hL rfl ?_
        exact NW.loop (S := Int) (Ek := fun s2 => [(1, .int .i64 at1), (3, on1), (8, .int .i64 0), (34, .int .i64 n1), (35, .int .i64 s2)]) (IntKind.wrap .i64 (s2 + 1)) (by exact ⟨rfl, rfl, rfl, rfl, rfl, trivial⟩) h
      · replace h := h.2 hb7
        refine CW.exit ?_
        refine XW.then ?_
        refine XW.then ?_
        refine XW.hit ?_
        refine NW.then ?_
        refine CW.seq ?_
        refine CW.region fun L hL => ?_
        refine LW.rd hL rfl (Wants.free rfl) rfl (Rd.assign (v := .int .i64 0) rfl) ?_
        refine LW.nil hL rfl ?_
        refine NW.then ?_
        refine CW.ret ?_
        exact res1 rfl rfl ⟨0, rfl, h⟩

/- (*pomander/shadow.Shadow).Union$1 -/
def V_shadow_Shadow_Union_1 (at1 : Int) (cap1 : Addr) (cap2 : Addr) (w : World) (R : World → Prop) : Prop :=
  ∀ w1 : World, w1 = World.drew w → ∃ (t1 : Int), w1.cell? cap1 = some (.int .u32 t1) ∧ (∃ (t2 : Option Addr), w1.cell? cap2 = some (.pointer t2) ∧ (Calls Tryz.prog 135 #[.pointer t2, .int .i64 at1] w1 fun e w2 => ∃ (r1 : Int), e = .returned (.int .u32 r1) ∧ ((w2.cell? cap1 = some (.int .u32 t1) ∧ w2.cell? cap2 = some (.pointer t2) ∧ True) ∧ ((∃ o : Value, w2.cell? cap1 = some o) ∧ w2.frozen? cap1 = false ∧ ∀ w3 : World, w3 = World.setCell w2 cap1 (.int .u32 (bits .or .u32 t1 r1)) → (R w3)))))
set_option maxRecDepth 100000 in
theorem ok_shadow_Shadow_Union_1 (at1 : Int) (cap1 : Addr) (cap2 : Addr) (w : World) (R : World → Prop) (h : V_shadow_Shadow_Union_1 at1 cap1 cap2 w R) : Calls Tryz.prog 134 #[.int .i64 at1, .pointer (some cap1), .pointer (some cap2)] w (fun e w' => e = .returned (.tuple #[]) ∧ R w') := by
  unfold V_shadow_Shadow_Union_1 at h
  refine enter (N := 9) Tryz.func134 rfl rfl ?_
  replace h := h _ rfl
  obtain ⟨t1, hc1, h⟩ := h
  obtain ⟨t2, hc2, h⟩ := h
  refine CW.drawn (fun w => w.cell? cap1 = some (.int .u32 t1) ∧ w.cell? cap2 = some (.pointer t2) ∧ True) 5 (by kernel_rfl) fun H hH => ?_
  generalize World.drew _ = w1 at *
  have hS1 : w1.cell? cap1 = some (.int .u32 t1) ∧ w1.cell? cap2 = some (.pointer t2) ∧ True := ⟨hc1, hc2, trivial⟩
  refine HW.take (i := 0) hH rfl (by kernel_rfl) (by kernel_rfl) (Wants.free rfl) rfl (fun _ => hS1) (Rd.ld (v := .int .u32 t1) rfl (by kernel_rfl) (fun w h => h.1)) ?_
  refine HW.take (i := 1) hH rfl (by kernel_rfl) (by kernel_rfl) (Wants.free rfl) rfl (fun _ => hS1) (Rd.ld (v := .pointer t2) rfl (by kernel_rfl) (fun w h => h.2.1)) ?_
  refine HW.pure (i := 2) hH rfl (by kernel_rfl) (Wants.free rfl) rfl (fun _ => hS1) (Rd.move (v := .int .i64 at1) rfl) ?_
  refine HW.call (i := 3) hH (by kernel_rfl) rfl (Wants.free rfl) rfl (Cl.fn (f := 135) rfl Tryz.func135 (by kernel_rfl) rfl) h (fun e w2 h_ => ?_)
  clear h
  obtain ⟨r1, rfl, hS2, h⟩ := h_
  refine ⟨_, rfl, (fun _ => hS2), ?_⟩
  refine HW.pure (i := 4) hH rfl (by kernel_rfl) (Wants.free rfl) rfl (fun _ => hS2) (Rd.bin (v := .int .u32 (bits .or .u32 t1 r1)) rfl rfl (fun w => by kernel_rfl)) ?_
  obtain ⟨⟨o_w3, ho1⟩, hf1, h⟩ := h
  obtain ⟨w3, hw_w3⟩ : ∃ w3, w3 = World.setCell w2 cap1 (.int .u32 (bits .or .u32 t1 r1)) := ⟨_, rfl⟩
  replace h := h w3 hw_w3
  refine HW.eff (i := 5) hH (by kernel_rfl) rfl (Wants.free rfl) rfl (stE hw_w3 (Ef.st rfl rfl rfl (by kernel_rfl) ho1 hf1)) (fun hc => by cases hc) ?_
  refine HW.done hH (by kernel_rfl) ?_
  exact res0n rfl (by exact ⟨rfl, h⟩)

/- (*pomander/shadow.Shadow).Fill$1 -/
def V_shadow_Shadow_Fill_1 (at1 : Int) (cap1 : Addr) (cap2 : Addr) (w : World) (R : World → Prop) : Prop :=
  ∃ (t1 : Option Addr), w.cell? cap1 = some (.pointer t1) ∧ (∃ (t2 : Int), w.cell? cap2 = some (.int .u32 t2) ∧ (Calls Tryz.prog 123 #[.pointer t1, .int .i64 at1, .int .u32 t2] w fun e w1 => e = .returned (.tuple #[]) ∧ (R w1)))
set_option maxRecDepth 100000 in
theorem ok_shadow_Shadow_Fill_1 (at1 : Int) (cap1 : Addr) (cap2 : Addr) (w : World) (R : World → Prop) (h : V_shadow_Shadow_Fill_1 at1 cap1 cap2 w R) : Calls Tryz.prog 122 #[.int .i64 at1, .pointer (some cap1), .pointer (some cap2)] w (fun e w' => e = .returned (.tuple #[]) ∧ R w') := by
  unfold V_shadow_Shadow_Fill_1 at h
  refine enter (N := 8) Tryz.func122 rfl rfl ?_
  refine CW.region fun L hL => ?_
  obtain ⟨t1, hc1, h⟩ := h
  refine LW.rd hL rfl (Wants.free rfl) rfl (Rd.ld (v := .pointer t1) rfl (by kernel_rfl) (eqs hc1)) ?_
  refine LW.rd hL rfl (Wants.free rfl) rfl (Rd.move (v := .int .i64 at1) rfl) ?_
  obtain ⟨t2, hc2, h⟩ := h
  refine LW.rd hL rfl (Wants.free rfl) rfl (Rd.ld (v := .int .u32 t2) rfl (by kernel_rfl) (eqs hc2)) ?_
  refine LW.call hL rfl (Wants.free rfl) rfl (Cl.fn (f := 123) rfl Tryz.func123 (by kernel_rfl) rfl) h (fun e w1 h_ => ?_)
  clear h
  obtain ⟨rfl, h⟩ := h_
  refine ⟨_, rfl, ?_⟩
  refine LW.nil hL rfl ?_
  exact res0n rfl (by exact ⟨rfl, h⟩)

/- (*pomander/shadow.Shadow).Union -/
def V_shadow_Shadow_Union (s1 : Option Addr) (at1 : Int) (n1 : Int) (w : World) (R : Int → Int → World → Prop) : Prop :=
  ∀ b1 : Nat, b1 = World.size w → ∀ w1 : World, w1 = World.alloc w (.cells #[.pointer s1] 98) → (∀ b2 : Nat, b2 = World.size w1 → ∀ w2 : World, w2 = World.alloc w1 (.cells #[.int .u32 0] 22) → ((∃ o : Value, w2.cell? (⟨b2, 0, none⟩ : Addr) = some o) ∧ w2.frozen? (⟨b2, 0, none⟩ : Addr) = false ∧ ∀ w3 : World, w3 = World.setCell w2 (⟨b2, 0, none⟩ : Addr) (.int .u32 0) → (∃ (t1 : Option Addr), w3.cell? (⟨b1, 0, none⟩ : Addr) = some (.pointer t1) ∧ (Calls Tryz.prog 121 #[.pointer t1, .int .i64 at1, .int .i64 n1, .func (.func 134) #[] #[.pointer (some (⟨b2, 0, none⟩ : Addr)), .pointer (some (⟨b1, 0, none⟩ : Addr))]] w3 fun e w4 => ∃ (r3 : Int), e = .returned (.int .i64 r3) ∧ (∃ (t2 : Int), w4.cell? (⟨b2, 0, none⟩ : Addr) = some (.int .u32 t2) ∧ (R t2 r3 w4))))))
set_option maxRecDepth 100000 in
theorem ok_shadow_Shadow_Union (s1 : Option Addr) (at1 : Int) (n1 : Int) (w : World) (R : Int → Int → World → Prop) (h : V_shadow_Shadow_Union s1 at1 n1 w R) : Calls Tryz.prog 117 #[.pointer s1, .int .i64 at1, .int .i64 n1] w (fun e w' => ∃ (r1 : Int) (r2 : Int), e = .returned (.tuple #[.int .u32 r1, .int .i64 r2]) ∧ R r1 r2 w') := by
  unfold V_shadow_Shadow_Union at h
  refine enter (N := 17) Tryz.func117 rfl rfl ?_
  refine CW.seq ?_
  refine CW.region fun L hL => ?_
  obtain ⟨b1, hb_b1⟩ : ∃ b1, b1 = World.size w := ⟨_, rfl⟩
  obtain ⟨w1, hw_w1⟩ : ∃ w1, w1 = World.alloc w (.cells #[.pointer s1] 98) := ⟨_, rfl⟩
  replace h := h b1 hb_b1 w1 hw_w1
  refine LW.val hL rfl (Wants.free rfl) rfl (boxE hb_b1 hw_w1 (Vl.box (v := .pointer s1) rfl)) ?_
  refine LW.rd hL rfl (Wants.free rfl) rfl (Rd.assign (v := .int .u32 0) rfl) ?_
  refine LW.rd hL rfl (Wants.free rfl) rfl (Rd.assign (v := .int .i64 0) rfl) ?_
  refine LW.nil hL rfl ?_
  refine NW.then ?_
  refine CW.seq ?_
  refine CW.region fun L hL => ?_
  obtain ⟨b2, hb_b2⟩ : ∃ b2, b2 = World.size w1 := ⟨_, rfl⟩
  obtain ⟨w2, hw_w2⟩ : ∃ w2, w2 = World.alloc w1 (.cells #[.int .u32 0] 22) := ⟨_, rfl⟩
  replace h := h b2 hb_b2 w2 hw_w2
  refine LW.val hL rfl (Wants.free rfl) rfl (boxE hb_b2 hw_w2 (Vl.alloc (z := .int .u32 0) (by kernel_rfl))) ?_
  obtain ⟨⟨o_w3, ho1⟩, hf1, h⟩ := h
  obtain ⟨w3, hw_w3⟩ : ∃ w3, w3 = World.setCell w2 (⟨b2, 0, none⟩ : Addr) (.int .u32 0) := ⟨_, rfl⟩
  replace h := h w3 hw_w3
  refine LW.eff hL rfl (Wants.free rfl) rfl (stE hw_w3 (Ef.st rfl rfl rfl (by kernel_rfl) ho1 hf1)) ?_
  refine LW.nil hL rfl ?_
  refine NW.then ?_
  refine CW.seq ?_
  refine CW.region fun L hL => ?_
  obtain ⟨t1, hc1, h⟩ := h
  refine LW.rd hL rfl (Wants.free rfl) rfl (Rd.ld (v := .pointer t1) rfl (by kernel_rfl) (eqs hc1)) ?_
  refine LW.rd hL rfl (Wants.free rfl) rfl (Rd.move (v := .int .i64 at1) rfl) ?_
  refine LW.rd hL rfl (Wants.free rfl) rfl (Rd.move (v := .int .i64 n1) rfl) ?_
  refine LW.rd hL rfl (Wants.free rfl) rfl (Rd.makeFunc rfl) ?_
  refine LW.call hL rfl (Wants.free rfl) rfl (Cl.fn (f := 121) rfl Tryz.func121 (by kernel_rfl) rfl) h (fun e w4 h_ => ?_)
  clear h
  obtain ⟨r3, rfl, h⟩ := h_
  refine ⟨_, rfl, ?_⟩
  refine LW.rd hL rfl (Wants.free rfl) rfl (Rd.assign (v := .int .i64 r3) rfl) ?_
  refine LW.nil hL rfl ?_
  refine NW.then ?_
  refine CW.seq ?_
  refine CW.region fun L hL => ?_
  obtain ⟨t2, hc2, h⟩ := h
  refine LW.rd hL rfl (Wants.free rfl) rfl (Rd.ld (v := .int .u32 t2) rfl (by kernel_rfl) (eqs hc2)) ?_
  refine LW.rd hL rfl (Wants.free rfl) rfl (Rd.move (v := .int .i64 r3) rfl) ?_
  refine LW.rd hL rfl (Wants.free rfl) rfl (Rd.assign (v := .int .u32 t2) rfl) ?_
  refine LW.rd hL rfl (Wants.free rfl) rfl (Rd.assign (v := .int .i64 r3) rfl) ?_
  refine LW.nil hL rfl ?_
  refine NW.then ?_
  refine CW.ret ?_
  exact res2 rfl rfl rfl ⟨t2, r3, rfl, h⟩

/- (*pomander/shadow.Shadow).Fill -/
def V_shadow_Shadow_Fill (s1 : Option Addr) (at1 : Int) (n1 : Int) (set1 : Int) (w : World) (R : Int → World → Prop) : Prop :=
  ∀ b1 : Nat, b1 = World.size w → ∀ w1 : World, w1 = World.alloc w (.cells #[.pointer s1] 98) → (∀ b2 : Nat, b2 = World.size w1 → ∀ w2 : World, w2 = World.alloc w1 (.cells #[.int .u32 set1] 22) → (∃ (t1 : Option Addr), w2.cell? (⟨b1, 0, none⟩ : Addr) = some (.pointer t1) ∧ (Calls Tryz.prog 81 #[.pointer t1] w2 fun e w3 => ∃ (r2 : Bool), e = .returned (.bool r2) ∧ (∃ J1 : Bool → World → Prop, (∀ (b3 : Bool) (w4 : World), J1 b3 w4 → (b3 = true → R 2 w4) ∧ (b3 = false → ∃ (t3 : Option Addr), w4.cell? (⟨b1, 0, none⟩ : Addr) = some (.pointer t3) ∧ (Calls Tryz.prog 121 #[.pointer t3, .int .i64 at1, .int .i64 n1, .func (.func 122) #[] #[.pointer (some (⟨b1, 0, none⟩ : Addr)), .pointer (some (⟨b2, 0, none⟩ : Addr))]] w4 fun e w5 => ∃ (r3 : Int), e = .returned (.int .i64 r3) ∧ (R r3 w5)))) ∧ (((!r2) = true → ∃ (t2 : Int), w3.cell? (⟨b2, 0, none⟩ : Addr) = some (.int .u32 t2) ∧ (J1 (!((Int.fdiv t2 65536) == 0)) w3)) ∧ ((!r2) = false → J1 false w3))))))
set_option maxRecDepth 100000 in
theorem ok_shadow_Shadow_Fill (s1 : Option Addr) (at1 : Int) (n1 : Int) (set1 : Int) (w : World) (R : Int → World → Prop) (h : V_shadow_Shadow_Fill s1 at1 n1 set1 w R) : Calls Tryz.prog 111 #[.pointer s1, .int .i64 at1, .int .i64 n1, .int .u32 set1] w (fun e w' => ∃ (r1 : Int), e = .returned (.int .i64 r1) ∧ R r1 w') := by
  unfold V_shadow_Shadow_Fill at h
  refine enter (N := 22) Tryz.func111 rfl rfl ?_
  refine CW.seq ?_
  refine CW.region fun L hL => ?_
  obtain ⟨b1, hb_b1⟩ : ∃ b1, b1 = World.size w := ⟨_, rfl⟩
  obtain ⟨w1, hw_w1⟩ : ∃ w1, w1 = World.alloc w (.cells #[.pointer s1] 98) := ⟨_, rfl⟩
  replace h := h b1 hb_b1 w1 hw_w1
  refine LW.val hL rfl (Wants.free rfl) rfl (boxE hb_b1 hw_w1 (Vl.box (v := .pointer s1) rfl)) ?_
  obtain ⟨b2, hb_b2⟩ : ∃ b2, b2 = World.size w1 := ⟨_, rfl⟩
  obtain ⟨w2, hw_w2⟩ : ∃ w2, w2 = World.alloc w1 (.cells #[.int .u32 set1] 22) := ⟨_, rfl⟩
  replace h := h b2 hb_b2 w2 hw_w2
  refine LW.val hL rfl (Wants.free rfl) rfl (boxE hb_b2 hw_w2 (Vl.box (v := .int .u32 set1) rfl)) ?_
  refine LW.rd hL rfl (Wants.free rfl) rfl (Rd.assign (v := .int .i64 0) rfl) ?_
  refine LW.nil hL rfl ?_
  refine NW.then ?_
  refine CW.seq ?_
  refine CW.seq ?_
  refine CW.region fun L hL => ?_
  obtain ⟨t1, hc1, h⟩ := h
  refine LW.rd hL rfl (Wants.free rfl) rfl (Rd.ld (v := .pointer t1) rfl (by kernel_rfl) (eqs hc1)) ?_
  refine LW.call hL rfl (Wants.free rfl) rfl (Cl.fn (f := 81) rfl Tryz.func81 (by kernel_rfl) rfl) h (fun e w3 h_ => ?_)
  clear h
  obtain ⟨r2, rfl, h⟩ := h_
  refine ⟨_, rfl, ?_⟩
  refine LW.rd hL rfl (Wants.free rfl) rfl (Rd.un (v := .bool (!r2)) rfl (fun _ => by kernel_rfl)) ?_
  refine LW.rd hL rfl (Wants.free rfl) rfl (Rd.move (v := .bool (!r2)) rfl) ?_
  obtain ⟨J1, hJ1, h1_J1, h0_J1⟩ := h
  suffices K1 : ∀ (b3 : Bool) (w4 : World), J1 b3 w4 → L 8 [(1, .int .i64 at1), (2, .int .i64 n1), (4, .pointer (some (⟨b1, 0, none⟩ : Addr))), (7, .pointer (some (⟨b2, 0, none⟩ : Addr))), (8, .int .i64 0), (16, .bool b3)] w4 by
    rcases Bool.eq_false_or_eq_true (!r2) with hb1 | hb1
    · have h := h1_J1 hb1
      obtain ⟨t2, hc2, h⟩ := h
      refine LW.rd hL rfl (Wants.on rfl rfl rfl rfl rfl hb1) rfl (Rd.ld (v := .int .u32 t2) rfl (by kernel_rfl) (eqs hc2)) ?_
      refine LW.rd hL rfl (Wants.on rfl rfl rfl rfl rfl hb1) rfl (Rd.bin (v := .int .u32 (Int.fdiv t2 65536)) rfl rfl (fun w => by kernel_rfl)) ?_
      refine LW.rd hL rfl (Wants.on rfl rfl rfl rfl rfl hb1) rfl (Rd.bin (v := .bool (!((Int.fdiv t2 65536) == 0))) rfl rfl (fun w => by kernel_rfl)) ?_
      refine LW.rd hL rfl (Wants.free rfl) rfl (Rd.pickT rfl hb1 rfl) ?_
      exact LW.sub hL (by exact ⟨rfl, rfl, rfl, rfl, rfl, rfl, trivial⟩) (K1 (!((Int.fdiv t2 65536) == 0)) w3 h)
    · have h := h0_J1 hb1
      refine LW.skip hL rfl (Skips.on rfl rfl rfl rfl rfl hb1) rfl ?_
      refine LW.skip hL rfl (Skips.on rfl rfl rfl rfl rfl hb1) rfl ?_
      refine LW.skip hL rfl (Skips.on rfl rfl rfl rfl rfl hb1) rfl ?_
      refine LW.rd hL rfl (Wants.free rfl) rfl (Rd.pickF rfl hb1 rfl) ?_
      exact LW.sub hL (by exact ⟨rfl, rfl, rfl, rfl, rfl, rfl, trivial⟩) (K1 false w3 h)
  intro b3 w4 h_
  have h := hJ1 b3 w4 h_; clear h_
  refine LW.nil hL rfl ?_
  refine NW.then ?_
  refine CW.cond rfl (fun hb2 => ?_) (fun hb2 => ?_)
  · replace h := h.1 hb2
    refine CW.seq ?_
    refine CW.region fun L hL => ?_
    refine LW.rd hL rfl (Wants.free rfl) rfl (Rd.assign (v := .int .i64 2) rfl) ?_
    refine LW.nil hL rfl ?_
    refine NW.then ?_
    refine CW.ret ?_
    refine RW.then ?_
    exact res1 rfl rfl ⟨2, rfl, h⟩
  · replace h := h.2 hb2
    refine CW.skip ?_
    refine NW.then ?_
    refine CW.seq ?_
    refine CW.region fun L hL => ?_
    obtain ⟨t3, hc3, h⟩ := h
    refine LW.rd hL rfl (Wants.free rfl) rfl (Rd.ld (v := .pointer t3) rfl (by kernel_rfl) (eqs hc3)) ?_
    refine LW.rd hL rfl (Wants.free rfl) rfl (Rd.move (v := .int .i64 at1) rfl) ?_
    refine LW.rd hL rfl (Wants.free rfl) rfl (Rd.move (v := .int .i64 n1) rfl) ?_
    refine LW.rd hL rfl (Wants.free rfl) rfl (Rd.makeFunc rfl) ?_
    refine LW.call hL rfl (Wants.free rfl) rfl (Cl.fn (f := 121) rfl Tryz.func121 (by kernel_rfl) rfl) h (fun e w5 h_ => ?_)
    clear h
    obtain ⟨r3, rfl, h⟩ := h_
    refine ⟨_, rfl, ?_⟩
    refine LW.rd hL rfl (Wants.free rfl) rfl (Rd.assign (v := .int .i64 r3) rfl) ?_
    refine LW.nil hL rfl ?_
    refine NW.then ?_
    refine CW.ret ?_
    exact res1 rfl rfl ⟨r3, rfl, h⟩

/- (*pomander/shadow.Shadow).Get -/
def V_shadow_Shadow_Get (s1 : Option Addr) (at1 : Int) (w : World) (R : Int → Int → World → Prop) : Prop :=
  Calls Tryz.prog 117 #[.pointer s1, .int .i64 at1, .int .i64 1] w fun e w1 => ∃ (r3 : Int) (r4 : Int), e = .returned (.tuple #[.int .u32 r3, .int .i64 r4]) ∧ (R r3 r4 w1)
set_option maxRecDepth 100000 in
theorem ok_shadow_Shadow_Get (s1 : Option Addr) (at1 : Int) (w : World) (R : Int → Int → World → Prop) (h : V_shadow_Shadow_Get s1 at1 w R) : Calls Tryz.prog 97 #[.pointer s1, .int .i64 at1] w (fun e w' => ∃ (r1 : Int) (r2 : Int), e = .returned (.tuple #[.int .u32 r1, .int .i64 r2]) ∧ R r1 r2 w') := by
  unfold V_shadow_Shadow_Get at h
  refine enter (N := 11) Tryz.func97 rfl rfl ?_
  refine CW.seq ?_
  refine CW.region fun L hL => ?_
  refine LW.rd hL rfl (Wants.free rfl) rfl (Rd.assign (v := .int .u32 0) rfl) ?_
  refine LW.rd hL rfl (Wants.free rfl) rfl (Rd.assign (v := .int .i64 0) rfl) ?_
  refine LW.nil hL rfl ?_
  refine NW.then ?_
  refine CW.seq ?_
  refine CW.region fun L hL => ?_
  refine LW.rd hL rfl (Wants.free rfl) rfl (Rd.move (v := .pointer s1) rfl) ?_
  refine LW.rd hL rfl (Wants.free rfl) rfl (Rd.move (v := .int .i64 at1) rfl) ?_
  refine LW.call hL rfl (Wants.free rfl) rfl (Cl.fn (f := 117) rfl Tryz.func117 (by kernel_rfl) rfl) h (fun e w1 h_ => ?_)
  clear h
  obtain ⟨r3, r4, rfl, h⟩ := h_
  refine ⟨_, rfl, ?_⟩
  refine LW.rd hL rfl (Wants.free rfl) rfl (Rd.extract (v := .int .u32 r3) rfl rfl) ?_
  refine LW.rd hL rfl (Wants.free rfl) rfl (Rd.extract (v := .int .i64 r4) rfl rfl) ?_
  refine LW.rd hL rfl (Wants.free rfl) rfl (Rd.assign (v := .int .u32 r3) rfl) ?_
  refine LW.rd hL rfl (Wants.free rfl) rfl (Rd.assign (v := .int .i64 r4) rfl) ?_
  refine LW.nil hL rfl ?_
  refine NW.then ?_
  refine CW.ret ?_
  exact res2 rfl rfl rfl ⟨r3, r4, rfl, h⟩

/- (*pomander/shadow.Shadow).Set -/
def V_shadow_Shadow_Set (s1 : Option Addr) (at1 : Int) (set1 : Int) (w : World) (R : Int → World → Prop) : Prop :=
  Calls Tryz.prog 111 #[.pointer s1, .int .i64 at1, .int .i64 1, .int .u32 set1] w fun e w1 => ∃ (r2 : Int), e = .returned (.int .i64 r2) ∧ (R r2 w1)
set_option maxRecDepth 100000 in
theorem ok_shadow_Shadow_Set (s1 : Option Addr) (at1 : Int) (set1 : Int) (w : World) (R : Int → World → Prop) (h : V_shadow_Shadow_Set s1 at1 set1 w R) : Calls Tryz.prog 91 #[.pointer s1, .int .i64 at1, .int .u32 set1] w (fun e w' => ∃ (r1 : Int), e = .returned (.int .i64 r1) ∧ R r1 w') := by
  unfold V_shadow_Shadow_Set at h
  refine enter (N := 11) Tryz.func91 rfl rfl ?_
  refine CW.seq ?_
  refine CW.region fun L hL => ?_
  refine LW.rd hL rfl (Wants.free rfl) rfl (Rd.assign (v := .int .i64 0) rfl) ?_
  refine LW.nil hL rfl ?_
  refine NW.then ?_
  refine CW.seq ?_
  refine CW.region fun L hL => ?_
  refine LW.rd hL rfl (Wants.free rfl) rfl (Rd.move (v := .pointer s1) rfl) ?_
  refine LW.rd hL rfl (Wants.free rfl) rfl (Rd.move (v := .int .i64 at1) rfl) ?_
  refine LW.rd hL rfl (Wants.free rfl) rfl (Rd.move (v := .int .u32 set1) rfl) ?_
  refine LW.call hL rfl (Wants.free rfl) rfl (Cl.fn (f := 111) rfl Tryz.func111 (by kernel_rfl) rfl) h (fun e w1 h_ => ?_)
  clear h
  obtain ⟨r2, rfl, h⟩ := h_
  refine ⟨_, rfl, ?_⟩
  refine LW.rd hL rfl (Wants.free rfl) rfl (Rd.assign (v := .int .i64 r2) rfl) ?_
  refine LW.nil hL rfl ?_
  refine NW.then ?_
  refine CW.ret ?_
  exact res1 rfl rfl ⟨r2, rfl, h⟩

/- pomander/shadow.New -/
def V_shadow_New (pages1 : Int) (w : World) (R : (Option Addr) → Int → World → Prop) : Prop :=
  ((decide (pages1 < 1) || decide (pages1 > 32)) = true → R none 2 w) ∧ ((decide (pages1 < 1) || decide (pages1 > 32)) = false → ∀ b1 : Nat, b1 = World.size w → ∀ w1 : World, w1 = World.alloc w (.map #[] 0) → (∀ b2 : Nat, b2 = World.size w1 → ∀ w2 : World, w2 = World.alloc w1 (.cells #[.int .i64 pages1, .map (some b1)] 158) → (R (some (⟨b2, 0, none⟩ : Addr)) 0 w2)))
set_option maxRecDepth 100000 in
theorem ok_shadow_New (pages1 : Int) (w : World) (R : (Option Addr) → Int → World → Prop) (h : V_shadow_New pages1 w R) : Calls Tryz.prog 58 #[.int .i64 pages1] w (fun e w' => ∃ (r1 : Option Addr) (r2 : Int), e = .returned (.tuple #[.pointer r1, .int .i64 r2]) ∧ R r1 r2 w') := by
  unfold V_shadow_New at h
  refine enter (N := 14) Tryz.func58 rfl rfl ?_
  refine CW.seq ?_
  refine CW.region fun L hL => ?_
  refine LW.rd hL rfl (Wants.free rfl) rfl (Rd.assign (v := .pointer none) rfl) ?_
  refine LW.rd hL rfl (Wants.free rfl) rfl (Rd.assign (v := .int .i64 0) rfl) ?_
  refine LW.nil hL rfl ?_
  refine NW.then ?_
  refine CW.seq ?_
  refine CW.seq ?_
  refine CW.region fun L hL => ?_
  refine LW.rd hL rfl (Wants.free rfl) rfl (Rd.move (v := .int .i64 pages1) rfl) ?_
  refine LW.rd hL rfl (Wants.free rfl) rfl (Rd.bin (v := .bool (decide (pages1 < 1))) rfl rfl (fun w => by kernel_rfl)) ?_
  refine LW.rd hL rfl (Wants.free rfl) rfl (Rd.move (v := .bool (decide (pages1 < 1))) rfl) ?_
  suffices K1 : L 6 [(0, .int .i64 pages1), (2, .pointer none), (3, .int .i64 0), (9, .bool (decide (pages1 < 1) || decide (pages1 > 32)))] w by
    rcases Bool.eq_false_or_eq_true (decide (pages1 < 1)) with hb2 | hb2
    · skip
      refine LW.skip hL rfl (Skips.on rfl rfl rfl rfl rfl hb2) rfl ?_
      refine LW.skip hL rfl (Skips.on rfl rfl rfl rfl rfl hb2) rfl ?_
      refine LW.rd hL rfl (Wants.free rfl) rfl (Rd.pickT rfl hb2 rfl) ?_
      exact LW.sub hL (by exact ⟨rfl, rfl, rfl, (by rw [hb2]; rfl), trivial⟩) K1
    · skip
      refine LW.rd hL rfl (Wants.on rfl rfl rfl rfl rfl hb2) rfl (Rd.move (v := .int .i64 pages1) rfl) ?_
      refine LW.rd hL rfl (Wants.on rfl rfl rfl rfl rfl hb2) rfl (Rd.bin (v := .bool (decide (pages1 > 32))) rfl rfl (fun w => by kernel_rfl)) ?_
      refine LW.rd hL rfl (Wants.free rfl) rfl (Rd.pickF rfl hb2 rfl) ?_
      exact LW.sub hL (by exact ⟨rfl, rfl, rfl, (by rw [hb2]; rfl), trivial⟩) K1
  refine LW.nil hL rfl ?_
  refine NW.then ?_
  refine CW.cond rfl (fun hb3 => ?_) (fun hb3 => ?_)
  · replace h := h.1 hb3
    refine CW.seq ?_
    refine CW.region fun L hL => ?_
    refine LW.rd hL rfl (Wants.free rfl) rfl (Rd.assign (v := .pointer none) rfl) ?_
    refine LW.rd hL rfl (Wants.free rfl) rfl (Rd.assign (v := .int .i64 2) rfl) ?_
    refine LW.nil hL rfl ?_
    refine NW.then ?_
    refine CW.ret ?_
    refine RW.then ?_
    exact res2 rfl rfl rfl ⟨none, 2, rfl, h⟩
  · replace h := h.2 hb3
    refine CW.skip ?_
    refine NW.then ?_
    refine CW.seq ?_
    refine CW.region fun L hL => ?_
    refine LW.rd hL rfl (Wants.free rfl) rfl (Rd.move (v := .int .i64 pages1) rfl) ?_
    obtain ⟨b1, hb_b1⟩ : ∃ b1, b1 = World.size w := ⟨_, rfl⟩
    obtain ⟨w1, hw_w1⟩ : ∃ w1, w1 = World.alloc w (.map #[] 0) := ⟨_, rfl⟩
    replace h := h b1 hb_b1 w1 hw_w1
    refine LW.val hL rfl (Wants.free rfl) rfl (mapE hb_b1 hw_w1 Vl.makeMap) ?_
    refine LW.rd hL rfl (Wants.free rfl) rfl (Rd.build (v := .agg #[.int .i64 pages1, .map (some b1)]) rfl (fun _ => by kernel_rfl)) ?_
    obtain ⟨b2, hb_b2⟩ : ∃ b2, b2 = World.size w1 := ⟨_, rfl⟩
    obtain ⟨w2, hw_w2⟩ : ∃ w2, w2 = World.alloc w1 (.cells #[.int .i64 pages1, .map (some b1)] 158) := ⟨_, rfl⟩
    replace h := h b2 hb_b2 w2 hw_w2
    refine LW.val hL rfl (Wants.free rfl) rfl (boxE hb_b2 hw_w2 (Vl.box (v := .agg #[.int .i64 pages1, .map (some b1)]) rfl)) ?_
    refine LW.rd hL rfl (Wants.free rfl) rfl (Rd.assign (v := .pointer (some (⟨b2, 0, none⟩ : Addr))) rfl) ?_
    refine LW.rd hL rfl (Wants.free rfl) rfl (Rd.assign (v := .int .i64 0) rfl) ?_
    refine LW.nil hL rfl ?_
    refine NW.then ?_
    refine CW.ret ?_
    exact res2 rfl rfl rfl ⟨some (⟨b2, 0, none⟩ : Addr), 0, rfl, h⟩

end Go.Proofs.YtfcfkhbkkfpehaaGreat
end

/- XShadow -/
section
/- Shadows: what stands there; get, put. -/
set_option linter.unusedVariables false
set_option linter.unusedSimpArgs false
namespace Go.Proofs.YtfcfkhbkkfpehaaGreat
open Go Go.RowKit Go.X

theorem wr {n : Int} (h1 : -9223372036854775808 ≤ n) (h2 : n ≤ 9223372036854775807) : IntKind.wrap .i64 n = n := by rw [IntKind.wrap_i64]; omega

/-- How many of 64 bytes have a set. -/
def many (s : Nat → Int) : Nat := (List.range 64).countP (fun i => s i != 0)

theorem countP_set {l : List Nat} (hn : l.Nodup) {i : Nat} (hi : i ∈ l) (p q : Nat → Bool) (h : ∀ j, j ≠ i → p j = q j) : l.countP q + (if p i then 1 else 0) = l.countP p + (if q i then 1 else 0) := by
  induction l with
  | nil => simp at hi
  | cons a l ih =>
    simp only [List.nodup_cons] at hn
    simp only [List.countP_cons]
    rcases List.mem_cons.1 hi with rfl | hm
    · have : l.countP q = l.countP p := List.countP_congr (fun x hx => by rw [h x (fun e => hn.1 (e ▸ hx))])
      rw [this]; omega
    · have := ih hn.2 hm
      have ha : p a = q a := h a (fun e => hn.1 (e ▸ hm))
      rw [ha]; omega

theorem many_set (s t : Nat → Int) {i : Nat} (hi : i < 64) (h : ∀ j, j ≠ i → s j = t j) : many t + (if s i = 0 then 0 else 1) = many s + (if t i = 0 then 0 else 1) := by
  have := countP_set List.nodup_range (List.mem_range.2 hi) (fun i => s i != 0) (fun i => t i != 0) (fun j hj => by simp [h j hj])
  unfold many
  have e1 : (if (s i != 0) = true then 1 else 0) = (if s i = 0 then 0 else 1) := by by_cases h : s i = 0 <;> simp [h]
  have e2 : (if (t i != 0) = true then 1 else 0) = (if t i = 0 then 0 else 1) := by by_cases h : t i = 0 <;> simp [h]
  rw [e1, e2] at this; exact this
theorem many_pos {s : Nat → Int} {i : Nat} (hi : i < 64) (h : s i ≠ 0) : 0 < many s := List.countP_pos_iff.2 ⟨i, List.mem_range.2 hi, by simpa using h⟩
theorem many_zero {s : Nat → Int} (h : many s = 0) {i : Nat} (hi : i < 64) : s i = 0 := by
  rcases Decidable.em (s i = 0) with h' | h'
  · exact h'
  · have := many_pos hi h'; omega
theorem many_none {s : Nat → Int} (h : ∀ i, i < 64 → s i = 0) : many s = 0 := List.countP_eq_zero.2 (fun i hi => by simp [h i (List.mem_range.1 hi)])

/-- The cells of a page: how many, and each byte's set. -/
def PageC (w : World) (q : Nat) (n : Int) (s : Nat → Int) : Prop :=
  ∃ c : Array Value, w.heap[q]? = some (.cells c 167 (0, 0)) ∧ c.size = 65 ∧ c[0]? = some (.int .i64 n) ∧ ∀ i, i < 64 → c[1 + i]? = some (.int .u32 (s i))
theorem PageC.chg {w w' : World} {f : List Nat} {q : Nat} {n : Int} {s : Nat → Int} (h : PageC w q n s) (hc : Chg f w w') (hf : q ∉ f) : PageC w' q n s := by
  obtain ⟨c, h1, h2⟩ := h; exact ⟨c, hc.obj hf h1, h2⟩
theorem PageC.lt {w : World} {q : Nat} {n : Int} {s : Nat → Int} (h : PageC w q n s) : q < w.heap.size := by obtain ⟨c, h1, _⟩ := h; exact lt_of_heap h1

def encPg (q : Nat) : Value := .pointer (some ⟨q, 0, none⟩)
def pg (g : Int → Int) (n : Int) (i : Nat) : Int := g (64 * n + i)

/-- What a shadow is. -/
structure ShadowAt (w : World) (b : Nat) (pages : Int) (g : Int → Int) (fp : List Nat) : Prop where
  there : ∃ (r : Nat) (l : List (Int × Nat)), w.heap[b]? = some (.cells #[.int .i64 pages, .map (some r)] 158 (0, 0)) ∧ MapIs w r (fun n : Int => .int .i64 n) encPg l ∧
    (∀ x ∈ l, 0 ≤ x.1 ∧ x.1 < pages ∧ PageC w x.2 (many (pg g x.1)) (pg g x.1) ∧ 0 < many (pg g x.1)) ∧ (∀ n, lookK n l = none → ∀ i, i < 64 → pg g n i = 0) ∧ fp = b :: r :: l.map Prod.snd
  nodup : fp.Nodup
  pages1 : 1 ≤ pages
  pages2 : pages ≤ 32
  each : ∀ i, 0 ≤ g i ∧ g i < 65536

theorem ShadowAt.lt {w : World} {b : Nat} {pages : Int} {g : Int → Int} {fp : List Nat} (h : ShadowAt w b pages g fp) : ∀ i ∈ fp, i < w.heap.size := by
  obtain ⟨r, l, h1, h2, h3, h4, rfl⟩ := h.there
  intro i hi
  simp only [List.mem_cons] at hi
  rcases hi with rfl | rfl | hi
  · exact lt_of_heap h1
  · exact h2.lt
  · obtain ⟨x, hx, rfl⟩ := List.mem_map.1 hi
    exact (h3 x hx).2.2.1.lt
theorem ShadowAt.chg {w w' : World} {b : Nat} {pages : Int} {g : Int → Int} {fp f : List Nat} (h : ShadowAt w b pages g fp) (hc : Chg f w w') (hf : ∀ i ∈ fp, i ∉ f) : ShadowAt w' b pages g fp := by
  obtain ⟨r, l, h1, h2, h3, h4, rfl⟩ := h.there
  simp only [List.mem_cons, forall_eq_or_imp] at hf
  obtain ⟨f1, f2, f3⟩ := hf
  exact { h with there := ⟨r, l, hc.obj f1 h1, h2.chg hc f2, fun x hx => ⟨(h3 x hx).1, (h3 x hx).2.1, (h3 x hx).2.2.1.chg hc (f3 _ (List.mem_map.2 ⟨x, hx, rfl⟩)), (h3 x hx).2.2.2⟩, h4, rfl⟩ }
theorem div64 {at1 : Int} (h : 0 ≤ at1) : Int.tdiv at1 64 = at1 / 64 := Int.tdiv_eq_ediv_of_nonneg h
theorem mod64 {at1 : Int} (h : 0 ≤ at1) : Int.tmod at1 64 = at1 % 64 := Int.tmod_eq_emod_of_nonneg h
theorem pg_at (g : Int → Int) {at1 : Int} : pg g (at1 / 64) (at1 % 64).toNat = g at1 := by unfold pg; congr 1; omega
theorem ShadowAt.out {w : World} {b : Nat} {pages : Int} {g : Int → Int} {fp : List Nat} (h : ShadowAt w b pages g fp) {i : Int} (hi : i < 0 ∨ 64 * pages ≤ i) : g i = 0 := by
  obtain ⟨r, l, h1, h2, h3, h4, rfl⟩ := h.there
  rw [← pg_at g]
  refine h4 _ ?_ _ (by omega)
  rw [lookK_none]
  intro x hx
  have := h3 x hx
  omega

theorem shadow_none {w : World} {b : Nat} {pages : Int} {g : Int → Int} {fp : List Nat} (h : ShadowAt w b pages g fp) :
    Calls Tryz.prog 81 #[.pointer (some ⟨b, 0, none⟩)] w fun e w' => ∃ r : Bool, e = .returned (.bool r) ∧ (r = false ∧ w' = w) := by
  obtain ⟨r, l, h1, _⟩ := h.there
  refine ok_shadow_Shadow_none _ _ _ ?_
  unfold V_shadow_Shadow_none
  refine ⟨_, fun s w h => h, fun _ => ⟨_, rfl, pages, by rw [cell_of h1]; rfl, ?_, rfl⟩, fun h => by simp at h⟩
  have := h.pages1
  simp; omega
theorem shadow_size {w : World} {b : Nat} {pages : Int} {g : Int → Int} {fp : List Nat} (h : ShadowAt w b pages g fp) :
    Calls Tryz.prog 138 #[.pointer (some ⟨b, 0, none⟩)] w fun e w' => ∃ r : Int, e = .returned (.int .i64 r) ∧ (r = 64 * pages ∧ w' = w) := by
  obtain ⟨r, l, h1, _⟩ := h.there
  refine ok_shadow_Shadow_Size _ _ _ ?_
  unfold V_shadow_Shadow_Size
  refine (shadow_none h).mono ?_
  rintro _ w1 ⟨_, rfl, rfl, rfl⟩
  have := h.pages1
  have := h.pages2
  exact ⟨_, rfl, fun h => by simp at h, fun _ => ⟨_, rfl, pages, by rw [cell_of h1]; rfl, by rw [wr (by omega) (by omega)]; omega, rfl⟩⟩
theorem shadow_get {w : World} {b : Nat} {pages : Int} {g : Int → Int} {fp : List Nat} (h : ShadowAt w b pages g fp) {at1 : Int} (h0 : 0 ≤ at1) (hs : at1 < 64 * pages) :
    Calls Tryz.prog 135 #[.pointer (some ⟨b, 0, none⟩), .int .i64 at1] w fun e w' => ∃ r : Int, e = .returned (.int .u32 r) ∧ (r = g at1 ∧ w' = w) := by
  have hp := h.pages2
  obtain ⟨r, l, h1, h2, h3, h4, _⟩ := h.there
  refine ok_shadow_Shadow_get _ _ _ _ ?_
  unfold V_shadow_Shadow_get
  rw [div64 h0, mod64 h0, wr (by omega) (by omega)]
  have hl := h2.lookup (P := Tryz.prog) u173 keyInt zero174 (at1 / 64) true
  simp only [if_true] at hl
  refine ⟨_, rfl, some r, by rw [add_at, cell_of h1]; rfl, ?_⟩
  cases hk : lookK (at1 / 64) l with
  | none =>
    rw [hk] at hl
    refine ⟨none, false, hl, fun _ => ⟨?_, rfl⟩, fun h => by simp at h⟩
    rw [← pg_at g]; exact (h4 _ hk _ (by omega)).symm
  | some q =>
    rw [hk] at hl
    obtain ⟨c, hc, hsz, _, hcells⟩ := (h3 _ (lookK_mem hk)).2.2.1
    refine ⟨some ⟨q, 0, none⟩, true, hl, fun h => by simp at h, fun _ => ⟨_, rfl, by omega, by omega, g at1, ?_, rfl, rfl⟩⟩
    rw [add_at, add_at, cell_of hc, Nat.mul_one]
    have := hcells (at1 % 64).toNat (by omega)
    simp only [pg_at] at this
    simpa using this

def putG (g : Int → Int) (at1 set : Int) : Int → Int := fun i => if i = at1 then set else g i
theorem pg_put_same (g : Int → Int) (at1 set : Int) (i : Nat) (hi : i < 64) : pg (putG g at1 set) (at1 / 64) i = if i = (at1 % 64).toNat then set else pg g (at1 / 64) i := by
  unfold pg putG
  by_cases h : i = (at1 % 64).toNat
  · rw [if_pos h, if_pos (by omega)]
  · rw [if_neg h, if_neg (by omega)]
theorem pg_put_other (g : Int → Int) (at1 set : Int) {n : Int} (hn : n ≠ at1 / 64) (i : Nat) (hi : i < 64) : pg (putG g at1 set) n i = pg g n i := by
  unfold pg putG
  rw [if_neg (by omega)]
theorem many_congr {s t : Nat → Int} (h : ∀ i, i < 64 → s i = t i) : many s = many t := List.countP_congr (fun i hi => by simp [h i (List.mem_range.1 hi)])
theorem PageC.congr {w : World} {q : Nat} {n : Int} {s t : Nat → Int} (h : PageC w q n s) (he : ∀ i, i < 64 → s i = t i) : PageC w q n t := by
  obtain ⟨c, h1, h2, h3, h4⟩ := h; exact ⟨c, h1, h2, h3, fun i hi => by rw [h4 i hi, he i hi]⟩
/-- In the midst of a put: page q of number n is there, with so many. -/
structure Mid (w : World) (b r q : Nat) (pages : Int) (g : Int → Int) (n : Int) (l : List (Int × Nat)) : Prop where
  hb : w.heap[b]? = some (.cells #[.int .i64 pages, .map (some r)] 158 (0, 0))
  hm : MapIs w r (fun n : Int => .int .i64 n) encPg l
  hq : lookK n l = some q
  hn : 0 ≤ n ∧ n < pages
  others : ∀ x ∈ l, x.1 ≠ n → 0 ≤ x.1 ∧ x.1 < pages ∧ PageC w x.2 (many (pg g x.1)) (pg g x.1) ∧ 0 < many (pg g x.1)
  nones : ∀ m, lookK m l = none → ∀ i, i < 64 → pg g m i = 0
  page : PageC w q (many (pg g n)) (pg g n)
  nodup : (b :: r :: l.map Prod.snd).Nodup

/-- The end of a put, from the midst of it. -/
theorem shadow_put_mid {w : World} {b r q : Nat} {pages : Int} {g : Int → Int} {l : List (Int × Nat)} {at1 set : Int} (h0 : 0 ≤ at1) (hp : pages ≤ 32) (hm : Mid w b r q pages g (at1 / 64) l)
    (hs0 : 0 ≤ set) {R : World → Prop}
    (hR : ∀ w' l', w'.heap[b]? = some (.cells #[.int .i64 pages, .map (some r)] 158 (0, 0)) → MapIs w' r (fun n : Int => .int .i64 n) encPg l' →
      (∀ x ∈ l', 0 ≤ x.1 ∧ x.1 < pages ∧ PageC w' x.2 (many (pg (putG g at1 set) x.1)) (pg (putG g at1 set) x.1) ∧ 0 < many (pg (putG g at1 set) x.1)) →
      (∀ n, lookK n l' = none → ∀ i, i < 64 → pg (putG g at1 set) n i = 0) → (l'.map Prod.snd).Sublist (l.map Prod.snd) → Chg [r, q] w w' → R w') :
    ∃ J2 : Unit → World → Prop, (∀ (s3 : Unit) (w2 : World), J2 s3 w2 → ∃ J3 : Unit → World → Prop, (∀ (s4 : Unit) (w3 : World), J3 s4 w3 → ∃ a2 : Addr, some (⟨q, 0, none⟩ : Addr) = some a2 ∧ (0 ≤ at1 % 64 ∧ at1 % 64 < 64 ∧ ((∃ o : Value, w3.cell? ((a2.add 1).add ((at1 % 64).toNat * 1)) = some o) ∧ w3.frozen? ((a2.add 1).add ((at1 % 64).toNat * 1)) = false ∧ ∀ w4 : World, w4 = World.setCell w3 ((a2.add 1).add ((at1 % 64).toNat * 1)) (.int .u32 set) → (∃ a3 : Addr, some (⟨q, 0, none⟩ : Addr) = some a3 ∧ (∃ (t2 : Int), w4.cell? a3 = some (.int .i64 t2) ∧ (((t2 == 0) = true → ∃ a4 : Addr, some (⟨b, 0, none⟩ : Addr) = some a4 ∧ (∃ (t3 : Option Nat), w4.cell? (a4.add 1) = some (.map t3) ∧ (∃ w5 : World, (Builtin.delete_ #[156, 3] 0 #[.map t3, .int .i64 (at1 / 64)]).run Tryz.prog w4 = .ok (.tuple #[]) w5 ∧ (R w5)))) ∧ ((t2 == 0) = false → R w4))))))) ∧ (((!(set == 0)) = true → ∃ a5 : Addr, some (⟨q, 0, none⟩ : Addr) = some a5 ∧ (∃ (t4 : Int), w2.cell? a5 = some (.int .i64 t4) ∧ (∃ a6 : Addr, some (⟨q, 0, none⟩ : Addr) = some a6 ∧ ((∃ o : Value, w2.cell? a6 = some o) ∧ w2.frozen? a6 = false ∧ ∀ w6 : World, w6 = World.setCell w2 a6 (.int .i64 (IntKind.wrap .i64 (t4 + 1))) → (J3 () w6))))) ∧ ((!(set == 0)) = false → J3 () w2))) ∧ (∃ a7 : Addr, some (⟨q, 0, none⟩ : Addr) = some a7 ∧ (0 ≤ at1 % 64 ∧ at1 % 64 < 64 ∧ (∃ (t5 : Int), w.cell? ((a7.add 1).add ((at1 % 64).toNat * 1)) = some (.int .u32 t5) ∧ (((!(t5 == 0)) = true → ∃ a8 : Addr, some (⟨q, 0, none⟩ : Addr) = some a8 ∧ (∃ (t6 : Int), w.cell? a8 = some (.int .i64 t6) ∧ (∃ a9 : Addr, some (⟨q, 0, none⟩ : Addr) = some a9 ∧ ((∃ o : Value, w.cell? a9 = some o) ∧ w.frozen? a9 = false ∧ ∀ w7 : World, w7 = World.setCell w a9 (.int .i64 (IntKind.wrap .i64 (t6 - 1))) → (J2 () w7))))) ∧ ((!(t5 == 0)) = false → J2 () w))))) := by
  obtain ⟨hb, hmap, hq, hn, others, nones, page, nodup⟩ := hm
  have hi : (at1 % 64).toNat < 64 := by omega
  have hmany64 : many (pg g (at1 / 64)) ≤ 64 := by
    have := List.countP_le_length (p := fun i => pg g (at1 / 64) i != 0) (l := List.range 64)
    simpa [many] using this
  have hset := many_set (pg g (at1 / 64)) (fun i => if i = (at1 % 64).toNat then set else pg g (at1 / 64) i) hi (fun j hj => by simp [hj])
  simp only [if_true, pg_at] at hset
  have hcong : many (pg (putG g at1 set) (at1 / 64)) = many (fun i => if i = (at1 % 64).toNat then set else pg g (at1 / 64) i) := many_congr fun i hi => pg_put_same g at1 set i hi
  -- the count behind the two steps
  have hcell : ∀ {w2 : World} {k : Int}, PageC w2 q k (pg g (at1 / 64)) → ∀ (v : Int) {K : World → Prop}, (∀ w', PageC w' q v (pg g (at1 / 64)) → Chg [q] w2 w' → K w') →
      (∃ u : Value, w2.cell? (⟨q, 0, none⟩ : Addr) = some u) ∧ w2.frozen? (⟨q, 0, none⟩ : Addr) = false ∧ ∀ w7, w7 = World.setCell w2 (⟨q, 0, none⟩ : Addr) (.int .i64 v) → K w7 := by
    intro w2 k hpc v K hK
    obtain ⟨c, hc, hsz, hc0, hcs⟩ := hpc
    refine v_set0 hc (by omega) fun w' h' c' _ => hK w' ⟨_, h', by simpa using hsz, by simp [hsz], fun i hi => ?_⟩ c'
    rw [Array.getElem?_setIfInBounds_ne (by omega)]; exact hcs i hi
  have hread : ∀ {w2 : World} {k : Int}, PageC w2 q k (pg g (at1 / 64)) → w2.cell? (⟨q, 0, none⟩ : Addr) = some (.int .i64 k) := by
    intro w2 k hpc
    obtain ⟨c, hc, hsz, hc0, hcs⟩ := hpc
    rw [cell_of hc]; exact hc0
  refine ⟨fun _ w2 => Chg [q] w w2 ∧ PageC w2 q ((many (pg g (at1 / 64)) : Int) - if g at1 = 0 then 0 else 1) (pg g (at1 / 64)), ?_, ?_⟩
  rotate_left
  · refine ⟨_, rfl, by omega, by omega, g at1, ?_, fun hne => ?_, fun he => ?_⟩
    · obtain ⟨c, hc, hsz, hc0, hcs⟩ := page
      rw [add_at, add_at, cell_of hc, Nat.mul_one]
      have := hcs (at1 % 64).toNat hi
      simp only [pg_at] at this
      simpa using this
    · have hne' : g at1 ≠ 0 := by simpa using hne
      refine ⟨_, rfl, _, hread page, _, rfl, ?_⟩
      rw [wr (by omega) (by omega)]
      exact hcell page _ fun w' hp' hc' => ⟨hc', by rw [if_neg hne']; exact hp'⟩
    · have he' : g at1 = 0 := by simpa using he
      exact ⟨Chg.refl _ _, by rw [if_pos he']; simpa using page⟩
  rintro _ w2 ⟨c2, p2⟩
  have hposs : g at1 ≠ 0 → 0 < many (pg g (at1 / 64)) := fun h => many_pos hi (by rw [pg_at]; exact h)
  refine ⟨fun _ w3 => Chg [q] w w3 ∧ PageC w3 q (many (pg (putG g at1 set) (at1 / 64))) (pg g (at1 / 64)), ?_, ?_⟩
  rotate_left
  · refine ⟨fun hne => ?_, fun he => ?_⟩
    · have hne' : set ≠ 0 := by simpa using hne
      refine ⟨_, rfl, _, hread p2, _, rfl, ?_⟩
      rw [wr (by split <;> omega) (by split <;> omega)]
      refine hcell p2 _ fun w' hp' hc' => ⟨c2.trans hc' (fun i hi _ => hi), ?_⟩
      rw [hcong]
      have : (many (pg g (at1 / 64)) : Int) - (if g at1 = 0 then 0 else 1) + 1 = (many (fun i => if i = (at1 % 64).toNat then set else pg g (at1 / 64) i) : Nat) := by
        rw [if_neg hne'] at hset
        split <;> rename_i hg
        · rw [if_pos hg] at hset; omega
        · rw [if_neg hg] at hset; omega
      rw [← this]; exact hp'
    · have he' : set = 0 := by simpa using he
      refine ⟨c2, ?_⟩
      rw [hcong]
      have : (many (pg g (at1 / 64)) : Int) - (if g at1 = 0 then 0 else 1) = (many (fun i => if i = (at1 % 64).toNat then set else pg g (at1 / 64) i) : Nat) := by
        rw [if_pos he'] at hset
        split <;> rename_i hg
        · rw [if_pos hg] at hset; omega
        · rw [if_neg hg] at hset; omega
      rw [← this]; exact p2
  rintro _ w3 ⟨c3, p3⟩
  refine ⟨_, rfl, by omega, by omega, ?_⟩
  obtain ⟨c, hc, hsz, hc0, hcs⟩ := p3
  rw [Nat.mul_one, add_at]
  refine v_set hc (by omega) fun w4 h4 c4 _ => ?_
  have p4 : PageC w4 q (many (pg (putG g at1 set) (at1 / 64))) (pg (putG g at1 set) (at1 / 64)) := by
    refine ⟨_, h4, by simpa using hsz, ?_, fun i hi' => ?_⟩
    · rw [Array.getElem?_setIfInBounds_ne (by omega)]; exact hc0
    · rw [pg_put_same g at1 set i hi']
      by_cases he : i = (at1 % 64).toNat
      · subst he
        rw [Array.getElem?_setIfInBounds_self_of_lt (by omega), if_pos rfl]
      · rw [Array.getElem?_setIfInBounds_ne (by omega), if_neg he]; exact hcs i hi'
  have c04 : Chg [q] w w4 := c3.trans c4 (fun i hi _ => hi)
  have hqmem : (at1 / 64, q) ∈ l := lookK_mem hq
  have hqin : q ∈ l.map Prod.snd := List.mem_map.2 ⟨_, hqmem, rfl⟩
  simp only [List.nodup_cons, List.mem_cons, not_or] at nodup
  obtain ⟨⟨n1, n2⟩, n3, n4⟩ := nodup
  have hqb : b ≠ q := fun e => n2 (e ▸ hqin)
  have hqr : r ≠ q := fun e => n3 (e ▸ hqin)
  have hb4 := c04.obj (by simpa using hqb) hb
  have hmap4 := hmap.chg c04 (by simpa using hqr)
  have hkeys : (l.map Prod.fst).Nodup := by obtain ⟨_, _, _, _, h, _⟩ := hmap; exact h
  have hdist : ∀ x ∈ l, x.1 ≠ at1 / 64 → x.2 ≠ q := by
    intro x hx hne he
    obtain ⟨i, hi'⟩ := List.getElem?_of_mem hx
    obtain ⟨j, hj'⟩ := List.getElem?_of_mem hqmem
    have e1 : (l.map Prod.snd)[i]? = (l.map Prod.snd)[j]? := by simp [hi', hj', he]
    have hlt : i < (l.map Prod.snd).length := by have := (List.getElem?_eq_some_iff.1 hi').1; simpa using this
    have := (List.getElem?_inj hlt n4).1 e1
    subst this
    rw [hi'] at hj'
    exact hne (by cases hj'; rfl)
  have oth4 : ∀ x ∈ l, x.1 ≠ at1 / 64 → 0 ≤ x.1 ∧ x.1 < pages ∧ PageC w4 x.2 (many (pg (putG g at1 set) x.1)) (pg (putG g at1 set) x.1) ∧ 0 < many (pg (putG g at1 set) x.1) := by
    intro x hx hne
    obtain ⟨a1, a2, a3, a4⟩ := others x hx hne
    have e : many (pg (putG g at1 set) x.1) = many (pg g x.1) := many_congr fun i hi => pg_put_other g at1 set hne i hi
    rw [e]
    exact ⟨a1, a2, (a3.chg c04 (by simpa using hdist x hx hne)).congr (fun i hi => (pg_put_other g at1 set hne i hi).symm), a4⟩
  have p4r : w4.cell? (⟨q, 0, none⟩ : Addr) = some (.int .i64 (many (pg (putG g at1 set) (at1 / 64)))) := by
    obtain ⟨c, hc, _, hc0, _⟩ := p4
    rw [cell_of hc]; exact hc0
  refine ⟨_, rfl, _, p4r, fun hz => ?_, fun hz => ?_⟩
  · have hz' : many (pg (putG g at1 set) (at1 / 64)) = 0 := by simpa using hz
    obtain ⟨w5, hd, c5, hsz5, hm5⟩ := hmap4.delete (P := Tryz.prog) (T := 156) u173 keyInt (at1 / 64) (ty := 0)
    refine ⟨_, rfl, some r, by rw [add_at, cell_of hb4]; rfl, w5, hd, ?_⟩
    refine hR w5 _ (c5.obj (by simpa using n1) hb4) hm5 ?_ ?_ ?_ ?_
    · intro x hx
      have hx' := List.mem_filter.1 hx
      have hne : x.1 ≠ at1 / 64 := by simpa using hx'.2
      obtain ⟨a1, a2, a3, a4⟩ := oth4 x hx'.1 hne
      refine ⟨a1, a2, a3.chg c5 ?_, a4⟩
      have : x.2 ∈ l.map Prod.snd := List.mem_map.2 ⟨x, hx'.1, rfl⟩
      simp; exact fun e => n3 (e ▸ this)
    · intro n hnn i hi'
      rw [lookK_del] at hnn
      by_cases he : n = at1 / 64
      · subst he; exact many_zero hz' hi'
      · rw [if_neg he] at hnn
        rw [pg_put_other g at1 set he i hi']; exact nones n hnn i hi'
    · exact List.filter_sublist.map _
    · exact (c04.mono (by simp)).trans c5 (by simp)
  · have hz' : many (pg (putG g at1 set) (at1 / 64)) ≠ 0 := by simpa using hz
    refine hR w4 l hb4 hmap4 ?_ ?_ (List.Sublist.refl _) (c04.mono (by simp))
    · intro x hx
      by_cases hne : x.1 = at1 / 64
      · have : x = (at1 / 64, q) := by
          have h1 : lookK x.1 l = some x.2 := (lookK_iff hkeys).2 hx
          rw [hne, hq] at h1
          exact Prod.ext hne (by simpa using h1.symm)
        subst this
        exact ⟨hn.1, hn.2, p4, by simp only []; omega⟩
      · exact oth4 x hx hne
    · intro n hnn i hi'
      have he : n ≠ at1 / 64 := fun e => by rw [e, hq] at hnn; cases hnn
      rw [pg_put_other g at1 set he i hi']; exact nones n hnn i hi'

theorem shadow_put {w : World} {b : Nat} {pages : Int} {g : Int → Int} {fp : List Nat} (h : ShadowAt w b pages g fp) {at1 set : Int} (h0 : 0 ≤ at1) (hs : at1 < 64 * pages) (hs0 : 0 ≤ set) (hs1 : set < 65536) :
    Calls Tryz.prog 123 #[.pointer (some ⟨b, 0, none⟩), .int .i64 at1, .int .u32 set] w fun e w' => e = .returned (.tuple #[]) ∧
      (∃ fp', ShadowAt w' b pages (putG g at1 set) fp' ∧ Chg fp w w' ∧ ∀ i ∈ fp', i ∈ fp ∨ w.heap.size ≤ i) := by
  have hp := h.pages2
  have hall := h
  obtain ⟨r, l, h1, h2, h3, h4, rfl⟩ := h.there
  have hnd := h.nodup
  refine ok_shadow_Shadow_put _ _ _ _ _ ?_
  unfold V_shadow_Shadow_put
  rw [div64 h0, mod64 h0, wr (by omega) (by omega)]
  have hl := h2.lookup (P := Tryz.prog) u173 keyInt zero174 (at1 / 64) true
  simp only [if_true] at hl
  have heach : ∀ i, 0 ≤ putG g at1 set i ∧ putG g at1 set i < 65536 := by
    intro i; unfold putG; split
    · exact ⟨hs0, hs1⟩
    · exact h.each i
  refine ⟨_, rfl, some r, by rw [add_at, cell_of h1]; rfl, ?_⟩
  cases hk : lookK (at1 / 64) l with
  | some q =>
    rw [hk] at hl
    refine ⟨some ⟨q, 0, none⟩, true, hl, fun s2 w1 => s2 = some ⟨q, 0, none⟩ ∧ w1 = w, ?_, fun h => by simp at h, fun _ => ⟨rfl, rfl⟩⟩
    rintro _ _ ⟨rfl, rfl⟩
    have hq := h3 _ (lookK_mem hk)
    refine shadow_put_mid h0 hp ⟨h1, h2, hk, ⟨by omega, by omega⟩, fun x hx _ => h3 x hx, h4, hq.2.2.1, hnd⟩ hs0 fun w' l' e1 e2 e3 e4 e5 e6 => ?_
    have hqin : q ∈ l.map Prod.snd := List.mem_map.2 ⟨_, lookK_mem hk, rfl⟩
    exact ⟨_, ⟨⟨r, l', e1, e2, e3, e4, rfl⟩, hnd.sublist ((e5.cons_cons _).cons_cons _), h.pages1, hp, heach⟩,
      e6.mono (fun i hi _ => by simp at hi ⊢; rcases hi with rfl | rfl
                                · simp
                                · right; right; simpa using hqin), fun i hi => by
        simp only [List.mem_cons] at hi ⊢
        rcases hi with rfl | rfl | hi
        · simp
        · simp
        · exact .inl (.inr (.inr (e5.subset hi)))⟩
  | none =>
    rw [hk] at hl
    have hg0 : g at1 = 0 := by rw [← pg_at g]; exact h4 _ hk _ (by omega)
    refine ⟨none, false, hl, fun s2 w1 => ∃ q l1, s2 = some ⟨q, 0, none⟩ ∧ Mid w1 b r q pages g (at1 / 64) l1 ∧ Chg [r] w w1 ∧ w.heap.size ≤ q ∧ l1 = l ++ [(at1 / 64, q)], ?_, fun _ => ⟨fun hz => ?_, fun hz => ?_⟩, fun h => by simp at h⟩
    · rintro _ w1 ⟨q, l1, rfl, hmid, c1, hq, rfl⟩
      refine shadow_put_mid h0 hp hmid hs0 fun w' l' e1 e2 e3 e4 e5 e6 => ?_
      have hnd' := hmid.nodup
      refine ⟨_, ⟨⟨r, l', e1, e2, e3, e4, rfl⟩, hnd'.sublist ((e5.cons_cons _).cons_cons _), h.pages1, hp, heach⟩, ?_, fun i hi => ?_⟩
      · exact (c1.mono (by simp)).trans e6 (fun i hi hlt => by
          simp at hi
          rcases hi with rfl | rfl
          · simp
          · omega)
      · simp only [List.mem_cons] at hi ⊢
        rcases hi with rfl | rfl | hi
        · simp
        · simp
        · have := e5.subset hi
          simp only [List.map_append, List.mem_append, List.map_cons, List.map_nil, List.mem_singleton] at this
          rcases this with h | rfl
          · exact .inl (.inr (.inr h))
          · exact .inr hq
    · have hz' : set = 0 := by simpa using hz
      refine ⟨_, ?_, Chg.refl _ _, fun i hi => .inl hi⟩
      have : putG g at1 set = g := by
        funext i; unfold putG; split
        · rename_i e; rw [e, hz', hg0]
        · rfl
      rw [this]; exact hall
    · have hz' : set ≠ 0 := by simpa using hz
      refine v_alloc fun b1 w8 e8 h8 c8 => ?_
      have h18 := c8.obj (by simp) h1
      obtain ⟨w9, hu, c9, hsz9, hm9⟩ := (h2.chg c8 (by simp)).update (P := Tryz.prog) (T := 156) u173 keyInt (at1 / 64) b1
      refine ⟨_, rfl, some r, by rw [add_at, cell_of h18]; rfl, w9, hu, b1, _, rfl, ?_, ?_, by omega, rfl⟩
      rotate_left
      · exact (c8.nil).trans c9 (fun i hi _ => hi)
      have hup : upd (at1 / 64) b1 l = l ++ [(at1 / 64, b1)] := by simp [upd, hk]
      rw [hup] at hm9
      simp only [List.nodup_cons, List.mem_cons, not_or] at hnd
      obtain ⟨⟨n1, n2⟩, n3, n4⟩ := hnd
      have hlt := hall.lt
      simp only [List.mem_cons, forall_eq_or_imp] at hlt
      obtain ⟨l1, l2, l3⟩ := hlt
      have c09 : Chg [r] w w9 := (c8.nil).trans c9 (fun i hi _ => hi)
      refine ⟨c9.obj (by simpa using n1) h18, hm9, ?_, ⟨by omega, by omega⟩, ?_, ?_, ?_, ?_⟩
      · rw [lookK_append, hk]; simp [lookK_cons]
      · intro x hx hne
        simp only [List.mem_append, List.mem_singleton] at hx
        rcases hx with hx | rfl
        · obtain ⟨a1, a2, a3, a4⟩ := h3 x hx
          have : x.2 ∈ l.map Prod.snd := List.mem_map.2 ⟨x, hx, rfl⟩
          exact ⟨a1, a2, a3.chg c09 (by simp; exact fun e => n3 (e ▸ this)), a4⟩
        · exact absurd rfl hne
      · intro m hmn i hi
        rw [lookK_append] at hmn
        exact h4 m (by simpa using (Option.or_eq_none_iff.1 hmn).1) i hi
      · have e0 : many (pg g (at1 / 64)) = 0 := many_none fun i hi => h4 _ hk i hi
        rw [e0]
        refine (PageC.chg (f := [r]) (w := w8) ?_ c9 (by simp; omega))
        refine ⟨_, h8, by simp [z167], by simp [z167], fun i hi => ?_⟩
        rw [h4 _ hk i hi]
        show (Value.int .i64 0 :: List.replicate 64 (Value.int .u32 0)).toArray[1 + i]? = _
        rw [List.getElem?_toArray, Nat.add_comm 1 i, List.getElem?_cons_succ, List.getElem?_replicate, if_pos hi]
      · simp only [List.map_append, List.map_cons, List.map_nil, List.nodup_cons, List.mem_cons, List.mem_append, List.mem_singleton, not_or]
        refine ⟨⟨n1, n2, ?_, by simp⟩, ⟨n3, ?_, by simp⟩, ?_⟩
        · omega
        · omega
        · rw [List.nodup_append]
          exact ⟨n4, by simp, fun a ha c hc e => by simp at hc; subst hc; subst e; exact absurd (l3 _ ha) (by omega)⟩
end Go.Proofs.YtfcfkhbkkfpehaaGreat
end

/- XShadow2 -/
section
/- Shadows: New, through, Union, Fill, Get, Set. -/
set_option linter.unusedVariables false
set_option linter.unusedSimpArgs false
namespace Go.Proofs.YtfcfkhbkkfpehaaGreat
open Go Go.RowKit Go.X

theorem shadow_new (w : World) (pages : Int) :
    Calls Tryz.prog 58 #[.int .i64 pages] w fun e w' => ∃ (r1 : Option Addr) (r2 : Int), e = .returned (.tuple #[.pointer r1, .int .i64 r2]) ∧
      (Chg [] w w' ∧ if 1 ≤ pages ∧ pages ≤ 32 then r2 = 0 ∧ ∃ b fp, r1 = some ⟨b, 0, none⟩ ∧ ShadowAt w' b pages (fun _ => 0) fp ∧ ∀ i ∈ fp, w.heap.size ≤ i else r1 = none ∧ r2 = 2) := by
  refine ok_shadow_New _ _ _ ?_
  unfold V_shadow_New
  refine ⟨fun h => ?_, fun h => ?_⟩
  · simp at h
    exact ⟨Chg.refl _ _, by rw [if_neg (by omega)]; simp⟩
  simp at h
  refine v_alloc fun b1 w1 e1 h1 c1 => ?_
  refine v_alloc fun b2 w2 e2 h2 c2 => ?_
  refine ⟨c1.trans0 c2, ?_⟩
  rw [if_pos (by omega)]
  have l1 : b1 < w1.heap.size := lt_of_heap h1
  have s1 := c1.size
  have hm : MapIs w1 b1 (fun n : Int => .int .i64 n) encPg [] := ⟨#[], 0, h1, rfl, by simp, by simp, by simp⟩
  exact ⟨rfl, b2, [b2, b1], rfl, ⟨⟨b1, [], h2, hm.chg c2 (by simp), by simp, fun n _ i _ => rfl, rfl⟩, by simp; omega, by omega, by omega, by simp⟩, by simp; omega⟩

/-- Bytes at .. at + n of a shadow of so many pages. -/
def inShadow (pages at1 n : Int) : Prop := 0 ≤ at1 ∧ 0 ≤ n ∧ at1 ≤ 64 * pages ∧ n ≤ 64 * pages - at1
instance (pages at1 n : Int) : Decidable (inShadow pages at1 n) := by unfold inShadow; exact inferInstance

theorem shadow_through {w : World} {b : Nat} {pages : Int} {g : Int → Int} {fp : List Nat} (h : ShadowAt w b pages g fp) {at1 n : Int} (ha : -9223372036854775808 ≤ at1 ∧ at1 ≤ 9223372036854775807) {on : Value} (Inv : Nat → World → Prop) (hI : Inv 0 w)
    (hstep : ∀ (i : Nat) w1, inShadow pages at1 n → (i : Int) < n → Inv i w1 → CallsV Tryz.prog on #[.int .i64 (at1 + i)] w1 fun e w' => e = .returned (.tuple #[]) ∧ Inv (i + 1) w') :
    Calls Tryz.prog 121 #[.pointer (some ⟨b, 0, none⟩), .int .i64 at1, .int .i64 n, on] w fun e w' => ∃ r : Int, e = .returned (.int .i64 r) ∧
      (if inShadow pages at1 n then r = 0 ∧ Inv n.toNat w' else r = 4 ∧ w' = w) := by
  have hp1 := h.pages1
  have hp2 := h.pages2
  refine ok_shadow_Shadow_through _ _ _ _ _ _ ?_
  unfold V_shadow_Shadow_through
  refine (shadow_none h).mono ?_
  rintro _ w1 ⟨_, rfl, rfl, hw⟩
  subst w1
  refine ⟨_, rfl, fun h => by simp at h, fun _ => ?_⟩
  refine ⟨fun b1 w2 => w2 = w ∧ (b1 = false → 0 ≤ at1 ∧ 0 ≤ n ∧ at1 ≤ 64 * pages) ∧ (b1 = true → ¬ inShadow pages at1 n), ?_, fun hf => ?_, fun ht => ?_⟩
  rotate_left
  · simp only [Bool.or_eq_false_iff, decide_eq_false_iff_not] at hf
    refine (shadow_size h).mono ?_
    rintro _ w3 ⟨_, rfl, rfl, hw⟩
    subst w3
    refine ⟨_, rfl, rfl, fun hb => ?_, fun hb => ?_⟩
    · simp only [decide_eq_false_iff_not] at hb; omega
    · simp only [decide_eq_true_eq] at hb; unfold inShadow; omega
  · simp only [Bool.or_eq_true, decide_eq_true_eq] at ht
    exact ⟨rfl, fun h => by simp at h, fun _ => by unfold inShadow; omega⟩
  rintro b1 w2 ⟨hw, hb1, hb2⟩
  subst w2
  refine ⟨fun b2 w4 => w4 = w ∧ (b2 = false → inShadow pages at1 n) ∧ (b2 = true → ¬ inShadow pages at1 n), ?_, fun hf => ?_, fun ht => ?_⟩
  rotate_left
  · have := hb1 hf
    refine (shadow_size h).mono ?_
    rintro _ w3 ⟨_, rfl, rfl, hw⟩
    subst w3
    refine ⟨_, rfl, rfl, fun hb => ?_, fun hb => ?_⟩
    · rw [wr (by omega) (by omega)] at hb
      simp only [decide_eq_false_iff_not] at hb
      unfold inShadow; omega
    · rw [wr (by omega) (by omega)] at hb
      simp only [decide_eq_true_eq] at hb
      unfold inShadow; omega
  · exact ⟨rfl, fun h => by simp at h, fun _ => hb2 ht⟩
  rintro b2 w4 ⟨hw, hc1, hc2⟩
  subst w4
  refine ⟨fun ht => ?_, fun hf => ?_⟩
  · simp only [if_neg (hc2 ht)]; exact ⟨trivial, trivial⟩
  have hin := hc1 hf
  simp only [if_pos hin]
  have hin' := hin
  unfold inShadow at hin'
  refine ⟨fun s w => ∃ i : Nat, s = (i : Int) ∧ (i : Int) ≤ n ∧ Inv i w, fun s _ => (n - s).toNat, ⟨0, rfl, by omega, hI⟩, ?_⟩
  rintro _ w6 ⟨i, rfl, hi, hinv⟩
  refine ⟨fun hlt => ?_, fun hge => ?_⟩
  · simp only [decide_eq_true_eq] at hlt
    rw [wr (n := at1 + i) (by omega) (by omega)]
    have := hstep i w6 hin hlt hinv
    obtain ⟨f, cap, fn, h1, h2, h3, h4, h5⟩ := this
    refine ⟨f, cap, fn, h1, h2, h3, h4, h5.mono ?_⟩
    rintro e w7 ⟨he, hi7⟩
    rw [wr (by omega) (by omega)]
    exact ⟨he, ⟨i + 1, by omega, by omega, hi7⟩, by simp only []; omega⟩
  · simp only [decide_eq_false_iff_not] at hge
    have : n.toNat = i := by omega
    rw [this]; exact ⟨trivial, hinv⟩

/-- What n bytes at one place have together. -/
def unionG (g : Int → Int) (at1 : Int) : Nat → Int
  | 0 => 0
  | n + 1 => bits .or .u32 (unionG g at1 n) (g (at1 + n))
theorem shadow_union {w : World} {b : Nat} {pages : Int} {g : Int → Int} {fp : List Nat} (h : ShadowAt w b pages g fp) {at1 n : Int} (ha : -9223372036854775808 ≤ at1 ∧ at1 ≤ 9223372036854775807) :
    Calls Tryz.prog 117 #[.pointer (some ⟨b, 0, none⟩), .int .i64 at1, .int .i64 n] w fun e w' => ∃ (r1 : Int) (r2 : Int), e = .returned (.tuple #[.int .u32 r1, .int .i64 r2]) ∧
      (Chg [] w w' ∧ if inShadow pages at1 n then r1 = unionG g at1 n.toNat ∧ r2 = 0 else r1 = 0 ∧ r2 = 4) := by
  refine ok_shadow_Shadow_Union _ _ _ _ _ ?_
  unfold V_shadow_Shadow_Union
  refine v_alloc fun b1 w1 e1 h1 c1 => ?_
  refine v_alloc fun b2 w2 e2 h2 c2 => ?_
  refine v_set0 h2 (by simp) fun w3 h3 c3 hs3 => ?_
  have l1 : b1 < w1.heap.size := lt_of_heap h1
  have l2 : b2 < w2.heap.size := lt_of_heap h2
  have s1 := c1.size
  have s2 := c2.size
  have h13 := c3.obj (by simp; omega) (c2.obj (by simp) h1)
  have c03 : Chg [] w w3 := (c1.trans0 c2).trans c3 (fun i hi hlt => by simp at hi; omega)
  refine ⟨_, by rw [cell_of h13]; rfl, ?_⟩
  have hS3 := h.chg c03 (by simp)
  refine (shadow_through (n := n) hS3 ha (fun i w' => Chg [b2] w3 w' ∧ w'.heap[b2]? = some (.cells #[.int .u32 (unionG g at1 i)] 22 (0, 0))) ⟨Chg.refl _ _, by simpa [unionG] using h3⟩ ?_).mono ?_
  · rintro i w4 hin hi ⟨c4, h4⟩
    unfold inShadow at hin
    have hfp2 : ∀ j ∈ fp, j ∉ [b2] := fun j hj hm => by simp at hm; have := h.lt j hj; omega
    refine ⟨134, _, Tryz.f134, rfl, Tryz.func134, by kernel_rfl, by kernel_rfl, ?_⟩
    refine ok_shadow_Shadow_Union_1 _ _ _ _ _ ?_
    unfold V_shadow_Shadow_Union_1
    refine v_drew fun w5 c5 => ?_
    have c35 : Chg [b2] w3 w5 := c4.trans c5.nil (fun _ h _ => h)
    have h5 := c5.obj (by simp) h4
    have h15 := c35.obj (by simp; omega) h13
    refine ⟨_, by rw [cell_of h5]; rfl, _, by rw [cell_of h15]; rfl, ?_⟩
    refine (shadow_get (hS3.chg c35 hfp2) (by omega) (by omega)).mono ?_
    rintro _ w7 ⟨_, rfl, rfl, hw⟩
    subst w7
    refine ⟨_, rfl, ⟨by rw [cell_of h5]; rfl, by rw [cell_of h15]; rfl, trivial⟩, ?_⟩
    refine v_set0 h5 (by simp) fun w6 h6 c6 _ => ⟨c35.trans c6 (fun _ h _ => h), ?_⟩
    simpa [unionG] using h6
  · rintro _ w4 ⟨r, rfl, hr⟩
    refine ⟨_, rfl, ?_⟩
    by_cases hin : inShadow pages at1 n
    · rw [if_pos hin] at hr
      obtain ⟨rfl, c4, h4⟩ := hr
      refine ⟨_, by rw [cell_of h4]; rfl, c03.trans c4 (fun i hi hlt => by simp at hi; omega), ?_⟩
      rw [if_pos hin]; exact ⟨rfl, rfl⟩
    · rw [if_neg hin] at hr
      obtain ⟨rfl, rfl⟩ := hr
      refine ⟨_, by rw [cell_of h3]; rfl, c03, ?_⟩
      rw [if_neg hin]; exact ⟨rfl, rfl⟩

def fillG (g : Int → Int) (at1 : Int) (set : Int) : Nat → Int → Int
  | 0 => g
  | n + 1 => putG (fillG g at1 set n) (at1 + n) set
theorem shadow_fill {w : World} {b : Nat} {pages : Int} {g : Int → Int} {fp : List Nat} (h : ShadowAt w b pages g fp) {at1 n set : Int} (ha : -9223372036854775808 ≤ at1 ∧ at1 ≤ 9223372036854775807) (hs0 : 0 ≤ set) :
    Calls Tryz.prog 111 #[.pointer (some ⟨b, 0, none⟩), .int .i64 at1, .int .i64 n, .int .u32 set] w fun e w' => ∃ r : Int, e = .returned (.int .i64 r) ∧
      (if 65536 ≤ set then r = 2 ∧ Chg [] w w' else if inShadow pages at1 n then r = 0 ∧ ∃ fp', ShadowAt w' b pages (fillG g at1 set n.toNat) fp' ∧ Chg fp w w' ∧ ∀ i ∈ fp', i ∈ fp ∨ w.heap.size ≤ i else r = 4 ∧ Chg [] w w') := by
  refine ok_shadow_Shadow_Fill _ _ _ _ _ _ ?_
  unfold V_shadow_Shadow_Fill
  refine v_alloc fun b1 w1 e1 h1 c1 => ?_
  refine v_alloc fun b2 w2 e2 h2 c2 => ?_
  have l1 : b1 < w1.heap.size := lt_of_heap h1
  have l2 : b2 < w2.heap.size := lt_of_heap h2
  have s1 := c1.size
  have s2 := c2.size
  have h12 := c2.obj (by simp) h1
  have c02 : Chg [] w w2 := c1.trans0 c2
  have hS2 := h.chg c02 (by simp)
  refine ⟨_, by rw [cell_of h12]; rfl, ?_⟩
  refine (shadow_none hS2).mono ?_
  rintro _ w3 ⟨_, rfl, rfl, hw⟩
  subst w3
  have hdiv : (Int.fdiv set 65536 == 0) = decide (set < 65536) := by
    rw [Int.fdiv_eq_ediv_of_nonneg _ (by omega)]
    by_cases hlt : set < 65536
    · have : set / 65536 = 0 := by omega
      simp [this, hlt]
    · have : set / 65536 ≠ 0 := by omega
      simp [this, hlt]
  refine ⟨_, rfl, fun b3 w4 => w4 = w2 ∧ b3 = decide (65536 ≤ set), ?_, fun _ => ⟨_, by rw [cell_of h2]; rfl, rfl, by rw [hdiv]; exact Bool.eq_iff_iff.2 (by simp)⟩, fun h => by simp at h⟩
  rintro b3 w4 ⟨hw, rfl⟩
  subst w4
  refine ⟨fun ht => ?_, fun hf => ?_⟩
  · simp only [decide_eq_true_eq] at ht
    simp only [if_pos ht]; exact ⟨trivial, c02⟩
  simp only [decide_eq_false_iff_not] at hf
  simp only [if_neg hf]
  refine ⟨_, by rw [cell_of h12]; rfl, ?_⟩
  have hb1 : ∀ {fp' : List Nat}, (∀ i ∈ fp', i ∈ fp ∨ w2.heap.size ≤ i) → b1 ∉ fp' ∧ b2 ∉ fp' := fun hfp => ⟨fun hm => by
      rcases hfp _ hm with h' | h'
      · have := h.lt _ h'; omega
      · omega, fun hm => by
      rcases hfp _ hm with h' | h'
      · have := h.lt _ h'; omega
      · omega⟩
  refine (shadow_through (n := n) hS2 ha (fun i w' => ∃ fp', ShadowAt w' b pages (fillG g at1 set i) fp' ∧ Chg fp w2 w' ∧ ∀ i ∈ fp', i ∈ fp ∨ w2.heap.size ≤ i) ⟨fp, hS2, Chg.refl _ _, fun i hi => .inl hi⟩ ?_).mono ?_
  · rintro i w4 hin hi ⟨fp', hS4, c4, hfp'⟩
    unfold inShadow at hin
    refine ⟨122, _, Tryz.f122, rfl, Tryz.func122, by kernel_rfl, by kernel_rfl, ?_⟩
    refine ok_shadow_Shadow_Fill_1 _ _ _ _ _ ?_
    unfold V_shadow_Shadow_Fill_1
    have hnb := hb1 (fp' := fp) (fun i hi => .inl hi)
    refine ⟨_, by rw [cell_of (c4.obj hnb.1 h12)]; rfl, _, by rw [cell_of (c4.obj hnb.2 h2)]; rfl, ?_⟩
    refine (shadow_put hS4 (by omega) (by omega) hs0 (by omega)).mono ?_
    rintro _ w5 ⟨rfl, fp'', hS5, c5, hfp''⟩
    refine ⟨rfl, fp'', hS5, ?_, fun j hj => ?_⟩
    · exact c4.trans c5 (fun j hj hlt => by
        rcases hfp' j hj with h' | h'
        · exact h'
        · omega)
    · rcases hfp'' j hj with h' | h'
      · exact hfp' j h'
      · exact .inr (Nat.le_trans c4.size h')
  · rintro _ w4 ⟨r, rfl, hr⟩
    refine ⟨_, rfl, ?_⟩
    by_cases hin : inShadow pages at1 n
    · rw [if_pos hin] at hr
      simp only [if_pos hin]
      obtain ⟨rfl, fp', hS4, c4, hfp'⟩ := hr
      refine ⟨rfl, fp', hS4, c02.nil.trans c4 (fun i hi _ => hi), fun i hi => ?_⟩
      rcases hfp' i hi with h' | h'
      · exact .inl h'
      · exact .inr (Nat.le_trans c02.size h')
    · rw [if_neg hin] at hr
      simp only [if_neg hin]
      obtain ⟨rfl, rfl⟩ := hr
      exact ⟨rfl, c02⟩
theorem or0 (x : Int) (h0 : 0 ≤ x) (h1 : x < 4294967296) : bits .or .u32 0 x = x := by
  rw [u32_or 0 x (by omega) (by omega) h0 h1]
  simp; omega
theorem shadow_getp {w : World} {b : Nat} {pages : Int} {g : Int → Int} {fp : List Nat} (h : ShadowAt w b pages g fp) {at1 : Int} (ha : -9223372036854775808 ≤ at1 ∧ at1 ≤ 9223372036854775807) :
    Calls Tryz.prog 97 #[.pointer (some ⟨b, 0, none⟩), .int .i64 at1] w fun e w' => ∃ (r1 : Int) (r2 : Int), e = .returned (.tuple #[.int .u32 r1, .int .i64 r2]) ∧
      (Chg [] w w' ∧ r1 = g at1 ∧ r2 = if 0 ≤ at1 ∧ at1 < 64 * pages then 0 else 4) := by
  refine ok_shadow_Shadow_Get _ _ _ _ ?_
  unfold V_shadow_Shadow_Get
  refine (shadow_union h ha).mono ?_
  rintro _ w' ⟨r1, r2, rfl, hc, hr⟩
  refine ⟨_, _, rfl, hc, ?_⟩
  by_cases hin : inShadow pages at1 1
  · rw [if_pos hin] at hr
    have hin' := hin
    unfold inShadow at hin'
    have := h.each at1
    rw [if_pos (by omega)]
    refine ⟨?_, hr.2⟩
    rw [hr.1]
    show bits .or .u32 0 (g (at1 + (0 : Nat))) = g at1
    rw [show at1 + ((0 : Nat) : Int) = at1 by omega]
    exact or0 _ this.1 (by omega)
  · rw [if_neg hin] at hr
    unfold inShadow at hin
    rw [if_neg (by omega)]
    exact ⟨by rw [hr.1]; exact (h.out (by omega)).symm, hr.2⟩
theorem shadow_setp {w : World} {b : Nat} {pages : Int} {g : Int → Int} {fp : List Nat} (h : ShadowAt w b pages g fp) {at1 set : Int} (ha : -9223372036854775808 ≤ at1 ∧ at1 ≤ 9223372036854775807) (hs0 : 0 ≤ set) :
    Calls Tryz.prog 91 #[.pointer (some ⟨b, 0, none⟩), .int .i64 at1, .int .u32 set] w fun e w' => ∃ r : Int, e = .returned (.int .i64 r) ∧
      (if 65536 ≤ set then r = 2 ∧ Chg [] w w' else if 0 ≤ at1 ∧ at1 < 64 * pages then r = 0 ∧ ∃ fp', ShadowAt w' b pages (putG g at1 set) fp' ∧ Chg fp w w' ∧ ∀ i ∈ fp', i ∈ fp ∨ w.heap.size ≤ i else r = 4 ∧ Chg [] w w') := by
  refine ok_shadow_Shadow_Set _ _ _ _ _ ?_
  unfold V_shadow_Shadow_Set
  refine (shadow_fill h ha hs0).mono ?_
  rintro _ w' ⟨r, rfl, hr⟩
  refine ⟨_, rfl, ?_⟩
  by_cases hs : 65536 ≤ set
  · rw [if_pos hs] at hr ⊢; exact hr
  rw [if_neg hs] at hr ⊢
  have e : inShadow pages at1 1 ↔ 0 ≤ at1 ∧ at1 < 64 * pages := by unfold inShadow; omega
  by_cases hin : inShadow pages at1 1
  · rw [if_pos hin] at hr
    rw [if_pos (e.1 hin)]
    have e1 : fillG g at1 set (1 : Int).toNat = putG g at1 set := by
      show putG g (at1 + ((0 : Nat) : Int)) set = _
      rw [show at1 + ((0 : Nat) : Int) = at1 by omega]
    rw [e1] at hr; exact hr
  · rw [if_neg hin] at hr
    rw [if_neg (fun h => hin (e.2 h))]; exact hr
end Go.Proofs.YtfcfkhbkkfpehaaGreat
end

/- XLoc -/
section
/- Boxes of a function's own, of which nobody else knows: what stands in them. -/
set_option linter.unusedVariables false
set_option linter.unusedSimpArgs false
set_option linter.unusedSectionVars false
namespace Go.X
open Go Go.RowKit

/-- Blocks with what stands in them, all unlike. -/
structure Boxes (w : World) (l : List (Nat × List Value × TypeId)) : Prop where
  heap : ∀ x ∈ l, w.heap[x.1]? = some (.cells x.2.1.toArray x.2.2 (0, 0))
  nodup : (l.map (·.1)).Nodup
/-- These blocks are as they were. -/
def Same (w w' : World) (l : List Nat) : Prop := ∀ b ∈ l, w'.heap[b]? = w.heap[b]?
theorem Same.of {f : List Nat} {w w' : World} {l : List Nat} (h : Chg f w w') (hl : ∀ b ∈ l, b < w.heap.size ∧ b ∉ f) : Same w w' l := fun b hb => h.block b (hl b hb).1 (hl b hb).2
theorem Same.chg {w w' : World} {l : List Nat} (h : Chg [] w w') (hl : ∀ b ∈ l, b < w.heap.size) : Same w w' l := Same.of h fun b hb => ⟨hl b hb, by simp⟩
theorem Same.refl (w : World) (l : List Nat) : Same w w l := fun _ _ => rfl

section
variable {w w' w1 w0 : World} {l l' : List (Nat × List Value × TypeId)} {b o i : Nat} {cs cs' vs : List Value} {T : TypeId} {v : Value} {M : List Nat} {x : Obj}
theorem Boxes.nil (w : World) : Boxes w [] := ⟨by simp, by simp⟩
theorem Boxes.at (h : Boxes w l) (hi : l[i]? = some (b, cs, T)) : w.heap[b]? = some (.cells cs.toArray T (0, 0)) := h.heap _ (List.mem_of_getElem? hi)
theorem Boxes.chg {f : List Nat} (h : Boxes w l) (hc : Chg f w w1) (hf : ∀ x ∈ l, x.1 ∉ f) : Boxes w1 l := ⟨fun x hx => hc.obj (hf x hx) (h.heap x hx), h.nodup⟩
theorem Boxes.grow (h : Boxes w l) (hw : w1 = World.alloc w x) : Boxes w1 l := h.chg (f := []) (by subst hw; exact Chg.alloc _ _) (by simp)
theorem Boxes.drew (h : Boxes w l) (hw : w1 = World.drew w) : Boxes w1 l := h.chg (f := []) (by subst hw; exact Chg.drew _) (by simp)
theorem Boxes.alloc (h : Boxes w l) (hb : b = World.size w) (hw : w1 = World.alloc w (.cells cs.toArray T)) : Boxes w1 ((b, cs, T) :: l) := by
  have h1 := h.grow hw
  refine ⟨fun y hy => ?_, ?_⟩
  · rcases List.mem_cons.1 hy with rfl | hy
    · subst hb hw; exact heap_new w _
    · exact h1.heap y hy
  · rw [List.map_cons, List.nodup_cons]
    refine ⟨fun hm => ?_, h.nodup⟩
    obtain ⟨y, hy, e⟩ := List.mem_map.1 hm
    have := lt_of_heap (h.heap y hy)
    subst hb
    change y.1 = w.heap.size at e
    omega
theorem Boxes.same (h : Boxes w l) (hs : Same w w1 (l.map (·.1))) : Boxes w1 l := ⟨fun x hx => (hs _ (List.mem_map.2 ⟨x, hx, rfl⟩)).trans (h.heap x hx), h.nodup⟩
theorem sel_nodup : ∀ (is : List Nat), is.Nodup → (l.map (·.1)).Nodup → ((is.filterMap (fun i => l[i]?)).map (·.1)).Nodup
  | [], _, _ => by simp
  | i :: is, hi, hl => by
    have ih := sel_nodup is (List.nodup_cons.1 hi).2 hl
    rw [List.filterMap_cons]
    cases hx : l[i]? with
    | none => exact ih
    | some x =>
      simp only [List.map_cons, List.nodup_cons]
      refine ⟨fun hm => ?_, ih⟩
      obtain ⟨y, hy, e⟩ := List.mem_map.1 hm
      obtain ⟨j, hj, hjy⟩ := List.mem_filterMap.1 hy
      have h1 : (l.map (·.1))[i]? = some x.1 := by simp [hx]
      have h2 : (l.map (·.1))[j]? = some x.1 := by simp [hjy, e]
      have hlt : i < (l.map (·.1)).length := (List.getElem?_eq_some_iff.1 h1).1
      have : i = j := (List.getElem?_inj hlt hl).1 (h1.trans h2.symm)
      subst this
      exact (List.nodup_cons.1 hi).1 hj
theorem Boxes.sel (h : Boxes w l) (is : List Nat) (hn : is.Nodup) (hl : is.filterMap (fun i => l[i]?) = l') : Boxes w l' := by
  subst hl
  refine ⟨fun x hx => ?_, sel_nodup is hn h.nodup⟩
  obtain ⟨j, _, hj⟩ := List.mem_filterMap.1 hx
  exact h.heap x (List.mem_of_getElem? hj)
theorem Boxes.put (h : Boxes w l) (hi : l[i]? = some (b, cs, T)) (hc : Chg [b] w w1) (hb : w1.heap[b]? = some (.cells cs'.toArray T (0, 0))) : Boxes w1 (l.set i (b, cs', T)) := by
  have hm : (l.set i (b, cs', T)).map (·.1) = l.map (·.1) := by
    rw [List.map_set]
    apply List.ext_getElem?
    intro j
    rw [List.getElem?_set]
    split
    · rename_i e; subst e
      split
      · simp [hi]
      · rename_i hlt
        rw [List.getElem?_eq_none (by omega)]
    · rfl
  refine ⟨fun x hx => ?_, by rw [hm]; exact h.nodup⟩
  obtain ⟨j, hj⟩ := List.getElem?_of_mem hx
  rw [List.getElem?_set] at hj
  split at hj
  · split at hj
    · cases hj; exact hb
    · cases hj
  · rename_i hne
    have hx' := h.heap x (List.mem_of_getElem? hj)
    refine hc.obj (fun hm => ?_) hx'
    simp at hm
    have h1 : (l.map (·.1))[j]? = some b := by simp [hj, hm]
    have h2 : (l.map (·.1))[i]? = some b := by simp [hi]
    have hlt : i < (l.map (·.1)).length := (List.getElem?_eq_some_iff.1 h2).1
    exact hne ((List.getElem?_inj hlt h.nodup).1 (h2.trans h1.symm))
theorem Boxes.store (h : Boxes w l) (hi : l[i]? = some (b, cs, T)) (hc : cs.take o ++ vs ++ cs.drop (o + vs.length) = cs') (hl : l.set i (b, cs', T) = l') (hle : Nat.ble (o + vs.length) cs.length = true) (hw : w1 = setCells w ⟨b, o, none⟩ 0 vs) : Boxes w1 l' := by
  subst hl hw hc
  have hle' := Nat.le_of_ble_eq_true hle
  refine h.put hi (Chg.setCells ⟨b, o, none⟩ vs 0 w) ?_
  have h1 := h.at hi
  have e : cs = cs.take o ++ (cs.drop o).take vs.length ++ cs.drop (o + vs.length) := by
    rw [← List.drop_drop, List.append_assoc, List.take_append_drop, List.take_append_drop]
  have ho : (cs.take o).length = o := by rw [List.length_take]; omega
  have := setCells_mid (w := w) (b := b) (t := T) (pre := cs.take o) (zs := (cs.drop o).take vs.length) (post := cs.drop (o + vs.length)) (vs := vs) (by rw [List.length_take, List.length_drop]; omega) (by rw [← e]; exact h1)
  rwa [ho] at this
theorem Boxes.store1 (h : Boxes w l) (hi : l[i]? = some (b, cs, T)) (hc : cs.take o ++ [v] ++ cs.drop (o + 1) = cs') (hl : l.set i (b, cs', T) = l') (hle : Nat.ble (o + 1) cs.length = true) (hw : w1 = World.setCell w ⟨b, o, none⟩ v) : Boxes w1 l' :=
  h.store (vs := [v]) hi hc hl hle (by rw [hw]; simp only [setCells, add_at, Nat.add_zero])
theorem box_cell {fr : Nat × Nat} (h : w.heap[b]? = some (.cells cs.toArray T fr)) (hv : cs[o]? = some v) : w.cell? ⟨b, o, none⟩ = some v := by
  rw [cell_of h]; simpa using hv
theorem box_cells {fr : Nat × Nat} (h : w.heap[b]? = some (.cells cs.toArray T fr)) (hv : (cs.drop o).take vs.length = vs) : CellsAt w ⟨b, o, none⟩ 0 vs := by
  have : ∀ (vs : List Value) (k : Nat), (∀ j v, vs[j]? = some v → cs[o + k + j]? = some v) → CellsAt w ⟨b, o, none⟩ k vs := by
    intro vs
    induction vs with
    | nil => intro k _; trivial
    | cons v vs ih =>
      intro k hk
      refine ⟨by rw [add_at]; exact box_cell h (by simpa using hk 0 v rfl), ih (k + 1) fun j u hj => ?_⟩
      have := hk (j + 1) u (by simpa using hj)
      rwa [show o + k + (j + 1) = o + (k + 1) + j by omega] at this
  refine this vs 0 fun j v hj => ?_
  rw [← hv, List.getElem?_take] at hj
  split at hj
  · rw [List.getElem?_drop] at hj; simpa using hj
  · cases hj
theorem sil_lo (h : Chg M w0 w) (hb : b = World.size w) : w0.heap.size ≤ b := by subst hb; exact h.size
theorem sil_alloc (h : Chg M w0 w) (hw : w1 = World.alloc w x) : Chg M w0 w1 := by subst hw; exact h.trans (g := []) (Chg.alloc _ _) (by simp)
theorem sil_drew (h : Chg M w0 w) (hw : w1 = World.drew w) : Chg M w0 w1 := by subst hw; exact h.trans (g := []) (Chg.drew _) (by simp)
theorem sil_cN {q : Addr} (hw : w1 = setCells w q 0 vs) : Chg [q.block] w w1 := by subst hw; exact Chg.setCells _ _ _ _
theorem sil_c1 {q : Addr} (hw : w1 = World.setCell w q v) : Chg [q.block] w w1 := by subst hw; exact Chg.setCell _ _ _
theorem sil_new (h : Chg M w0 w) (hc : Chg [b] w w1) (hb : w0.heap.size ≤ b) : Chg M w0 w1 := h.trans hc (fun i hi hlt => by simp at hi; omega)
theorem sil_more (h : Chg M w0 w) (hc : Chg [b] w w1) : Chg (M ++ [b]) w0 w1 := (h.mono (fun i hi _ => List.mem_append_left _ hi)).trans hc (fun i hi _ => by simp at hi; simp [hi])
end
section
variable {P : Program} {N : Nat} {D : List Deferred} {E : Env} {w w' : World} {d : Option Nat} {T : TypeId} {p : String} {af : Array Edge} {g : Option (Nat × Bool)} {S : World → Prop} {v : Value}
end
end Go.X
end

/- XRange -/
section
/- Ranges over functions: the engine's rules within a round; what an iterator does; the statement. -/
set_option linter.unusedVariables false
set_option linter.unusedSimpArgs false
set_option linter.unusedSectionVars false
namespace Go.XR
open Go Go.X Go.RowKit

def FR (ro : Option Nat) : Fence := { Fence.wide with round := ro }
theorem FR.fn (ro : Option Nat) (f : FuncId) : (FR ro).fn f := trivial
theorem FR.callsIn {ro : Option Nat} {n : Nat} {P : Program} {f : FuncId} {args : Array Value} {w : World} {R : Ending → World → Prop} (h : Calls P f args w R) : CallsIn (FR ro) n P f args w R := callsIn_wide.2 h

def isDefer (o : Oper) : Bool := match o.op with | .defer _ => true | _ => false
theorem semAt_of {ro : Option Nat} {o : Oper} (h : isDefer o = false) (ρ : Operand → Value) : Oper.semAt ro ρ o = execOp ρ o :=
  Oper.semAt_eq ro ρ o fun c hc => by simp [isDefer, hc] at h

section
variable {ro : Option Nat} {P : Program} {N : Nat} {D : List Deferred} {Q : Exit → Act → World → Prop} {E : Env} {w w' : World}

def CW (ro : Option Nat) (P : Program) (N : Nat) (D : List Deferred) (c : Code) (Q : Exit → Act → World → Prop) (E : Env) (w : World) : Prop := ∀ a, Sat N D E a → c.wpIn (FR ro) 0 P Q a w
theorem CW.plain {c : Code} (h : X.CW P N D c Q E w) : CW none P N D c Q E w := fun a ha => wpIn_wide.2 (h a ha)
theorem _root_.Go.X.CW.plain' {c : Code} (h : X.CW P N D c Q E w) : CW none P N D c Q E w := fun a ha => wpIn_wide.2 (h a ha)
theorem CW.un {c : Code} (h : CW none P N D c Q E w) : X.CW P N D c Q E w := fun a ha => wpIn_wide.1 (h a ha)
theorem CW.sub {c : Code} {F : Env} (s : Sub E F) (h : CW ro P N D c Q E w) : CW ro P N D c Q F w := fun a ha => h a (ha.sub s)
theorem CW.seq {x y : Code} (h : CW ro P N D x (Exit.then (y.wpIn (FR ro) 0 P Q) Q) E w) : CW ro P N D (.seq x y) Q E w := fun a ha => wpIn_seq (h a ha)
theorem NW.then {y : Code} (h : CW ro P N D y Q E w) : NW N D (Exit.then (y.wpIn (FR ro) 0 P Q) Q) E w := fun a ha => h a ha
theorem CW.skip (h : NW N D Q E w) : CW ro P N D .skip Q E w := fun a ha => wpIn_skip (h a ha)
theorem CW.label {l : Nat} (h : NW N D Q E w) : CW ro P N D (.label l) Q E w := fun a ha => wpIn_label (h a ha)
theorem CW.cond {c : Operand} {x y : Code} {b : Bool} (hc : opd E c = some (.bool b)) (h1 : b = true → CW ro P N D x Q E w) (h2 : b = false → CW ro P N D y Q E w) : CW ro P N D (.cond c x y) Q E w :=
  fun a ha => wpIn_cond_split (ha.eval hc) (fun hb => h1 hb a ha) (fun hb => h2 hb a ha)
theorem CW.block {id : Nat} {c : Code} (h : CW ro P N D c (Exit.inBlock id Q) E w) : CW ro P N D (.block id c) Q E w := fun a ha => wpIn_block (h a ha)
theorem CW.exit {id : Nat} (h : XW N D id Q E w) : CW ro P N D (.exit id) Q E w := fun a ha => wpIn_exit (h a ha)
theorem CW.ret (h : RW N D Q E w) : CW ro P N D .ret Q E w := fun a ha => wpIn_ret (h a ha)
theorem CW.goto {l : Nat} (h : GW N D l Q E w) : CW ro P N D (.goto l) Q E w := fun a ha => wpIn_goto (h a ha)
theorem CW.cut {S : Type} {x y : Code} (Ek : S → Env) (I : S → World → Prop) (hk : ∀ s w, I s w → CW ro P N D y Q (Ek s) w)
    (h : CW ro P N D x (Exit.then (fun a w => ∃ s, Sat N D (Ek s) a ∧ I s w) Q) E w) : CW ro P N D (.seq x y) Q E w := fun a ha =>
  wpIn_seq (wpIn_mono (h a ha) fun e a' w' hq => by
    cases e with
    | normal => obtain ⟨s, hs, hI⟩ := hq; exact hk s w' hI a' hs
    | _ => exact hq)
theorem CW.loop {S : Type} {c : Code} (El : S → Env) (I : S → World → Prop) (μ : S → World → Nat) (s₀ : S) (hs : Sub (El s₀) E) (hI : I s₀ w)
    (round : ∀ s w, I s w → CW ro P N D c (Exit.then (fun a' w' => ∃ s', Sat N D (El s') a' ∧ (I s' w' ∧ μ s' w' < μ s w)) Q) (El s) w) : CW ro P N D (.loop c) Q E w := by
  intro a ha b k cs hro hb hr
  have key : ∀ j s a w, μ s w = j → Sat N D (El s) a → I s w →
      ∃ e a' w', Q e a' w' ∧ ArrivesIn (Machine.fenced P (FR ro)) P (lone (b.atR a (.code c :: .inLoop c :: k)) cs w) b k cs e a' w' := by
    intro j
    induction j using Nat.strongRecOn with
    | _ j ih =>
      intro s a w hn ha hI
      obtain ⟨e, a₁, w₁, hq, harr⟩ := round s w hI a ha b (.inLoop c :: k) cs hro hb hr
      cases e with
      | normal =>
        obtain ⟨s', hs', hI', hlt⟩ := hq
        obtain ⟨e₂, a₂, w₂, hq₂, harr₂⟩ := ih (μ s' w₁) (hn ▸ hlt) s' a₁ w₁ rfl hs' hI'
        exact ⟨e₂, a₂, w₂, hq₂, .of_steps (StepsIn.trans harr (.one (fenced_calm hb hr rfl) stepR_inLoop)) harr₂⟩
      | exit id => exact ⟨_, a₁, w₁, hq, .pass (x := .inLoop c) rfl (fun _ _ => .inl (by simp)) harr⟩
      | goto l => exact ⟨_, a₁, w₁, hq, .pass (x := .inLoop c) rfl (fun _ _ => .inl (by simp)) harr⟩
      | ret => exact ⟨_, a₁, w₁, hq, .pass (x := .inLoop c) rfl (fun _ _ => .inl (by simp)) harr⟩
      | panic ch => exact ⟨_, a₁, w₁, hq, .pass (x := .inLoop c) rfl (fun _ _ => .inl (by simp)) harr⟩
      | outgrown => exact ⟨_, a₁, w₁, hq, .pass (x := .inLoop c) rfl (fun _ _ => .inl (by simp)) harr⟩
  obtain ⟨e, a', w', hq, harr⟩ := key _ s₀ a w rfl (ha.sub hs) hI
  exact ⟨e, a', w', hq, .of_steps (.one (fenced_calm hb hr rfl) stepR_loop) harr⟩
end

/-! ### A region in the text's order -/
/-- A call of a function value: a function's, or a round's. -/
def CallsY (P : Program) (fv : Value) (args : Array Value) (w : World) (R : Ending → World → Prop) : Prop :=
  X.CallsV P fv args w R ∨ ∃ l, fv = .func (.yield l) #[] #[] ∧ YieldAt Fence.wide 0 P l args w R
theorem CallsY.mono {P : Program} {fv : Value} {args : Array Value} {w : World} {R R' : Ending → World → Prop} (h : CallsY P fv args w R) (k : ∀ e w', R e w' → R' e w') : CallsY P fv args w R' := by
  rcases h with ⟨f, cap, fn, h1, h2, h3, h4, h5⟩ | ⟨l, h1, fn, tmps, as', bd, h2, h3⟩
  · exact .inl ⟨f, cap, fn, h1, h2, h3, h4, h5.mono k⟩
  · exact .inr ⟨l, h1, fn, tmps, as', bd, h2, h3.mono k⟩
section
variable {ro : Option Nat} {P : Program} {N : Nat} {D : List Deferred} {ops : Array Oper} {Q : Exit → Act → World → Prop} {E : Env} {w w' : World} {L : Nat → Env → World → Prop} {i : Nat} {o : Oper} {v : Value}
def LW (ro : Option Nat) (P : Program) (N : Nat) (D : List Deferred) (ops : Array Oper) (Q : Exit → Act → World → Prop) (i : Nat) (E : Env) (w : World) : Prop :=
  ∀ a, Sat N D E a → wpListIn (FR ro) 0 P ops Q (ops.toList.drop i) a w
theorem CW.region {id : Nat} (h : ∀ L, L = LW ro P N D ops Q → L 0 E w) : CW ro P N D (.region id ops false) Q E w :=
  fun a ha => wpIn_region_list (by have := h _ rfl a ha; simpa using this)
theorem LW.step (hL : L = LW ro P N D ops Q) (ho : ops[i]? = some o) (hw : Wants N ops E o)
    (h : ∀ a, Sat N D E a → o.wpIn (FR ro) 0 P a w (wpListIn (FR ro) 0 P ops Q (ops.toList.drop (i + 1))) Q) : L i E w := by
  subst hL
  intro a ha
  rw [drop_at ho]
  unfold wpListIn
  rw [if_pos (hw _ _ ha)]
  exact h a ha
theorem LW.val (hL : L = LW ro P N D ops Q) (ho : ops[i]? = some o) (hw : Wants N ops E o) (hd : okd N o.dst = true)
    (hv : ∀ a, Sat N D E a → (execOp a.eval o).run P w = .ok (.value v) w') (k : L (i + 1) (putE o.dst v E) w') (hn : isDefer o = false := by rfl) : L i E w :=
  LW.step hL ho hw fun a ha => by
    refine ⟨fun _ _ => trivial, ?_⟩
    rw [semAt_of hn, hv a ha, Oper.uponIn_value]
    rw [hL] at k; exact k _ (ha.put hd)
theorem LW.rd (hL : L = LW ro P N D ops Q) (ho : ops[i]? = some o) (hw : Wants N ops E o) (hd : okd N o.dst = true)
    (hv : Rd P N D E o v (fun w' => w' = w)) (k : L (i + 1) (putE o.dst v E) w) (hn : isDefer o = false := by rfl) : L i E w := LW.val hL ho hw hd (fun a ha => hv a ha w rfl) k hn
theorem LW.eff (hL : L = LW ro P N D ops Q) (ho : ops[i]? = some o) (hw : Wants N ops E o) (hd : okd N o.dst = true)
    (hv : ∀ a, Sat N D E a → (execOp a.eval o).run P w = .ok .skip w') (k : L (i + 1) (putE o.dst undef E) w') (hn : isDefer o = false := by rfl) : L i E w :=
  LW.step hL ho hw fun a ha => by
    refine ⟨fun _ _ => trivial, ?_⟩
    rw [semAt_of hn, hv a ha, Oper.uponIn_skip]
    rw [hL] at k; exact k _ (ha.put hd)
theorem LW.call {f : Nat} {args : Array Value} {R : Ending → World → Prop} (hL : L = LW ro P N D ops Q) (ho : ops[i]? = some o) (hw : Wants N ops E o) (hd : okd N o.dst = true)
    (hv : ∀ a, Sat N D E a → (execOp a.eval o).run P w = .ok (.enter f args) w') (hc : Calls P f args w' R)
    (k : ∀ e w'', R e w'' → ∃ v, e = .returned v ∧ L (i + 1) (putE o.dst v E) w'') (hn : isDefer o = false := by rfl) : L i E w :=
  LW.step hL ho hw fun a ha => by
    refine ⟨fun _ _ => trivial, ?_⟩
    rw [semAt_of hn, hv a ha, Oper.uponIn_enter]
    refine ⟨fun h => (by cases h), FR.callsIn (hc.mono fun e w'' hR => ?_)⟩
    obtain ⟨v, rfl, hk⟩ := k e w'' hR
    rw [hL] at hk; exact hk _ (ha.put hd)
theorem LW.skip (hL : L = LW ro P N D ops Q) (ho : ops[i]? = some o) (hs : Skips N ops E o) (hd : okd N o.dst = true) (k : L (i + 1) (putE o.dst undef E) w) : L i E w := by
  subst hL
  intro a ha
  rw [drop_at ho]
  unfold wpListIn
  rw [if_neg (by rw [hs _ _ ha]; simp)]
  exact ⟨fun _ _ => trivial, k _ (ha.put hd)⟩
theorem LW.nil (hL : L = LW ro P N D ops Q) (hi : ops[i]? = none) (k : NW N D Q E w) : L i E w := by
  subst hL
  intro a ha
  have : ops.toList.drop i = [] := List.drop_eq_nil_of_le (by simpa using hi)
  rw [this]; exact k a ha
theorem LW.sub (hL : L = LW ro P N D ops Q) {F : Env} (s : Sub E F) (k : L i E w) : L i F w := by
  subst hL; exact fun a ha => k a (ha.sub s)
/-- A call of a function value. -/
theorem LW.callY {x : Operand} {args : Array Operand} {ts : Array TypeId} {d : Option Nat} {T : TypeId} {p : String} {af : Array Edge} {gd : Option (Nat × Bool)} {fv : Value} {vs : List Value} {R : Ending → World → Prop}
    (hL : L = LW none P N D ops Q) (ho : ops[i]? = some ⟨d, .call ⟨.value x, args, ts⟩, T, p, af, gd⟩) (hw : Wants N ops E ⟨d, .call ⟨.value x, args, ts⟩, T, p, af, gd⟩) (hd : okd N d = true)
    (hx : opd E x = some fv) (ha' : opdL E args.toList = some vs) (hc : CallsY P fv vs.toArray w R)
    (k : ∀ e w'', R e w'' → ∃ v, e = .returned v ∧ L (i + 1) (putE d v E) w'') : L i E w := by
  rcases hc with ⟨f, cap, fn, rfl, h2, h3, h4, h5⟩ | ⟨l, rfl, fn, tmps, as', bd, h2, h3⟩
  · exact LW.call hL ho hw hd (Cl.fv hx ha' h2 h3 h4) h5 k
  · refine LW.step hL ho hw fun a ha => ⟨fun _ _ => trivial, ?_⟩
    have e1 : (execOp a.eval ⟨d, .call ⟨.value x, args, ts⟩, T, p, af, gd⟩).run P w = .ok (.round l fn tmps as' bd) w := by
      have e2 : args.map a.eval = vs.toArray := opdL_map ha ha'
      simp [execOp, resolve, ha.eval hx, Deferred.ofValue, invoke, e2, h2]
    rw [semAt_of rfl, e1, Oper.uponIn_round]
    refine ⟨fun h => (by cases h), h3.mono fun e w'' hR => ?_⟩
    obtain ⟨v, rfl, hk⟩ := k e w'' hR
    rw [hL] at hk; exact hk _ (ha.put hd)
end

/-! ### Iterators, and the statement -/
/-- Blocks that are newer than a world. -/
def InO (w0 : World) (O : List Nat) (W : World) : Prop := ∀ i ∈ O, w0.heap.size ≤ i ∧ i < W.heap.size
/-- It stands whatever becomes of the others' blocks O, which may grow. -/
def Stab (w0 : World) (I : List Nat → World → Prop) : Prop := ∀ O O' W W', I O W → InO w0 O W → Chg O W W' → InO w0 O' W' → (∀ i ∈ O', i ∈ O ∨ W.heap.size ≤ i) → I O' W'
/-- What an iterator does: it hands elements to yield, whole sequences S, beginnings Sp; it turns none but its own blocks; the blocks keep, and its own, are to be left as they are. -/
def Iterates {α : Type} (P : Program) (fv : Value) (enc : α → Array Value) (S Sp : List α → Prop) (keep : List Nat) (w : World) : Prop :=
  ∀ (W : World) (yv : Value) (I Ix : List Nat → List α → World → Prop), Chg [] w W → (∀ pre, Stab W (fun O => I O pre)) → (∀ pre, Stab W (fun O => Ix O pre)) → I [] [] W →
    (∀ Own pre x W1, InO W Own W1 → Sp (pre ++ [x]) → I Own pre W1 → CallsY P yv (enc x) W1 fun e W' => W1.heap.size ≤ W'.heap.size ∧
      ((e = .returned (.bool true) ∧ I Own (pre ++ [x]) W' ∧ Same W1 W' (keep ++ Own)) ∨ (e = .returned (.bool false) ∧ Ix Own (pre ++ [x]) W'))) →
    X.CallsV P fv #[yv] W fun e W' => (∃ v, e = .returned v) ∧ ∃ Own, InO W Own W' ∧ ((∃ xs, S xs ∧ I Own xs W') ∨ ∃ pre, Sp pre ∧ Ix Own pre W')

def envPs : List Tmp → List Value → Env → Env
  | p :: ps, v :: vs, E => envPs ps vs ((p, v) :: E)
  | _, _, E => E
theorem sat_ps {N : Nat} : ∀ (ps : List Tmp) (vs : List Value) (E : Env) (tmps : Array Value), (∀ p ∈ ps, Nat.blt p N = true) → Sat N [] E { tmps := tmps, defers := [] } →
    Sat N [] (envPs ps vs E) { tmps := (ps.zip vs).foldl (fun t (p, v) => t.setIfInBounds p v) tmps, defers := [] }
  | [], _, E, tmps, _, h => by simpa [envPs] using h
  | p :: ps, [], E, tmps, _, h => by simpa [envPs] using h
  | p :: ps, v :: vs, E, tmps, hp, h => by
    have h1 : Sat N [] ((p, v) :: E) { tmps := tmps.setIfInBounds p v, defers := [] } := by
      have := h.put (d := some p) (v := v) (by simpa [okd] using hp p (.head _))
      simpa [putE, Act.put] using this
    simpa [envPs] using sat_ps ps vs ((p, v) :: E) _ (fun q hq => hp q (.tail _ hq)) h1

theorem Chg.putObj {w : World} {l : Nat} (o : Obj) : Chg [l] w (w.putObj l o) := Chg.put

section
variable {P : Program} {N : Nat} {D : List Deferred} {Q : Exit → Act → World → Prop} {E : Env} {w : World} {α : Type}
/-- What is asked at a round's end. -/
def EndQ (keep O : List Nat) (I : List Nat → List α → World → Prop) (Ix : Code → List Nat → List α → World → Prop) (pre : List α) (W₂ : World) : Exit → Act → World → Prop
  | .normal, _, W' => W₂.heap.size ≤ W'.heap.size ∧ I O pre W' ∧ Same W₂ W' (keep ++ O)
  | .ret, _, W' => W₂.heap.size ≤ W'.heap.size ∧ Ix .ret O pre W' ∧ Same W₂ W' (keep ++ O)
  | .exit id, _, W' => W₂.heap.size ≤ W'.heap.size ∧ Ix (.exit id) O pre W' ∧ Same W₂ W' (keep ++ O)
  | .goto t, _, W' => W₂.heap.size ≤ W'.heap.size ∧ Ix (.goto t) O pre W' ∧ Same W₂ W' (keep ++ O)
  | .panic _, _, _ => False
  | .outgrown, _, _ => False
/-- What is asked behind the assignment to the loop's variables. -/
def BeginK (P : Program) (l : Nat) (keep O : List Nat) (I : List Nat → List α → World → Prop) (Ix : Code → List Nat → List α → World → Prop) (pre : List α) (x : α) (body : Code) (W : World) (a₁ : Act) (W₁ : World) : Prop :=
  Chg [] W W₁ ∧ ∀ W₂, Chg [l] W₁ W₂ → InO W O W₂ ∨ True → (∃ r, W₁.heap[l]? = some (.loop r)) → I O pre W₂ → body.wpIn (FR (some l)) 0 P (EndQ keep O I Ix (pre ++ [x]) W₂) a₁ W₂
def mk (d : Nat) : Deferred := { target := .collected d, args := #[] }

theorem CW.rangeFunc {g : Operand} {ps : Array Tmp} {assign body : Code} {gf : Nat} {fn : Func} {lb : Array Value} (hg : opd E g = some (.func (.func gf) #[] lb)) (hgf : P.funcs[gf]? = some fn) (hgn : (fn.name == "runtime.NumGoroutine") = false) (hgb : fn.body.isNone = false)
    {enc : α → Array Value} (hps : ∀ x, (enc x).size = ps.size) (hpN : ∀ p ∈ ps.toList, Nat.blt p N = true) {S Sp : List α → Prop} {keep : List Nat} (hseq : Iterates P (.func (.func gf) #[] lb) enc S Sp keep w)
    (I : List Nat → List α → World → Prop) (Ix : Code → List Nat → List α → World → Prop) (hI : ∀ pre, Stab w (fun O => I O pre)) (hIx : ∀ c pre, Stab w (fun O => Ix c O pre))
    (h0 : ∀ O W, Chg [] w W → InO w O W → I O [] W) (hkeep : ∀ i ∈ keep, i < w.heap.size)
    (hround : ∀ (l : Nat) (O : List Nat) (pre : List α) (x : α) (W : World), InO w O W → l ∈ O → Sp (pre ++ [x]) → I O pre W →
      CW (some l) P N [] assign (Exit.then (BeginK P l keep O I Ix pre x body W) (fun _ _ _ => False)) (envPs ps.toList (enc x).toList E) W)
    (hdone : ∀ (d : Nat) (O : List Nat) (xs : List α) (W : World), InO w O W → d ∈ O → W.heap[d]? = some (.deferred (some [])) → S xs → I O xs W → NW N (mk d :: D) Q E W)
    (hstop : ∀ (d : Nat) (c : Code) (O : List Nat) (pre : List α) (W : World), InO w O W → d ∈ O → W.heap[d]? = some (.deferred (some [])) → Sp pre → Ix c O pre W → CW none P N (mk d :: D) c Q E W) :
    CW none P N D (.rangeFunc g ps assign body) Q E w := by
  intro a ha
  refine wpIn_rangeFunc ?_
  intro fnc hfn
  have hro : (FR none).round = none := rfl
  rw [hro]
  obtain ⟨rec, hrec⟩ : ∃ rec : LoopState → Option Code → Loop, rec = fun st pe => { state := st, pending := pe, fn := fnc, tmps := a.tmps, params := ps, assign, body, defers := w.heap.size } := ⟨_, rfl⟩
  obtain ⟨W1, hW1⟩ : ∃ W1, (w.alloc (.deferred (some []))).alloc (.loop (rec .ready none)) = W1 := ⟨_, rfl⟩
  have hL1 : W1.heap[w.heap.size + 1]? = some (.loop (rec .ready none)) := by
    rw [← hW1]; have := World.alloc_heap_new (w.alloc (.deferred (some []))) (.loop (rec .ready none)); rwa [World.size_alloc] at this
  have hK1 : W1.heap[w.heap.size]? = some (.deferred (some [])) := by
    rw [← hW1]; exact (Below.heap_alloc _ _ _ (by simp)).trans (World.alloc_heap_new w _)
  have c1 : Chg [] w W1 := by rw [← hW1]; exact (Chg.alloc _ _).trans0 (Chg.alloc _ _)
  have hs1 : W1.heap.size = w.heap.size + 2 := by rw [← hW1]; simp
  generalize hl : w.heap.size + 1 = l at hL1
  have hsat0 : Sat N [] E { tmps := a.tmps, defers := [] } := ⟨ha.size, rfl, ha.get⟩
  refine ⟨l, [mk w.heap.size], W1, { target := .fn (.func gf) lb, args := #[.func (.yield l) #[] #[]] }, W1, gf, #[.func (.yield l) #[] #[]] ++ lb, W1, ?_, ?_, ?_, ?_, fun h => (by cases h), ?_⟩
  · rw [← hW1, hrec, ← hl]; exact run_enterLoop_outer _ _ _ _ _
  · simp only [resolve, ha.eval hg]
    simp [go_sem]
  · intro f' hf'; trivial
  · simp [invoke, go_sem, run_call hgf hgn hgb]
  refine FR.callsIn ?_
  have hOK : ∀ (A B : World) (Own Own' : List Nat), InO W1 Own A → InO W1 Own' B → (∀ i ∈ Own', i ∈ Own ∨ A.heap.size ≤ i) → Chg Own A B → W1.heap.size ≤ A.heap.size →
      InO w (Own ++ [l, w.heap.size]) A ∧ InO w (Own' ++ [l, w.heap.size]) B ∧ (∀ i ∈ Own' ++ [l, w.heap.size], i ∈ Own ++ [l, w.heap.size] ∨ A.heap.size ≤ i) ∧ Chg (Own ++ [l, w.heap.size]) A B ∧ l ∉ Own ∧ w.heap.size ∉ Own := by
    intro A B Own Own' h1 h2 h3 h4 h5
    have h6 := h4.size
    refine ⟨fun i hi => ?_, fun i hi => ?_, fun i hi => ?_, h4.mono (fun i hi _ => List.mem_append_left _ hi), fun hm => ?_, fun hm => ?_⟩
    · rcases List.mem_append.1 hi with hi | hi
      · have := h1 i hi; omega
      · simp at hi; omega
    · rcases List.mem_append.1 hi with hi | hi
      · have := h2 i hi; omega
      · simp at hi; omega
    · rcases List.mem_append.1 hi with hi | hi
      · exact (h3 i hi).imp (List.mem_append_left _) id
      · exact .inl (List.mem_append_right _ hi)
    · have := h1 _ hm; omega
    · have := h1 _ hm; omega
  have hit := hseq W1 (.func (.yield l) #[] #[])
    (fun Own pre W => I (Own ++ [l, w.heap.size]) pre W ∧ W1.heap.size ≤ W.heap.size ∧ W.heap[l]? = some (.loop (rec .ready none)) ∧ W.heap[w.heap.size]? = some (.deferred (some [])))
    (fun Own pre W => ∃ c, Ix c (Own ++ [l, w.heap.size]) pre W ∧ W1.heap.size ≤ W.heap.size ∧ W.heap[l]? = some (.loop (rec .done (some c))) ∧ W.heap[w.heap.size]? = some (.deferred (some [])))
    c1
    (fun pre Own Own' A B h hO hc hO' hg => by
      obtain ⟨k1, k2, k3, k4, k5, k6⟩ := hOK A B Own Own' hO hO' hg hc h.2.1
      exact ⟨hI pre _ _ A B h.1 k1 k4 k2 k3, by have := hc.size; have := h.2.1; omega, hc.obj k5 h.2.2.1, hc.obj k6 h.2.2.2⟩)
    (fun pre Own Own' A B h hO hc hO' hg => by
      obtain ⟨c, h1, h2, h3, h4⟩ := h
      obtain ⟨k1, k2, k3, k4, k5, k6⟩ := hOK A B Own Own' hO hO' hg hc h2
      exact ⟨c, hIx c pre _ _ A B h1 k1 k4 k2 k3, by have := hc.size; omega, hc.obj k5 h3, hc.obj k6 h4⟩)
    ⟨h0 _ W1 c1 (fun i hi => by simp at hi; omega), Nat.le_refl _, hL1, hK1⟩ ?_
  · obtain ⟨f', cap', fn', he, hf', hn', hb', hcalls⟩ := hit
    cases he
    refine hcalls.mono ?_
    rintro e W' ⟨⟨v, rfl⟩, Own, hOwn, hres⟩
    have hsz : ∀ {A : World} (o : Obj), (A.putObj l o).heap.size = A.heap.size := fun o => by simp [World.putObj]
    have hInO : ∀ {A : World}, W1.heap.size ≤ A.heap.size → InO W1 Own A → InO w (Own ++ [l, w.heap.size]) A := fun h1 h2 i hi => by
      rcases List.mem_append.1 hi with hi | hi
      · have := h2 i hi; omega
      · simp at hi; omega
    have hput : ∀ {A : World} (o : Obj) (J : List Nat → World → Prop), Stab w J → W1.heap.size ≤ A.heap.size → InO W1 Own A → J (Own ++ [l, w.heap.size]) A → J (Own ++ [l, w.heap.size]) (A.putObj l o) := fun o J hJ h1 h2 hj =>
      hJ _ _ _ _ hj (hInO h1 h2) ((Chg.putObj o).mono (fun i hi _ => by simp at hi; simp [hi])) (by
        have := hInO h1 h2
        intro i hi; rw [hsz]; exact this i hi) (fun i hi => .inl hi)
    rcases hres with ⟨xs, hS, hi, hle, hlp, hk⟩ | ⟨pre, hSp, c, hi, hle, hlp, hk⟩
    · refine ⟨none, _, by have := run_endLoop (P := P) hlp (by rw [hrec]; simp); rw [hrec] at this; exact this, ?_⟩
      have hA : Sat N (mk w.heap.size :: D) E { a with defers := [mk w.heap.size] ++ a.defers } := ⟨ha.size, by simp [ha.defers], ha.get⟩
      exact hdone w.heap.size (Own ++ [l, w.heap.size]) xs _ (fun i hi' => by rw [hsz]; exact hInO hle hOwn i hi') (by simp) ((World.putObj_heap_other (by omega)).trans hk) hS (hput _ (fun O => I O xs) (hI xs) hle hOwn hi) _ hA
    · refine ⟨some c, _, by have := run_endLoop (P := P) hlp (by rw [hrec]; simp); rw [hrec] at this; exact this, ?_⟩
      have hA : Sat N (mk w.heap.size :: D) E { a with defers := [mk w.heap.size] ++ a.defers } := ⟨ha.size, by simp [ha.defers], ha.get⟩
      exact hstop w.heap.size c (Own ++ [l, w.heap.size]) pre _ (fun i hi' => by rw [hsz]; exact hInO hle hOwn i hi') (by simp) ((World.putObj_heap_other (by omega)).trans hk) hSp (hput _ (fun O => Ix c O pre) (hIx c pre) hle hOwn hi) _ hA
  · rintro Own pre x W hOwn hSp ⟨hI0, hle, hlp, hk⟩
    have hlt : l < W.heap.size := lt_of_heap hlp
    have hy := run_yield (P := P) (args := enc x) hlp (by rw [hrec]; exact hps x)
    rw [hrec] at hy
    have hInO : InO w (Own ++ [l, w.heap.size]) W := fun i hi => by
      rcases List.mem_append.1 hi with hi | hi
      · have := hOwn i hi; omega
      · simp at hi; omega
    have hrd := hround l (Own ++ [l, w.heap.size]) pre x W hInO (by simp) hSp hI0
    have hsat := sat_ps ps.toList (enc x).toList E a.tmps hpN hsat0
    have hr2 := hrd _ hsat
    have htm : (ps.zip (enc x)).foldl (fun t (p, v) => t.setIfInBounds p v) a.tmps = (ps.toList.zip (enc x).toList).foldl (fun t (p, v) => t.setIfInBounds p v) a.tmps := by
      rw [← Array.foldl_toList, Array.toList_zip]
    refine .inr ⟨l, rfl, fnc, _, assign, body, hy, ?_⟩
    rw [htm]
    refine roundIn_of_wpIn (F := Fence.wide) trivial ?_
    refine wpIn_mono hr2 ?_
    intro e a₁ W₁ hq
    cases e with
    | normal =>
      obtain ⟨hc1, hbody⟩ := hq
      have hl1 := hc1.obj (by simp) hlp
      have hk1 := hc1.obj (by simp) hk
      have hW2 := run_beginRound (P := P) hl1 (by rw [hrec])
      refine ⟨_, hW2, ?_⟩
      generalize hW2e : W₁.putObj l (.loop { rec .ready none with state := .busy }) = W₂ at hW2
      have c2 : Chg [l] W₁ W₂ := by rw [← hW2e]; exact Chg.putObj _
      have hl2 : W₂.heap[l]? = some (.loop { rec .ready none with state := .busy }) := by rw [← hW2e]; exact World.putObj_heap_same (lt_of_heap hl1)
      have hk2 : W₂.heap[w.heap.size]? = some (.deferred (some [])) := by rw [← hW2e]; exact (World.putObj_heap_other (by omega)).trans hk1
      have hs12 := hc1.size
      have hs22 := c2.size
      have hInO2 : InO w (Own ++ [l, w.heap.size]) W₂ := fun i hi => by have := hInO i hi; omega
      have hI2 : I (Own ++ [l, w.heap.size]) pre W₂ := by
        have h1 := hI pre _ (Own ++ [l, w.heap.size]) W W₁ hI0 hInO (hc1.mono (by simp)) (fun i hi => by have := hInO i hi; omega) (fun i hi => .inl hi)
        exact hI pre _ (Own ++ [l, w.heap.size]) W₁ W₂ h1 (fun i hi => by have := hInO i hi; omega) (c2.mono (fun i hi _ => by simp at hi; simp [hi])) hInO2 (fun i hi => .inl hi)
      have hb := hbody W₂ c2 (.inr trivial) ⟨_, hl1⟩ hI2
      refine wpIn_mono hb ?_
      have hsz : ∀ {A : World} (o : Obj), (A.putObj l o).heap.size = A.heap.size := fun o => by simp [World.putObj]
      have hput : ∀ {A : World} (o : Obj) (J : List Nat → World → Prop), Stab w J → W₂.heap.size ≤ A.heap.size → J (Own ++ [l, w.heap.size]) A → J (Own ++ [l, w.heap.size]) (A.putObj l o) := fun {A} o J hJ hle hj => by
        have hin : InO w (Own ++ [l, w.heap.size]) A := fun i hi => by have := hInO2 i hi; omega
        exact hJ _ _ _ _ hj hin ((Chg.putObj o).mono (fun i hi _ => by simp at hi; simp [hi])) (fun i hi => by rw [hsz]; exact hin i hi) (fun i hi => .inl hi)
      have hsame : ∀ {A : World} (o : Obj), Same W₂ A (keep ++ (Own ++ [l, w.heap.size])) → Same W (A.putObj l o) (keep ++ Own) := fun {A} o hs i hi => by
        have hne : i ≠ l := fun e => by
          subst e
          rcases List.mem_append.1 hi with h | h
          · have := hkeep _ h; omega
          · have := hOwn _ h; omega
        have hiW : i < W.heap.size := by
          rcases List.mem_append.1 hi with h | h
          · have := hkeep _ h; have := c1.size; omega
          · exact (hOwn _ h).2
        rw [World.putObj_heap_other hne, hs i (by
          rcases List.mem_append.1 hi with h | h
          · exact List.mem_append_left _ h
          · exact List.mem_append_right _ (List.mem_append_left _ h)), c2.block i (by omega) (by simpa using hne), hc1.block i hiW (by simp)]
      have fin : ∀ (jump : Option Code) (A : World), Same W₂ A (keep ++ (Own ++ [l, w.heap.size])) →
          (Instr.endRound l jump).run P A = .ok (.bool jump.isNone) (A.putObj l (.loop (rec (if jump.isNone then .ready else .done) jump))) ∧ (A.putObj l (.loop (rec (if jump.isNone then .ready else .done) jump))).heap[l]? = some (.loop (rec (if jump.isNone then .ready else .done) jump)) ∧
          (A.putObj l (.loop (rec (if jump.isNone then .ready else .done) jump))).heap[w.heap.size]? = some (.deferred (some [])) := fun jump A hs => by
        have hlA : A.heap[l]? = some (.loop { rec .ready none with state := .busy }) := (hs l (by simp)).trans hl2
        have hkA : A.heap[w.heap.size]? = some (.deferred (some [])) := (hs w.heap.size (by simp)).trans hk2
        have := run_endRound (P := P) jump hlA
        rw [hrec] at this ⊢
        exact ⟨this, World.putObj_heap_same (lt_of_heap hlA), (World.putObj_heap_other (by omega)).trans hkA⟩
      intro e a₃ A hp
      cases e with
      | normal =>
        obtain ⟨hle3, hi3, hs3⟩ := hp
        obtain ⟨f1, f2, f3⟩ := fin none A hs3
        exact ⟨_, _, f1, by rw [hsz]; omega, .inl ⟨rfl, ⟨hput _ (fun O => I O (pre ++ [x])) (hI _) hle3 hi3, by rw [hsz]; omega, f2, f3⟩, hsame _ hs3⟩⟩
      | ret =>
        obtain ⟨hle3, hi3, hs3⟩ := hp
        obtain ⟨f1, f2, f3⟩ := fin (some .ret) A hs3
        exact ⟨_, _, f1, by rw [hsz]; omega, .inr ⟨rfl, .ret, hput _ (fun O => Ix .ret O (pre ++ [x])) (hIx _ _) hle3 hi3, by rw [hsz]; omega, f2, f3⟩⟩
      | exit id =>
        obtain ⟨hle3, hi3, hs3⟩ := hp
        obtain ⟨f1, f2, f3⟩ := fin (some (.exit id)) A hs3
        exact ⟨_, _, f1, by rw [hsz]; omega, .inr ⟨rfl, .exit id, hput _ (fun O => Ix (.exit id) O (pre ++ [x])) (hIx _ _) hle3 hi3, by rw [hsz]; omega, f2, f3⟩⟩
      | goto t =>
        obtain ⟨hle3, hi3, hs3⟩ := hp
        obtain ⟨f1, f2, f3⟩ := fin (some (.goto t)) A hs3
        exact ⟨_, _, f1, by rw [hsz]; omega, .inr ⟨rfl, .goto t, hput _ (fun O => Ix (.goto t) O (pre ++ [x])) (hIx _ _) hle3 hi3, by rw [hsz]; omega, f2, f3⟩⟩
      | panic ch => exact hp.elim
      | outgrown => exact hp.elim
    | exit id => exact hq.elim
    | goto t => exact hq.elim
    | ret => exact hq.elim
    | panic ch => exact hq.elim
    | outgrown => exact hq.elim

theorem NW.begin {l : Nat} {keep O : List Nat} {I : List Nat → List α → World → Prop} {Ix : Code → List Nat → List α → World → Prop} {pre : List α} {x : α} {body : Code} {W W₁ : World} {Q' : Exit → Act → World → Prop}
    (hc : Chg [] W W₁) (h : ∀ W₂, Chg [l] W₁ W₂ → (∃ r, W₁.heap[l]? = some (.loop r)) → I O pre W₂ → CW (some l) P N [] body (EndQ keep O I Ix (pre ++ [x]) W₂) E W₂) :
    NW N [] (Exit.then (BeginK P l keep O I Ix pre x body W) Q') E W₁ := fun a ha => ⟨hc, fun W₂ c _ hl hi => h W₂ c hl hi a ha⟩

/-- A function value that can be called. -/
def IsFn (P : Program) (fv : Value) : Prop := ∃ gf fn lb, fv = .func (.func gf) #[] lb ∧ P.funcs[gf]? = some fn ∧ (fn.name == "runtime.NumGoroutine") = false ∧ fn.body.isNone = false
theorem CW.rangeV {g : Operand} {ps : Array Tmp} {assign body : Code} {fv : Value} (hg : opd E g = some fv) (hf : IsFn P fv)
    {enc : α → Array Value} (hps : ∀ x, (enc x).size = ps.size) (hpN : ∀ p ∈ ps.toList, Nat.blt p N = true) {S Sp : List α → Prop} {keep : List Nat} (hseq : Iterates P fv enc S Sp keep w)
    (I : List Nat → List α → World → Prop) (Ix : Code → List Nat → List α → World → Prop) (hI : ∀ pre, Stab w (fun O => I O pre)) (hIx : ∀ c pre, Stab w (fun O => Ix c O pre))
    (h0 : ∀ O W, Chg [] w W → InO w O W → I O [] W) (hkeep : ∀ i ∈ keep, i < w.heap.size)
    (hround : ∀ (l : Nat) (O : List Nat) (pre : List α) (x : α) (W : World), InO w O W → l ∈ O → Sp (pre ++ [x]) → I O pre W →
      CW (some l) P N [] assign (Exit.then (BeginK P l keep O I Ix pre x body W) (fun _ _ _ => False)) (envPs ps.toList (enc x).toList E) W)
    (hdone : ∀ (d : Nat) (O : List Nat) (xs : List α) (W : World), InO w O W → d ∈ O → W.heap[d]? = some (.deferred (some [])) → S xs → I O xs W → NW N (mk d :: D) Q E W)
    (hstop : ∀ (d : Nat) (c : Code) (O : List Nat) (pre : List α) (W : World), InO w O W → d ∈ O → W.heap[d]? = some (.deferred (some [])) → Sp pre → Ix c O pre W → X.CW P N (mk d :: D) c Q E W) :
    X.CW P N D (.rangeFunc g ps assign body) Q E w := by
  obtain ⟨gf, fn, lb, rfl, h1, h2, h3⟩ := hf
  exact (CW.rangeFunc hg h1 h2 h3 hps hpN hseq I Ix hI hIx h0 hkeep hround hdone (fun d c O pre W a b e f g' => (hstop d c O pre W a b e f g').plain')).un
theorem _root_.Go.X.Boxes.stab {w A B : World} {l l0 : List (Nat × List Value × TypeId)} {O : List Nat} (h : Boxes A l) (h0 : Boxes w l0) (hn : l.map (·.1) = l0.map (·.1)) (hO : InO w O A) (hc : Chg O A B) : Boxes B l :=
  h.chg hc fun x hx hm => by
    have h1 := (hO _ hm).1
    have : x.1 ∈ l0.map (·.1) := hn ▸ List.mem_map.2 ⟨x, hx, rfl⟩
    obtain ⟨y, hy, e⟩ := List.mem_map.1 this
    have := lt_of_heap (h0.heap y hy)
    omega
theorem _root_.Go.X.Boxes.notloop {A B : World} {l : Nat} {bs : List (Nat × List Value × TypeId)} (h : Boxes A bs) (hl : ∃ r, A.heap[l]? = some (.loop r)) (hc : Chg [l] A B) : Boxes B bs :=
  h.chg hc fun x hx hm => by
    simp at hm
    obtain ⟨r, hr⟩ := hl
    have := h.heap x hx
    rw [hm, hr] at this; cases this
theorem _root_.Go.X.Boxes.sameS {w w1 : World} {l : List (Nat × List Value × TypeId)} {ns : List Nat} (h : Boxes w l) (hs : Same w w1 ns) (hl : ∀ x ∈ l, x.1 ∈ ns) : Boxes w1 l := ⟨fun x hx => (hs _ (hl x hx)).trans (h.heap x hx), h.nodup⟩
/-! ### A function with such a statement -/
def Marks (w : World) (ms : List Nat) : Prop := ms.Nodup ∧ ∀ m ∈ ms, w.heap[m]? = some (.deferred (some []))
theorem enterM {f : Nat} {fn : Func} {c : Code} {args : Array Value} {R : Ending → World → Prop} (hf : P.funcs[f]? = some fn) (hb : fn.body = some c) (hN : fn.ntmps = N)
    (h : X.CW P N [] c (bodyPostM Fence.wide 0 P fn R) (envOf 0 args.toList) w) : Calls P f args w R := by
  refine callsIn_wide.1 (callsIn_of_wp_marks (n := 0) hf hb trivial (wpIn_wide.2 (h _ ⟨?_, rfl, fun t v hg => ?_⟩)))
  · rw [← hN]; simp; omega
  · obtain ⟨_, h2⟩ := envOf_get _ _ _ _ hg
    have h3 : args[t]? = some v := by simpa using h2
    obtain ⟨hlt, h4⟩ := Array.getElem?_eq_some_iff.1 h3
    show (args ++ _).getD t undef = v
    simp [Array.getElem?_append_left hlt, h3]
theorem leavesM {fn : Func} {tmps : Array Value} {R : Ending → World → Prop} : ∀ (ms : List Nat) (w : World), Marks w ms → (∀ w', Chg ms w w' → ∃ v, (results fn tmps).run P w' = .ok v w' ∧ R (.returned v) w') →
    LeavesInM Fence.wide 0 P fn tmps R (ms.map mk) .returning w
  | [], w, _, h => by
    obtain ⟨v, h1, h2⟩ := h w (Chg.refl _ _)
    exact ⟨v, h1, h2⟩
  | m :: ms, w, hm, h => by
    obtain ⟨hnd, hall⟩ := hm
    have h1 := hall m (.head _)
    refine ⟨by simp, .inl ⟨m, _, rfl, run_takeDeferred h1, leavesM ms _ ⟨(List.nodup_cons.1 hnd).2, fun k hk => ?_⟩ fun w' hc => h w' ?_⟩⟩
    · have hne : k ≠ m := fun e => (List.nodup_cons.1 hnd).1 (e ▸ hk)
      exact (World.putObj_heap_other hne).trans (hall k (.tail _ hk))
    · exact ((Chg.putObj _).mono (fun i hi _ => by simp at hi; simp [hi])).trans hc (fun i hi _ => List.mem_cons_of_mem _ hi)
theorem resM {fn : Func} {R : Ending → World → Prop} {ms : List Nat} {vs : List Value} {x : Value} (hm : Marks w ms) (hx : x = match vs with | [v] => v | _ => .tuple vs.toArray) (h : ∀ w', Chg ms w w' → ResOK P E w' fn.results.toList vs ∧ R (.returned x) w')
    (a : Act) (ha : Sat N (ms.map mk) E a) : bodyPostM Fence.wide 0 P fn R .ret a w := by
  show LeavesInM Fence.wide 0 P fn a.tmps R a.defers .returning w
  rw [ha.defers]
  refine leavesM ms w hm fun w' hc => ?_
  obtain ⟨h1, hR⟩ := h w' hc
  refine ⟨x, ?_, hR⟩
  have h2 := ResOK.run ha _ _ h1
  change (do let vs ← fn.results.mapM (resF a); pure (if h : vs.size = 1 then vs[0] else .tuple vs) : Sem Value).run P w' = .ok x w'
  rw [Array.mapM_eq_mapM_toList]
  simp only [Sem.run_bind, Sem.run_map, h2, Result.andThen_ok, Sem.run_pure]
  subst hx
  match vs with
  | [] => simp
  | [v] => simp
  | v :: u :: r => simp
theorem res0M {fn : Func} {R : Ending → World → Prop} {vs : List Value} {x : Value} (h : ResOK P E w fn.results.toList vs) (hx : x = match vs with | [v] => v | _ => .tuple vs.toArray) (hR : R (.returned x) w)
    (a : Act) (ha : Sat N [] E a) : bodyPostM Fence.wide 0 P fn R .ret a w := by
  have h0 : bodyPost P fn R .ret a w := resN h hx hR a ha
  obtain ⟨hd, v, h1, h2⟩ := h0
  show LeavesInM Fence.wide 0 P fn a.tmps R a.defers .returning w
  rw [hd]
  exact ⟨v, h1, h2⟩
theorem Marks.stab {w A B : World} {ms O : List Nat} (h : Marks A ms) (h0 : Marks w ms) (hO : InO w O A) (hc : Chg O A B) : Marks B ms :=
  ⟨h.1, fun m hm => hc.obj (fun hm' => by have := (hO _ hm').1; have := lt_of_heap (h0.2 m hm); omega) (h.2 m hm)⟩
theorem Marks.notloop {A B : World} {l : Nat} {ms : List Nat} (h : Marks A ms) (hl : ∃ r, A.heap[l]? = some (.loop r)) (hc : Chg [l] A B) : Marks B ms :=
  ⟨h.1, fun m hm => hc.obj (fun hm' => by
    simp at hm'
    obtain ⟨r, hr⟩ := hl
    have := h.2 m hm
    rw [hm', hr] at this; cases this) (h.2 m hm)⟩
theorem _root_.Go.X.Boxes.marks {w w' : World} {ms : List Nat} {l : List (Nat × List Value × TypeId)} (h : Boxes w l) (hK : Marks w ms) (hc : Chg ms w w') : Boxes w' l :=
  h.chg hc fun x hx hm => by
    have h1 := hK.2 _ hm
    rw [h.heap x hx] at h1; cases h1
theorem Marks.nil (w : World) : Marks w [] := ⟨by simp, by simp⟩
theorem Marks.chg {f ms : List Nat} {w w' : World} (h : Marks w ms) (hc : Chg f w w') (hf : ∀ m ∈ ms, m ∉ f) : Marks w' ms := ⟨h.1, fun m hm => hc.obj (hf m hm) (h.2 m hm)⟩
theorem Marks.same {ms l : List Nat} {w w' : World} (h : Marks w ms) (hs : Same w w' l) (hl : ∀ m ∈ ms, m ∈ l) : Marks w' ms := ⟨h.1, fun m hm => (hs m (hl m hm)).trans (h.2 m hm)⟩
theorem Marks.grow {ms : List Nat} {w w' : World} {o : Obj} (h : Marks w ms) (hw : w' = World.alloc w o) : Marks w' ms := h.chg (f := []) (by subst hw; exact Chg.alloc _ _) (by simp)
theorem Marks.drew {ms : List Nat} {w w' : World} (h : Marks w ms) (hw : w' = World.drew w) : Marks w' ms := h.chg (f := []) (by subst hw; exact Chg.drew _) (by simp)
theorem Marks.set {ms : List Nat} {w w' : World} {b : Nat} {cs : Array Value} {T : TypeId} {fr : Nat × Nat} (h : Marks w ms) (hb : w.heap[b]? = some (.cells cs T fr)) (hc : Chg [b] w w') : Marks w' ms := h.chg hc fun m hm hm' => by
  simp at hm'; subst hm'
  have := h.2 _ hm
  rw [hb] at this; cases this
theorem Marks.cons {ms : List Nat} {w : World} {d : Nat} (h : Marks w ms) (hd : w.heap[d]? = some (.deferred (some []))) (hn : d ∉ ms) : Marks w (d :: ms) := ⟨List.nodup_cons.2 ⟨hn, h.1⟩, fun m hm => by
  rcases List.mem_cons.1 hm with rfl | hm
  · exact hd
  · exact h.2 m hm⟩
end
end Go.XR

/-! ### Ways that meet, and loops, where ranges over functions were begun: the frame's deferred ones are of the state -/
namespace Go.X
open Go
section
variable {P : Program} {N : Nat} {D : List Deferred} {Q : Exit → Act → World → Prop} {E : Env} {w : World}
end
end Go.X
end

/- XG3 -/
section
set_option linter.unusedVariables false
set_option linter.unusedSimpArgs false
namespace Go.Proofs.YtfcfkhbkkfpehaaGreat
open Go Go.X

def z167_XG3 : List Value := List.replicate 1 (Value.int .i64 0) ++ List.replicate 64 (Value.int .u32 0)
end Go.Proofs.YtfcfkhbkkfpehaaGreat
end

/- XMapIter -/
section
/- Iterators over maps: maps.All, maps.Keys over the pages of a shadow. -/
set_option linter.unusedVariables false
set_option linter.unusedSimpArgs false
namespace Go.Proofs.YtfcfkhbkkfpehaaGreat
open Go Go.RowKit Go.X Go.XR

theorem _root_.Go.X.IterAt.eq {K V : Type} [DecidableEq K] {ke : K → Value} {ve : V → Value} {w w' : World} {it m : Nat} {l done : List (K × V)} (h : IterAt w it m ke ve l done) (h1 : w'.heap[it]? = w.heap[it]?) (h2 : w'.heap[m]? = w.heap[m]?) : IterAt w' it m ke ve l done := by
  obtain ⟨es, clk, since, c0, seen, ds, a, b, b', c, rest⟩ := h
  exact ⟨es, clk, since, c0, seen, ds, h1.trans a, b, b', h2.trans c, rest⟩
theorem _root_.Go.X.IterAt.lt {K V : Type} [DecidableEq K] {ke : K → Value} {ve : V → Value} {w : World} {it m : Nat} {l done : List (K × V)} (h : IterAt w it m ke ve l done) : it < w.heap.size := by
  obtain ⟨es, clk, since, c0, seen, ds, a, _⟩ := h
  exact lt_of_heap a

def allS {K V α : Type} (f : K × V → α) (l : List (K × V)) (xs : List α) : Prop := ∃ done : List (K × V), xs = done.map f ∧ (done.map Prod.fst).Nodup ∧ (∀ x ∈ done, x ∈ l) ∧ ∀ x ∈ l, x ∈ done
def allSp {K V α : Type} (f : K × V → α) (l : List (K × V)) (xs : List α) : Prop := ∃ done : List (K × V), xs = done.map f ∧ (done.map Prod.fst).Nodup ∧ ∀ x ∈ done, x ∈ l

end Go.Proofs.YtfcfkhbkkfpehaaGreat
end

/- XG6 -/
section
set_option linter.unusedVariables false
set_option linter.unusedSimpArgs false
namespace Go.Proofs.YtfcfkhbkkfpehaaGreat
open Go Go.X

end Go.Proofs.YtfcfkhbkkfpehaaGreat
end

/- XCollect -/
section
/- slices.AppendSeq, slices.Collect over iterators of ints. -/
set_option linter.unusedVariables false
set_option linter.unusedSimpArgs false
namespace Go.Proofs.YtfcfkhbkkfpehaaGreat
open Go Go.RowKit Go.X Go.XR

end Go.Proofs.YtfcfkhbkkfpehaaGreat
end

/- XSort -/
section
/- slices.Sort over ints (by the shelf's contract), slices.Sorted. -/
set_option linter.unusedVariables false
set_option linter.unusedSimpArgs false
namespace Go.Proofs.YtfcfkhbkkfpehaaGreat
open Go Go.RowKit Go.X Go.XR Go.Shelf

/-! The shelf's laying of slices.Sort (written by the kit's lay-plain) -/
end Go.Proofs.YtfcfkhbkkfpehaaGreat
end

/- XShCopy -/
section
/- Shadows: Copy. -/
set_option linter.unusedVariables false
set_option linter.unusedSimpArgs false
namespace Go.Proofs.YtfcfkhbkkfpehaaGreat
open Go Go.RowKit Go.X Go.XR

theorem PageC.ones {w : World} {q : Nat} {n : Int} {s : Nat → Int} {c : Array Value} (h1 : c.size = 65) (h2 : c[0]? = some (.int .i64 n)) (h3 : ∀ i, i < 64 → c[1 + i]? = some (.int .u32 (s i))) : ∀ v ∈ c.toList, Value.oneCell' v = true := by
  intro v hv
  obtain ⟨j, hj⟩ := List.getElem?_of_mem hv
  have hlt : j < c.toList.length := (List.getElem?_eq_some_iff.1 hj).1
  simp at hlt
  cases j with
  | zero =>
    have : c[0]? = some v := by simpa using hj
    rw [h2] at this; cases this; rfl
  | succ j =>
    have : c[1 + j]? = some v := by rw [Nat.add_comm]; simpa using hj
    rw [h3 j (by omega)] at this; cases this; rfl

end Go.Proofs.YtfcfkhbkkfpehaaGreat
end

/- XAll -/
section
/- Shadows: All. -/
set_option linter.unusedVariables false
set_option linter.unusedSimpArgs false
namespace Go.Proofs.YtfcfkhbkkfpehaaGreat
open Go Go.RowKit Go.X Go.XR

/-! ### The plain law: what is told -/
def one (g : Int → Int) (n : Int) (i : Nat) : List (Int × Int) := if pg g n i = 0 then [] else [(64 * n + i, pg g n i)]
/-! ### The walk -/
theorem ShadowAt.same {w w' : World} {b : Nat} {pages : Int} {g : Int → Int} {fp : List Nat} (h : ShadowAt w b pages g fp) (hs : Same w w' fp) : ShadowAt w' b pages g fp := by
  obtain ⟨r, l, h1, ⟨es, clk, m1, m2⟩, h3, h4, rfl⟩ := h.there
  refine ⟨⟨r, l, (hs b (by simp)).trans h1, ⟨es, clk, (hs r (by simp)).trans m1, m2⟩, fun x hx => ?_, h4, rfl⟩, h.nodup, h.pages1, h.pages2, h.each⟩
  obtain ⟨a1, a2, ⟨c, a3, a4⟩, a5⟩ := h3 x hx
  exact ⟨a1, a2, ⟨c, (hs x.2 (by simp; exact .inr (.inr ⟨x.1, hx⟩))).trans a3, a4⟩, a5⟩
theorem same_cell {w w' : World} {q : Addr} {v : Value} (h : w'.heap[q.block]? = w.heap[q.block]?) (hq : w.cell? q = some v) : w'.cell? q = some v := by
  unfold World.cell? at hq ⊢
  rw [h]; exact hq
end Go.Proofs.YtfcfkhbkkfpehaaGreat
end

/- XG7 -/
section
set_option linter.unusedVariables false
set_option linter.unusedSimpArgs false
namespace Go.Proofs.YtfcfkhbkkfpehaaGreat
open Go Go.X

end Go.Proofs.YtfcfkhbkkfpehaaGreat
end

/- XR03 -/
section
/- The document's shadow (pomanderref03): a list of sets. -/
set_option linter.unusedVariables false
set_option linter.unusedSimpArgs false
namespace Go.Proofs.YtfcfkhbkkfpehaaGreat
open Go Go.RowKit Go.X

section
variable {w : World} {p : Option Addr} {n c : Nat} {g : Int → Int} {pages : Int}
end
end Go.Proofs.YtfcfkhbkkfpehaaGreat
end

/- XShadow3 -/
section
/- Shadows: Pages, Private; All. -/
set_option linter.unusedVariables false
set_option linter.unusedSimpArgs false
namespace Go.Proofs.YtfcfkhbkkfpehaaGreat
open Go Go.RowKit Go.X Go.XR

end Go.Proofs.YtfcfkhbkkfpehaaGreat
end

/- XG9 -/
section
set_option linter.unusedVariables false
set_option linter.unusedSimpArgs false
namespace Go.Proofs.YtfcfkhbkkfpehaaGreat
open Go Go.X


end Go.Proofs.YtfcfkhbkkfpehaaGreat
end

/- XIs -/
section
/- pomanderlaw03: is. -/
set_option linter.unusedVariables false
set_option linter.unusedSimpArgs false
namespace Go.Proofs.YtfcfkhbkkfpehaaGreat
open Go Go.RowKit Go.X Go.XR

end Go.Proofs.YtfcfkhbkkfpehaaGreat
end
