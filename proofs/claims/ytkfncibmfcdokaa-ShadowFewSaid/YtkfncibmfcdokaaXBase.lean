/- The engine's base, over any program: what is known of a frame's slots is a list ('Env'); rules for codes, regions, operations over it. -/
import Derived.WalkKit
import Derived.OrdersHeld
import Derived.ScopeJumps
import Derived.KernelRfl
import Derived.WalkSmall
set_option linter.unusedVariables false
set_option linter.unusedSimpArgs false
namespace Go.X
open Go

abbrev Env := List (Nat × Value)

def get : Env → Nat → Option Value
  | [], _ => none
  | (t, v) :: E, u => bif Nat.beq u t then some v else get E u

def opd (E : Env) : Operand → Option Value
  | .tmp t => get E t
  | .const v => some v
  | .global g => some (.pointer (some ⟨g, 0, none⟩))
  | .func f => some (.func (.func f) #[] #[])

def Sub : Env → Env → Prop
  | [], _ => True
  | (t, v) :: E, F => get F t = some v ∧ Sub E F

theorem Sub.get : ∀ {E F : Env}, Sub E F → ∀ {t : Nat} {v : Value}, get E t = some v → get F t = some v
  | [], _, _, _, _, h => by cases h
  | (t, v) :: E, F, ⟨h1, h2⟩, u, x, h => by
    simp only [X.get] at h
    cases hb : Nat.beq u t with
    | true => rw [hb] at h; simp at h; rw [Nat.eq_of_beq_eq_true hb, h1, h]
    | false => rw [hb] at h; exact h2.get h

structure Sat (N : Nat) (D : List Deferred) (E : Env) (a : Act) : Prop where
  size : N ≤ a.tmps.size
  defers : a.defers = D
  get : ∀ t v, get E t = some v → a.tmps.getD t undef = v

theorem Sat.sub {N : Nat} {D : List Deferred} {E F : Env} {a : Act} (h : Sat N D F a) (s : Sub E F) : Sat N D E a :=
  ⟨h.size, h.defers, fun _ _ hg => h.get _ _ (s.get hg)⟩

theorem Sat.eval {N : Nat} {D : List Deferred} {E : Env} {a : Act} (h : Sat N D E a) {x : Operand} {v : Value} (hx : opd E x = some v) : a.eval x = v := by
  cases x with
  | tmp t => exact h.get t v hx
  | const c => simpa [opd, Act.eval] using hx
  | global g => simpa [opd, Act.eval] using hx
  | func f => simpa [opd, Act.eval] using hx

def putE : Option Nat → Value → Env → Env
  | some d, v, E => (d, v) :: E
  | none, _, E => E

def okd (N : Nat) : Option Nat → Bool
  | some d => Nat.blt d N
  | none => true

theorem Sat.put {N : Nat} {D : List Deferred} {E : Env} {a : Act} (h : Sat N D E a) {d : Option Nat} {v : Value} (hd : okd N d = true) : Sat N D (putE d v E) (a.put d v) := by
  cases d with
  | none => exact h
  | some d =>
    have hlt : d < a.tmps.size := Nat.lt_of_lt_of_le (by simpa [okd] using hd) h.size
    refine ⟨by simpa [Act.put] using h.size, h.defers, fun t x hg => ?_⟩
    simp only [putE, X.get] at hg
    cases hb : Nat.beq t d with
    | true =>
      rw [hb] at hg; simp at hg; subst hg
      rw [Nat.eq_of_beq_eq_true hb]
      simp [Act.put, hlt]
    | false =>
      rw [hb] at hg
      have hne : d ≠ t := fun e => by subst e; simp at hb
      have := h.get t x hg
      simp only [Act.put]
      rw [← this]
      simp [Array.getElem?_setIfInBounds_ne hne]

def envOf : Nat → List Value → Env
  | _, [] => []
  | i, v :: vs => (i, v) :: envOf (i + 1) vs

theorem envOf_get : ∀ (vs : List Value) (i t : Nat) (v : Value), get (envOf i vs) t = some v → i ≤ t ∧ vs[t - i]? = some v
  | [], _, _, _, h => by cases h
  | x :: vs, i, t, v, h => by
    simp only [envOf, X.get] at h
    cases hb : Nat.beq t i with
    | true =>
      rw [hb] at h; simp at h; subst h
      have := Nat.eq_of_beq_eq_true hb; subst this
      exact ⟨Nat.le_refl _, by simp⟩
    | false =>
      rw [hb] at h
      obtain ⟨h1, h2⟩ := envOf_get vs (i + 1) t v h
      refine ⟨by omega, ?_⟩
      have : t - i = (t - (i + 1)) + 1 := by omega
      rw [this]; simpa using h2

/-! ### What is wanted of an operation -/
def Wants (N : Nat) (ops : Array Oper) (E : Env) (o : Oper) : Prop := ∀ D a, Sat N D E a → Region.wanted o (yielded ops a.tmps) = true
def Skips (N : Nat) (ops : Array Oper) (E : Env) (o : Oper) : Prop := ∀ D a, Sat N D E a → Region.wanted o (yielded ops a.tmps) = false
theorem Wants.free {N : Nat} {ops : Array Oper} {E : Env} {o : Oper} (h : o.guard = none) : Wants N ops E o := fun _ _ _ => by simp [Region.wanted, h]
theorem yielded_at {N : Nat} {D : List Deferred} {ops : Array Oper} {E : Env} {a : Act} {j t : Nat} {oj : Oper} {v : Value} (hs : Sat N D E a) (hj : ops[j]? = some oj) (hd : oj.dst = some t)
    (hN : Nat.blt t N = true) (hE : get E t = some v) : yielded ops a.tmps j = match v with | .bool b => some b | _ => none := by
  have hlt : t < a.tmps.size := Nat.lt_of_lt_of_le (by simpa using hN) hs.size
  have h1 := hs.get t v hE
  have h2 : a.tmps[t]? = some v := by rw [Array.getElem?_eq_getElem hlt]; congr 1; simpa [hlt] using h1
  simp only [yielded, hj, Option.bind_some, hd, h2]
  cases v <;> rfl
theorem Wants.on {N : Nat} {ops : Array Oper} {E : Env} {o oj : Oper} {j t : Nat} {b c : Bool} (h : o.guard = some (j, b)) (hj : ops[j]? = some oj) (hd : oj.dst = some t) (hN : Nat.blt t N = true)
    (hE : get E t = some (.bool c)) (hc : c = b) : Wants N ops E o := fun _ _ hs => by
  simp [Region.wanted, h, yielded_at hs hj hd hN hE, hc]
theorem Skips.on {N : Nat} {ops : Array Oper} {E : Env} {o oj : Oper} {j t : Nat} {b c : Bool} (h : o.guard = some (j, b)) (hj : ops[j]? = some oj) (hd : oj.dst = some t) (hN : Nat.blt t N = true)
    (hE : get E t = some (.bool c)) (hc : c = !b) : Skips N ops E o := fun _ _ hs => by
  simp [Region.wanted, h, yielded_at hs hj hd hN hE, hc]
theorem Skips.un {N : Nat} {ops : Array Oper} {E : Env} {o oj : Oper} {j t : Nat} {b : Bool} (h : o.guard = some (j, b)) (hj : ops[j]? = some oj) (hd : oj.dst = some t) (hN : Nat.blt t N = true)
    (hE : get E t = some undef) : Skips N ops E o := fun _ _ hs => by
  simp [Region.wanted, h, yielded_at hs hj hd hN hE, undef]

/-! ### Codes -/
section
variable {P : Program} {N : Nat} {D : List Deferred} {Q : Exit → Act → World → Prop} {E : Env} {w : World}

def CW (P : Program) (N : Nat) (D : List Deferred) (c : Code) (Q : Exit → Act → World → Prop) (E : Env) (w : World) : Prop := ∀ a, Sat N D E a → c.wp P Q a w
def NW (N : Nat) (D : List Deferred) (Q : Exit → Act → World → Prop) (E : Env) (w : World) : Prop := ∀ a, Sat N D E a → Q .normal a w
def XW (N : Nat) (D : List Deferred) (id : Nat) (Q : Exit → Act → World → Prop) (E : Env) (w : World) : Prop := ∀ a, Sat N D E a → Q (.exit id) a w
def GW (N : Nat) (D : List Deferred) (l : Nat) (Q : Exit → Act → World → Prop) (E : Env) (w : World) : Prop := ∀ a, Sat N D E a → Q (.goto l) a w

theorem CW.sub {c : Code} {F : Env} (s : Sub E F) (h : CW P N D c Q E w) : CW P N D c Q F w := fun a ha => h a (ha.sub s)
theorem CW.seq {x y : Code} (h : CW P N D x (Exit.then (y.wp P Q) Q) E w) : CW P N D (.seq x y) Q E w := fun a ha => wp_seq (h a ha)
theorem NW.then {y : Code} (h : CW P N D y Q E w) : NW N D (Exit.then (y.wp P Q) Q) E w := fun a ha => h a ha
theorem CW.skip (h : NW N D Q E w) : CW P N D .skip Q E w := fun a ha => wp_skip (h a ha)
theorem CW.label {l : Nat} (h : NW N D Q E w) : CW P N D (.label l) Q E w := fun a ha => wp_label (h a ha)
theorem CW.cond {c : Operand} {x y : Code} {b : Bool} (hc : opd E c = some (.bool b)) (h1 : b = true → CW P N D x Q E w) (h2 : b = false → CW P N D y Q E w) : CW P N D (.cond c x y) Q E w :=
  fun a ha => wp_cond_split (ha.eval hc) (fun hb => h1 hb a ha) (fun hb => h2 hb a ha)
theorem CW.block {id : Nat} {c : Code} (h : CW P N D c (Exit.inBlock id Q) E w) : CW P N D (.block id c) Q E w := fun a ha => wp_block (h a ha)
theorem NW.block {id : Nat} (h : NW N D Q E w) : NW N D (Exit.inBlock id Q) E w := fun a ha => h a ha
theorem CW.exit {id : Nat} (h : XW N D id Q E w) : CW P N D (.exit id) Q E w := fun a ha => wp_exit (h a ha)
theorem XW.then {id : Nat} {K : Act → World → Prop} (h : XW N D id Q E w) : XW N D id (Exit.then K Q) E w := fun a ha => h a ha
theorem XW.hit {id : Nat} (h : NW N D Q E w) : XW N D id (Exit.inBlock id Q) E w := fun a ha => by
  show (if id = id then Q .normal a w else Q (.exit id) a w); rw [if_pos rfl]; exact h a ha
theorem XW.miss {id id' : Nat} (hne : Nat.beq id' id = false) (h : XW N D id' Q E w) : XW N D id' (Exit.inBlock id Q) E w := fun a ha => by
  show (if id' = id then Q .normal a w else Q (.exit id') a w); rw [if_neg (fun e => by subst e; simp at hne)]; exact h a ha
def RW (N : Nat) (D : List Deferred) (Q : Exit → Act → World → Prop) (E : Env) (w : World) : Prop := ∀ a, Sat N D E a → Q .ret a w
theorem CW.ret (h : RW N D Q E w) : CW P N D .ret Q E w := fun a ha => wp_ret (h a ha)
theorem RW.then {K : Act → World → Prop} (h : RW N D Q E w) : RW N D (Exit.then K Q) E w := fun a ha => h a ha
theorem RW.block {id : Nat} (h : RW N D Q E w) : RW N D (Exit.inBlock id Q) E w := fun a ha => h a ha
theorem CW.goto {l : Nat} (h : GW N D l Q E w) : CW P N D (.goto l) Q E w := fun a ha => wp_goto (h a ha)
theorem GW.then {l : Nat} {K : Act → World → Prop} (h : GW N D l Q E w) : GW N D l (Exit.then K Q) E w := fun a ha => h a ha
theorem GW.block {l id : Nat} (h : GW N D l Q E w) : GW N D l (Exit.inBlock id Q) E w := fun a ha => h a ha

/-- Ways that meet: a sequence whose first part comes to one of many environments. -/
theorem CW.cut {S : Type} {x y : Code} (Ek : S → Env) (I : S → World → Prop) (hk : ∀ s w, I s w → CW P N D y Q (Ek s) w)
    (h : CW P N D x (Exit.then (fun a w => ∃ s, Sat N D (Ek s) a ∧ I s w) Q) E w) : CW P N D (.seq x y) Q E w := fun a ha =>
  wp_seq (wp_mono (h a ha) fun e a' w' hq => by
    cases e with
    | normal => obtain ⟨s, hs, hI⟩ := hq; exact hk s w' hI a' hs
    | _ => exact hq)
theorem NW.cut {S : Type} {Ek : S → Env} {I : S → World → Prop} {Q' : Exit → Act → World → Prop} (s : S) (hs : Sub (Ek s) E) (hI : I s w) : NW N D (Exit.then (fun a w => ∃ s, Sat N D (Ek s) a ∧ I s w) Q') E w :=
  fun a ha => ⟨s, ha.sub hs, hI⟩

/-- Ways that meet behind the last code of a block or a function: what is asked there, by one environment. -/
theorem CW.meet {S : Type} {x : Code} (Ek : S → Env) (I : S → World → Prop) (hk : ∀ s w, I s w → NW N D Q (Ek s) w)
    (h : CW P N D x (Exit.then (fun a w => ∃ s, Sat N D (Ek s) a ∧ I s w) Q) E w) : CW P N D x Q E w := fun a ha =>
  wp_mono (h a ha) fun e a' w' hq => by
    cases e with
    | normal => obtain ⟨s, hs, hI⟩ := hq; exact hk s w' hI a' hs
    | _ => exact hq

/-- A loop. -/
theorem CW.loop {S : Type} {c : Code} (El : S → Env) (I : S → World → Prop) (μ : S → World → Nat) (s₀ : S) (hs : Sub (El s₀) E) (hI : I s₀ w)
    (round : ∀ s w, I s w → CW P N D c (Exit.then (fun a' w' => ∃ s', Sat N D (El s') a' ∧ (I s' w' ∧ μ s' w' < μ s w)) Q) (El s) w) : CW P N D (.loop c) Q E w := by
  intro a ha b k cs
  have key : ∀ n s a w, μ s w = n → Sat N D (El s) a → I s w →
      ∃ e a' w', Q e a' w' ∧ Arrives P (lone (b.at a (.code c :: .inLoop c :: k)) cs w) b k cs e a' w' := by
    intro n
    induction n using Nat.strongRecOn with
    | _ n ih =>
      intro s a w hn ha hI
      obtain ⟨e, a₁, w₁, hq, harr⟩ := round s w hI a ha b (.inLoop c :: k) cs
      cases e with
      | normal =>
        obtain ⟨s', hs', hI', hlt⟩ := hq
        obtain ⟨e₂, a₂, w₂, hq₂, harr₂⟩ := ih (μ s' w₁) (hn ▸ hlt) s' a₁ w₁ rfl hs' hI'
        exact ⟨e₂, a₂, w₂, hq₂, .of_steps (Steps.trans harr (.one step_inLoop)) harr₂⟩
      | exit id => exact ⟨_, a₁, w₁, hq, .pass (x := .inLoop c) rfl (fun _ _ => .inl (by simp)) harr⟩
      | goto l => exact ⟨_, a₁, w₁, hq, .pass (x := .inLoop c) rfl (fun _ _ => .inl (by simp)) harr⟩
      | ret => exact ⟨_, a₁, w₁, hq, .pass (x := .inLoop c) rfl (fun _ _ => .inl (by simp)) harr⟩
      | panic ch => exact ⟨_, a₁, w₁, hq, .pass (x := .inLoop c) rfl (fun _ _ => .inl (by simp)) harr⟩
      | outgrown => exact ⟨_, a₁, w₁, hq, .pass (x := .inLoop c) rfl (fun _ _ => .inl (by simp)) harr⟩
  obtain ⟨e, a', w', hq, harr⟩ := key _ s₀ a w rfl (ha.sub hs) hI
  exact ⟨e, a', w', hq, .of_steps (.one step_loop) harr⟩
theorem NW.loop {S : Type} {Ek : S → Env} {I : S → World → Prop} {μ : S → World → Nat} {n : Nat} {Q' : Exit → Act → World → Prop} (s : S) (hs : Sub (Ek s) E) (hI : I s w ∧ μ s w < n) :
    NW N D (Exit.then (fun a w => ∃ s, Sat N D (Ek s) a ∧ (I s w ∧ μ s w < n)) Q') E w :=
  fun a ha => ⟨s, ha.sub hs, hI⟩

/-- A scope with one label that is jumped to from ahead of it alone. -/
theorem CW.scope {S : Type} {c rest : Code} (l : Nat) (Ek : S → Env) (I : S → World → Prop) (hf : findLabel c l = some rest)
    (hk : ∀ s w, I s w → CW P N D rest (Exit.jump l (fun _ _ => False) Q) (Ek s) w)
    (h : CW P N D c (Exit.jump l (fun a w => ∃ s, Sat N D (Ek s) a ∧ I s w) Q) E w) : CW P N D (.scope c) Q E w := fun a ha =>
  wp_scope_jumps l (fun a w => ∃ s, Sat N D (Ek s) a ∧ I s w) (fun _ _ => 0) hf (h a ha) fun a w ⟨s, hs, hI⟩ =>
    wp_mono (hk s w hI a hs) fun e a' w' hq => by
      cases e with
      | goto l' => exact hq.2.elim
      | _ => exact hq
/-- A scope without a jump. -/
theorem CW.scope0 {c : Code} (h : CW P N D c (Exit.noGoto Q) E w) : CW P N D (.scope c) Q E w := fun a ha => wp_scope_straight (h a ha)
theorem NW.noGoto (h : NW N D Q E w) : NW N D (Exit.noGoto Q) E w := fun a ha => h a ha
theorem XW.noGoto {id : Nat} (h : XW N D id Q E w) : XW N D id (Exit.noGoto Q) E w := fun a ha => h a ha
theorem NW.jump {l : Nat} {J : Act → World → Prop} (h : NW N D Q E w) : NW N D (Exit.jump l J Q) E w := fun a ha => h a ha
theorem XW.jump {l id : Nat} {J : Act → World → Prop} (h : XW N D id Q E w) : XW N D id (Exit.jump l J Q) E w := fun a ha => h a ha
theorem RW.noGoto (h : RW N D Q E w) : RW N D (Exit.noGoto Q) E w := fun a ha => h a ha
theorem RW.jump {l : Nat} {J : Act → World → Prop} (h : RW N D Q E w) : RW N D (Exit.jump l J Q) E w := fun a ha => h a ha
theorem GW.hit {S : Type} {l : Nat} {Ek : S → Env} {I : S → World → Prop} (s : S) (hs : Sub (Ek s) E) (hI : I s w) : GW N D l (Exit.jump l (fun a w => ∃ s, Sat N D (Ek s) a ∧ I s w) Q) E w :=
  fun a ha => ⟨rfl, s, ha.sub hs, hI⟩
end

/-! ### A region in the text's order -/
section
variable {P : Program} {N : Nat} {D : List Deferred} {ops : Array Oper} {Q : Exit → Act → World → Prop} {E : Env} {w w' : World} {L : Nat → Env → World → Prop} {i : Nat} {o : Oper} {v : Value}

def LW (P : Program) (N : Nat) (D : List Deferred) (ops : Array Oper) (Q : Exit → Act → World → Prop) (i : Nat) (E : Env) (w : World) : Prop :=
  ∀ a, Sat N D E a → wpList P ops Q (ops.toList.drop i) a w

theorem CW.region {id : Nat} (h : ∀ L, L = LW P N D ops Q → L 0 E w) : CW P N D (.region id ops false) Q E w :=
  fun a ha => wp_region_list (by have := h _ rfl a ha; simpa using this)

theorem drop_at (ho : ops[i]? = some o) : ops.toList.drop i = o :: ops.toList.drop (i + 1) := by
  obtain ⟨hi, rfl⟩ := Array.getElem?_eq_some_iff.1 ho
  rw [List.drop_eq_getElem_cons (by simpa using hi)]
  simp

theorem LW.step (hL : L = LW P N D ops Q) (ho : ops[i]? = some o) (hw : Wants N ops E o)
    (h : ∀ a, Sat N D E a → o.wp P a w (wpList P ops Q (ops.toList.drop (i + 1))) Q) : L i E w := by
  subst hL
  intro a ha
  rw [drop_at ho]
  unfold wpList
  rw [if_pos (hw _ _ ha)]
  exact .inl (h a ha)

theorem LW.val (hL : L = LW P N D ops Q) (ho : ops[i]? = some o) (hw : Wants N ops E o) (hd : okd N o.dst = true)
    (hv : ∀ a, Sat N D E a → (execOp a.eval o).run P w = .ok (.value v) w') (k : L (i + 1) (putE o.dst v E) w') : L i E w :=
  LW.step hL ho hw fun a ha => by
    unfold Oper.wp; rw [hv a ha, Oper.upon_value]
    rw [hL] at k; exact k _ (ha.put hd)
theorem LW.eff (hL : L = LW P N D ops Q) (ho : ops[i]? = some o) (hw : Wants N ops E o) (hd : okd N o.dst = true)
    (hv : ∀ a, Sat N D E a → (execOp a.eval o).run P w = .ok .skip w') (k : L (i + 1) (putE o.dst undef E) w') : L i E w :=
  LW.step hL ho hw fun a ha => by
    unfold Oper.wp; rw [hv a ha, Oper.upon_skip]
    rw [hL] at k; exact k _ (ha.put hd)
theorem LW.call {f : Nat} {args : Array Value} {R : Ending → World → Prop} (hL : L = LW P N D ops Q) (ho : ops[i]? = some o) (hw : Wants N ops E o) (hd : okd N o.dst = true)
    (hv : ∀ a, Sat N D E a → (execOp a.eval o).run P w = .ok (.enter f args) w') (hc : Calls P f args w' R)
    (k : ∀ e w'', R e w'' → ∃ v, e = .returned v ∧ L (i + 1) (putE o.dst v E) w'') : L i E w :=
  LW.step hL ho hw fun a ha => by
    unfold Oper.wp; rw [hv a ha, Oper.upon_enter]
    refine hc.mono fun e w'' hR => ?_
    obtain ⟨v, rfl, hk⟩ := k e w'' hR
    rw [hL] at hk; exact hk _ (ha.put hd)
theorem LW.skip (hL : L = LW P N D ops Q) (ho : ops[i]? = some o) (hs : Skips N ops E o) (hd : okd N o.dst = true) (k : L (i + 1) (putE o.dst undef E) w) : L i E w := by
  subst hL
  intro a ha
  rw [drop_at ho]
  unfold wpList
  rw [if_neg (by rw [hs _ _ ha]; simp)]
  exact k _ (ha.put hd)
theorem LW.nil (hL : L = LW P N D ops Q) (hi : ops[i]? = none) (k : NW N D Q E w) : L i E w := by
  subst hL
  intro a ha
  have : ops.toList.drop i = [] := List.drop_eq_nil_of_le (by simpa using hi)
  rw [this]; exact k a ha
theorem LW.sub (hL : L = LW P N D ops Q) {F : Env} (s : Sub E F) (k : L i E w) : L i F w := by
  subst hL; exact fun a ha => k a (ha.sub s)
end

/-! ### A region that draws its order -/
section
variable {P : Program} {ops : Array Oper} {Q : Exit → Act → World → Prop} {S : World → Prop} {z : Nat}

/-- Whatever comes up next; behind each operation that comes up ahead of z S holds. -/
def AH (P : Program) (ops : Array Oper) (Q : Exit → Act → World → Prop) (S : World → Prop) (z : Nat) : Nat → Array Bool → Act → World → Prop
  | 0, l, a, w => Region.ready .any ops l = [] ∧ Q .normal a w
  | n + 1, l, a, w => (Region.ready .any ops l = [] → Q .normal a w) ∧
    ∀ i ∈ Region.ready .any ops l, wpOp P ops Q i (fun a' w' => ((l.setIfInBounds i true).getD z false = false → S w') ∧ AH P ops Q S z n (l.setIfInBounds i true) a' w') a w

theorem AH.any : ∀ (n : Nat) (l : Array Bool) (a : Act) (w : World), AH P ops Q S z n l a w → wpAny P .any ops Q n l a w
  | 0, _, _, _, h => h
  | n + 1, _, _, _, h => ⟨h.1, fun i hi => wpOp_mono (fun a' w' h' => AH.any n _ a' w' h'.2) (h.2 i hi)⟩

/-- What has come up has come up behind what it waits for. -/
structure Shut (ops : Array Oper) (l : Array Bool) : Prop where
  size : l.size = ops.size
  up : ∀ j oj, ops[j]? = some oj → l.getD j false = true → ∀ e ∈ oj.after, Region.binds .any e = true → l.getD e.on false = true
theorem Shut.none : Shut ops (Array.replicate ops.size false) := ⟨by simp, fun j oj hj h => by
  have hlt : j < ops.size := (Array.getElem?_eq_some_iff.1 hj).1
  simp [hlt] at h⟩
theorem getD_both {l : Array Bool} {i : Nat} (h : l.getD i true = false) : l.getD i false = false := by
  rcases Nat.lt_or_ge i l.size with h' | h' <;> simp_all
theorem Shut.set {l : Array Bool} {i : Nat} (h : Shut ops l) (hi : i ∈ Region.ready .any ops l) : Shut ops (l.setIfInBounds i true) := by
  refine ⟨by simpa using h.size, fun j oj hj hl e he hb => getD_set_true ?_⟩
  by_cases hji : i = j
  · subst hji
    obtain ⟨_, o, ho, hall⟩ := mem_ready.1 hi
    rw [hj] at ho; cases ho
    exact hall e he hb
  · rw [getD_set_ne false hji] at hl
    exact h.up j oj hj hl e he hb
/-- Does z wait for i, straight or through others? -/
def waits (ops : Array Oper) : Nat → Nat → Nat → Bool
  | 0, _, _ => false
  | f + 1, z, i => match ops[z]? with
    | none => false
    | some o => o.after.toList.any (fun e => Region.binds .any e && e.on == i) || o.after.toList.any (fun e => Region.binds .any e && waits ops f e.on i)
theorem Shut.waits {l : Array Bool} (h : Shut ops l) {i : Nat} : ∀ (f z : Nat), X.waits ops f z i = true → l.getD z false = true → l.getD i false = true := by
  intro f
  induction f with
  | zero => intro z hw; cases hw
  | succ f ih =>
    intro z hw hz
    simp only [X.waits] at hw
    cases ho : ops[z]? with
    | none => rw [ho] at hw; cases hw
    | some o =>
      rw [ho] at hw
      simp only [Bool.or_eq_true, List.any_eq_true, Bool.and_eq_true] at hw
      rcases hw with ⟨e, he, hb, hi⟩ | ⟨e, he, hb, hi⟩
      · have := h.up z o ho hz e (by simpa using he) hb
        rwa [show e.on = i from by simpa using hi] at this
      · exact ih _ hi (h.up z o ho hz e (by simpa using he) hb)

theorem AH.first {S₀ : World → Prop} {i : Nat} {oi : Oper} {v : Value} (hi : ops[i]? = some oi) (hsel : ∀ (j : Nat) (o : Oper) cs b, ops[j]? = some o → o.op ≠ .select cs b)
    (hQ : ∀ c a w, Q (.panic c) (a.put oi.dst v) w → Q (.panic c) a w) (hz : i ≠ z)
    (hS₀ : ∀ l w, Shut ops l → l.getD i true = false → (l.getD z false = false → S w) → S₀ w) :
    ∀ (n : Nat) (l : Array Bool) (a : Act) (w : World),
      (∀ j oj, ops[j]? = some oj → j ≠ i → l.getD j true = false → (∀ e ∈ oj.after, Region.binds .any e = true → e.on ≠ i) → oi.apart ops oj = true) →
      Shut ops l → i ∈ Region.ready .any ops l → YieldsIf P ops S₀ oi v a → (l.getD z false = false → S w) → AH P ops Q S z n (l.setIfInBounds i true) (a.put oi.dst v) w → AH P ops Q S z (n + 1) l a w := by
  intro n
  induction n with
  | zero =>
    intro l a w _ hsh hr hy hS H
    have hpend : l.getD i true = false := (mem_ready.1 hr).1
    refine ⟨fun h => (by rw [h] at hr; cases hr), fun j hj => ?_⟩
    by_cases hji : j = i
    · subst hji; exact hy.wpOp hi (hS₀ l w hsh hpend hS) ⟨fun h => hS (by rwa [getD_set_ne false hz] at h), H⟩
    · have hm := ready_mono hj hji
      rw [H.1] at hm; cases hm
  | succ n ih =>
    intro l a w hfree hsh hr hy hS H
    have hpend : l.getD i true = false := (mem_ready.1 hr).1
    refine ⟨fun h => (by rw [h] at hr; cases hr), fun j hj => ?_⟩
    by_cases hji : j = i
    · subst hji; exact hy.wpOp hi (hS₀ l w hsh hpend hS) ⟨fun h => hS (by rwa [getD_set_ne false hz] at h), H⟩
    · have h1 := H.2 j (ready_mono hj hji)
      obtain ⟨hjun, oj, hoj, hall⟩ := mem_ready.1 hj
      have hnot : ∀ e ∈ oj.after, Region.binds .any e = true → e.on ≠ i := fun e he hb heq => by
        have h2 := hall e he hb
        rw [heq, getD_both hpend] at h2; cases h2
      have h2 := wpOp_putIf hoj (hfree j oj hoj hji hjun hnot) (fun cs b => hsel i oi cs b hi) (fun cs b => hsel j oj cs b hoj) hQ hy h1
      refine wpOp_mono (fun a' w' h3 => ?_) h2
      obtain ⟨hy', hS', hA'⟩ := h3
      have hS'' : (l.setIfInBounds j true).getD z false = false → S w' := fun h => hS' (by rw [Array.setIfInBounds_comm _ _ (Ne.symm hji), getD_set_ne false hz]; exact h)
      refine ⟨hS'', ih (l.setIfInBounds j true) a' w' (fun k ok hk hki hun hno => hfree k ok hk hki ?_ hno) (hsh.set hj) (ready_mono hr (Ne.symm hji)) hy' hS'' ?_⟩
      · by_cases hjk : j = k
        · subst hjk; exact hjun
        · rw [getD_set_ne true hjk] at hun; exact hun
      · rw [Array.setIfInBounds_comm _ _ hji]; exact hA'

/-- What is asked of number i, so that it may be taken first, as a Bool. -/
def chk (ops : Array Oper) (z : Nat) (l : Array Bool) (i : Nat) : Bool :=
  Region.noSelect ops && (Region.free .any ops l i && ((Region.ready .any ops l).contains i && !Nat.beq i z))
/-- .. and, where it reads memory: z waits for it. -/
def chkR (ops : Array Oper) (z : Nat) (i : Nat) : Bool := Nat.ble ops.size z || waits ops 12 z i
theorem chkR_spec {i : Nat} (h : chkR ops z i = true) : ∀ l w, Shut ops l → l.getD i true = false → (l.getD z false = false → S w) → S w := fun l w hsh hi hS => by
  refine hS ?_
  cases hz : l.getD z false with
  | false => rfl
  | true =>
    simp only [chkR, Bool.or_eq_true] at h
    rcases h with h | h
    · have h1 : ops.size ≤ z := by simpa using h
      rw [← hsh.size] at h1
      simp [h1] at hz
    · have := hsh.waits _ _ h hz
      rw [getD_both hi] at this; cases this

/-- No way out but the region's end. -/
def NP (Q : Exit → Act → World → Prop) : Exit → Act → World → Prop
  | .normal, a, w => Q .normal a w
  | _, _, _ => False

variable {N : Nat} {D : List Deferred} {E : Env} {w w' : World} {H : Nat → Array Bool → Env → World → Prop} {n : Nat} {l : Array Bool} {i : Nat} {o : Oper} {v : Value}

def HW (P : Program) (N : Nat) (D : List Deferred) (ops : Array Oper) (Q : Exit → Act → World → Prop) (S : World → Prop) (z : Nat) (n : Nat) (l : Array Bool) (E : Env) (w : World) : Prop :=
  ∀ a, Sat N D E a → Shut ops l → AH P ops (NP Q) S z n l a w

theorem CW.drawn {id : Nat} (S : World → Prop) (z : Nat) (hm : P.follows .mixedOrders = true) (h : ∀ H, H = HW P N D ops Q S z → H ops.size (Array.replicate ops.size false) E w.drew) :
    CW P N D (.region id ops true) Q E w := fun a ha =>
  wp_mono (wp_region_any hm (AH.any _ _ _ _ (h _ rfl a ha Shut.none))) fun e a w hq => by
    cases e with
    | normal => exact hq
    | _ => exact hq.elim

theorem HW.first {S₀ : World → Prop} (hH : H = HW P N D ops Q S z) (ho : ops[i]? = some o) (hc : chk ops z l i = true) (hd : okd N o.dst = true) (hS : l.getD z false = false → S w)
    (hS₀ : ∀ l w, Shut ops l → l.getD i true = false → (l.getD z false = false → S w) → S₀ w)
    (hy : ∀ a, Sat N D E a → YieldsIf P ops S₀ o v a) (k : H n (l.setIfInBounds i true) (putE o.dst v E) w) : H (n + 1) l E w := by
  subst hH
  intro a ha hsh
  simp only [chk, Bool.and_eq_true] at hc
  have hr : i ∈ Region.ready .any ops l := by simpa using hc.2.2.1
  have hz : i ≠ z := fun e => by have := hc.2.2.2; subst e; simp at this
  exact AH.first ho (Region.noSelect_spec hc.1) (fun _ _ _ h => h) hz hS₀ n l a w (Region.free_spec ho hc.2.1) hsh hr (hy a ha) hS (k _ (ha.put hd) (hsh.set hr))
/-- What reads memory is taken first. -/
theorem HW.take (hH : H = HW P N D ops Q S z) (ho : ops[i]? = some o) (hc : chk ops z l i = true) (hcr : chkR ops z i = true) (hw : Wants N ops E o) (hd : okd N o.dst = true) (hS : l.getD z false = false → S w)
    (hv : ∀ a, Sat N D E a → ∀ w, S w → (execOp a.eval o).run P w = .ok (.value v) w) (k : H n (l.setIfInBounds i true) (putE o.dst v E) w) : H (n + 1) l E w :=
  HW.first hH ho hc hd hS (chkR_spec hcr) (fun a ha => .inl ⟨hw _ _ ha, hv a ha⟩) k
/-- What looks at no memory is taken first. -/
theorem HW.pure (hH : H = HW P N D ops Q S z) (ho : ops[i]? = some o) (hc : chk ops z l i = true) (hw : Wants N ops E o) (hd : okd N o.dst = true) (hS : l.getD z false = false → S w)
    (hv : ∀ a, Sat N D E a → ∀ w, True → (execOp a.eval o).run P w = .ok (.value v) w) (k : H n (l.setIfInBounds i true) (putE o.dst v E) w) : H (n + 1) l E w :=
  HW.first (S₀ := fun _ => True) hH ho hc hd hS (fun _ _ _ _ _ => trivial) (fun a ha => .inl ⟨hw _ _ ha, hv a ha⟩) k
theorem HW.skip (hH : H = HW P N D ops Q S z) (ho : ops[i]? = some o) (hc : chk ops z l i = true) (hs : Skips N ops E o) (hd : okd N o.dst = true) (hS : l.getD z false = false → S w)
    (k : H n (l.setIfInBounds i true) (putE o.dst undef E) w) : H (n + 1) l E w :=
  HW.first (S₀ := fun _ => True) hH ho hc hd hS (fun _ _ _ _ _ => trivial) (fun a ha => .inr ⟨hs _ _ ha, rfl⟩) k
theorem HW.one (hH : H = HW P N D ops Q S z) (hr : Region.ready .any ops l = [i]) (ho : ops[i]? = some o) (hw : Wants N ops E o)
    (h : ∀ a, Sat N D E a → Shut ops l → o.wp P a w (fun a' w' => ((l.setIfInBounds i true).getD z false = false → S w') ∧ AH P ops (NP Q) S z n (l.setIfInBounds i true) a' w') (NP Q)) : H (n + 1) l E w := by
  subst hH
  intro a ha hsh
  refine ⟨fun h0 => (by rw [hr] at h0; cases h0), fun j hj => ?_⟩
  rw [hr] at hj
  have hji : j = i := by simpa using hj
  subst hji
  unfold wpOp
  simp only [ho, hw _ _ ha, if_true]
  exact .inl (h a ha hsh)
theorem HW.val (hH : H = HW P N D ops Q S z) (hr : Region.ready .any ops l = [i]) (ho : ops[i]? = some o) (hw : Wants N ops E o) (hd : okd N o.dst = true)
    (hv : ∀ a, Sat N D E a → (execOp a.eval o).run P w = .ok (.value v) w') (hS : (l.setIfInBounds i true).getD z false = false → S w') (k : H n (l.setIfInBounds i true) (putE o.dst v E) w') : H (n + 1) l E w :=
  HW.one hH hr ho hw fun a ha hsh => by
    unfold Oper.wp; rw [hv a ha, Oper.upon_value]
    rw [hH] at k; exact ⟨hS, k _ (ha.put hd) (hsh.set (by rw [hr]; simp))⟩
theorem HW.eff (hH : H = HW P N D ops Q S z) (hr : Region.ready .any ops l = [i]) (ho : ops[i]? = some o) (hw : Wants N ops E o) (hd : okd N o.dst = true)
    (hv : ∀ a, Sat N D E a → (execOp a.eval o).run P w = .ok .skip w') (hS : (l.setIfInBounds i true).getD z false = false → S w') (k : H n (l.setIfInBounds i true) (putE o.dst undef E) w') : H (n + 1) l E w :=
  HW.one hH hr ho hw fun a ha hsh => by
    unfold Oper.wp; rw [hv a ha, Oper.upon_skip]
    rw [hH] at k; exact ⟨hS, k _ (ha.put hd) (hsh.set (by rw [hr]; simp))⟩
theorem HW.call {f : Nat} {args : Array Value} {R : Ending → World → Prop} (hH : H = HW P N D ops Q S z) (hr : Region.ready .any ops l = [i]) (ho : ops[i]? = some o) (hw : Wants N ops E o) (hd : okd N o.dst = true)
    (hv : ∀ a, Sat N D E a → (execOp a.eval o).run P w = .ok (.enter f args) w') (hc : Calls P f args w' R)
    (k : ∀ e w'', R e w'' → ∃ v, e = .returned v ∧ ((l.setIfInBounds i true).getD z false = false → S w'') ∧ H n (l.setIfInBounds i true) (putE o.dst v E) w'') : H (n + 1) l E w :=
  HW.one hH hr ho hw fun a ha hsh => by
    unfold Oper.wp; rw [hv a ha, Oper.upon_enter]
    refine hc.mono fun e w'' hR => ?_
    obtain ⟨v, rfl, hS, hk⟩ := k e w'' hR
    rw [hH] at hk; exact ⟨hS, hk _ (ha.put hd) (hsh.set (by rw [hr]; simp))⟩
theorem HW.skip1 (hH : H = HW P N D ops Q S z) (hr : Region.ready .any ops l = [i]) (ho : ops[i]? = some o) (hs : Skips N ops E o) (hd : okd N o.dst = true) (hS : (l.setIfInBounds i true).getD z false = false → S w)
    (k : H n (l.setIfInBounds i true) (putE o.dst undef E) w) : H (n + 1) l E w := by
  subst hH
  intro a ha hsh
  refine ⟨fun h0 => (by rw [hr] at h0; cases h0), fun j hj => ?_⟩
  have hj' := hj
  rw [hr] at hj
  have hji : j = i := by simpa using hj
  subst hji
  unfold wpOp
  simp only [ho, hs _ _ ha, Bool.false_eq_true, if_false]
  exact ⟨hS, k _ (ha.put hd) (hsh.set hj')⟩
/-- Number i comes up now. -/
def H1 (P : Program) (N : Nat) (D : List Deferred) (ops : Array Oper) (Q : Exit → Act → World → Prop) (S : World → Prop) (z : Nat) (n : Nat) (l : Array Bool) (i : Nat) (E : Env) (w : World) : Prop :=
  i ∈ Region.ready .any ops l → ∀ a, Sat N D E a → Shut ops l → wpOp P ops (NP Q) i (fun a' w' => ((l.setIfInBounds i true).getD z false = false → S w') ∧ AH P ops (NP Q) S z n (l.setIfInBounds i true) a' w') a w
theorem HW.two {j : Nat} (hH : H = HW P N D ops Q S z) (hr : Region.ready .any ops l = [i, j]) (h1 : H1 P N D ops Q S z n l i E w) (h2 : H1 P N D ops Q S z n l j E w) : H (n + 1) l E w := by
  subst hH
  intro a ha hsh
  refine ⟨fun h0 => (by rw [hr] at h0; cases h0), fun k hk => ?_⟩
  have hk' := hk
  rw [hr] at hk
  rcases List.mem_cons.1 hk with rfl | hk
  · exact h1 hk' a ha hsh
  · have : k = j := by simpa using hk
    subst this
    exact h2 hk' a ha hsh
theorem H1.val (hH : H = HW P N D ops Q S z) (ho : ops[i]? = some o) (hw : Wants N ops E o) (hd : okd N o.dst = true)
    (hv : ∀ a, Sat N D E a → (execOp a.eval o).run P w = .ok (.value v) w') (hS : (l.setIfInBounds i true).getD z false = false → S w') (k : H n (l.setIfInBounds i true) (putE o.dst v E) w') : H1 P N D ops Q S z n l i E w := by
  intro hr a ha hsh
  unfold wpOp
  simp only [ho, hw _ _ ha, if_true]
  refine .inl ?_
  unfold Oper.wp; rw [hv a ha, Oper.upon_value]
  rw [hH] at k; exact ⟨hS, k _ (ha.put hd) (hsh.set hr)⟩
theorem H1.call {f : Nat} {args : Array Value} {R : Ending → World → Prop} (hH : H = HW P N D ops Q S z) (ho : ops[i]? = some o) (hw : Wants N ops E o) (hd : okd N o.dst = true)
    (hv : ∀ a, Sat N D E a → (execOp a.eval o).run P w = .ok (.enter f args) w') (hc : Calls P f args w' R)
    (k : ∀ e w'', R e w'' → ∃ v, e = .returned v ∧ ((l.setIfInBounds i true).getD z false = false → S w'') ∧ H n (l.setIfInBounds i true) (putE o.dst v E) w'') : H1 P N D ops Q S z n l i E w := by
  intro hr a ha hsh
  unfold wpOp
  simp only [ho, hw _ _ ha, if_true]
  refine .inl ?_
  unfold Oper.wp; rw [hv a ha, Oper.upon_enter]
  refine hc.mono fun e w'' hR => ?_
  obtain ⟨v, rfl, hS, hk⟩ := k e w'' hR
  rw [hH] at hk; exact ⟨hS, hk _ (ha.put hd) (hsh.set hr)⟩
theorem HW.done (hH : H = HW P N D ops Q S z) (hr : Region.ready .any ops l = []) (k : NW N D Q E w) : H n l E w := by
  subst hH
  intro a ha _
  cases n with
  | zero => exact ⟨hr, k a ha⟩
  | succ n => exact ⟨fun _ => k a ha, by rw [hr]; simp⟩
theorem HW.sub (hH : H = HW P N D ops Q S z) {F : Env} (s : Sub E F) (k : H n l E w) : H n l F w := by
  subst hH; exact fun a ha => k a (ha.sub s)
end

/-! ### A function -/
section
variable {P : Program} {N : Nat} {E : Env} {w : World} {fn : Func} {R : Ending → World → Prop}
theorem enter {f : Nat} {c : Code} {args : Array Value} (hf : P.funcs[f]? = some fn) (hb : fn.body = some c) (hN : fn.ntmps = N)
    (h : CW P N [] c (bodyPost P fn R) (envOf 0 args.toList) w) : Calls P f args w R := by
  refine calls_of_wp hf hb (h _ ⟨?_, rfl, fun t v hg => ?_⟩)
  · rw [← hN]; simp; omega
  · obtain ⟨_, h2⟩ := envOf_get _ _ _ _ hg
    have h3 : args[t]? = some v := by simpa using h2
    obtain ⟨hlt, h4⟩ := Array.getElem?_eq_some_iff.1 h3
    show (args ++ _).getD t undef = v
    simp [Array.getElem?_append_left hlt, h3]

theorem res0 (hr : fn.results = #[]) (h : R (.returned (.tuple #[])) w) (a : Act) (ha : Sat N [] E a) : bodyPost P fn R .ret a w :=
  bodyPost_ret (results_none hr _ _ _) ha.defers h
theorem res0n (hr : fn.results = #[]) (h : R (.returned (.tuple #[])) w) : NW N [] (bodyPost P fn R) E w := fun a ha =>
  bodyPost_end (results_none hr _ _ _) ha.defers h
theorem res1 {t : Nat} {v : Value} (hr : fn.results = #[.tmp t]) (hg : get E t = some v) (h : R (.returned v) w) (a : Act) (ha : Sat N [] E a) : bodyPost P fn R .ret a w :=
  bodyPost_ret (results_tmp hr _ _ _) ha.defers (by rw [ha.get _ _ hg]; exact h)
theorem res2 {t u : Nat} {v x : Value} (hr : fn.results = #[.tmp t, .tmp u]) (hg : get E t = some v) (hu : get E u = some x) (h : R (.returned (.tuple #[v, x])) w) (a : Act) (ha : Sat N [] E a) : bodyPost P fn R .ret a w :=
  bodyPost_ret (results_tmp2 hr _ _ _) ha.defers (by rw [ha.get _ _ hg, ha.get _ _ hu]; exact h)
theorem res3 {t u s : Nat} {v x y : Value} (hr : fn.results = #[.tmp t, .tmp u, .tmp s]) (hg : get E t = some v) (hu : get E u = some x) (hs : get E s = some y) (h : R (.returned (.tuple #[v, x, y])) w) (a : Act) (ha : Sat N [] E a) : bodyPost P fn R .ret a w :=
  bodyPost_ret (v := .tuple #[v, x, y]) (by have h1 := ha.get _ _ hg; have h2 := ha.get _ _ hu; have h3 := ha.get _ _ hs; simp only [results, hr]; simp at h1 h2 h3 ⊢; simp [h1, h2, h3]) ha.defers h
/-- Result variables, some of them in cells. -/
def ResOK (P : Program) (E : Env) (w : World) : List ResultVar → List Value → Prop
  | [], vs => vs = []
  | .tmp t :: rs, vs => ∃ v us, vs = v :: us ∧ get E t = some v ∧ ResOK P E w rs us
  | .cell a T :: rs, vs => ∃ v us q, vs = v :: us ∧ get E a = some (.pointer (some q)) ∧ (loadVar T q).run P w = .ok v w ∧ ResOK P E w rs us
def resF (a : Act) : ResultVar → Sem Value
  | .tmp t => pure (a.tmps.getD t undef)
  | .cell c T => do loadVar T (← asAddr (a.tmps.getD c undef))
theorem ResOK.run {D : List Deferred} {a : Act} (ha : Sat N D E a) : ∀ (rs : List ResultVar) (vs : List Value), ResOK P E w rs vs →
    (rs.mapM (resF a)).run P w = .ok vs w
  | [], vs, h => by simp only [ResOK] at h; subst h; rfl
  | .tmp t :: rs, vs, h => by
    obtain ⟨v, us, rfl, hg, hr⟩ := h
    have ih := ResOK.run ha rs us hr
    rw [List.mapM_cons]
    simp only [resF, Sem.run_bind, Sem.run_pure, Result.andThen_ok, ha.get _ _ hg]
    rw [ih]; rfl
  | .cell c T :: rs, vs, h => by
    obtain ⟨v, us, q, rfl, hg, hl, hr⟩ := h
    have ih := ResOK.run ha rs us hr
    rw [List.mapM_cons]
    have hA : (asAddr (a.tmps.getD c undef)).run P w = .ok q w := by rw [ha.get _ _ hg]; rfl
    simp only [resF, Sem.run_bind, Sem.run_pure, Result.andThen_ok, hA, hl]
    rw [ih]; rfl
theorem resN {fn : Func} {vs : List Value} {x : Value} (h : ResOK P E w fn.results.toList vs) (hx : x = match vs with | [v] => v | _ => .tuple vs.toArray) (hR : R (.returned x) w) (a : Act) (ha : Sat N [] E a) : bodyPost P fn R .ret a w := by
  refine bodyPost_ret (v := x) ?_ ha.defers hR
  have h1 := ResOK.run ha _ _ h
  change (do let vs ← fn.results.mapM (resF a); pure (if h : vs.size = 1 then vs[0] else .tuple vs) : Sem Value).run P w = .ok x w
  rw [Array.mapM_eq_mapM_toList]
  simp only [Sem.run_bind, Sem.run_map, h1, Result.andThen_ok, Sem.run_pure]
  subst hx
  match vs with
  | [] => simp
  | [v] => simp
  | v :: u :: r => simp
theorem lv1 {t : TypeId} {q : Addr} {v : Value} (ht : (match P.underlying t with | some (.struct _) | some (.array _ _) | none => false | _ => true) = true) (hc : w.cell? q = some v) : (loadVar t q).run P w = .ok v w := by
  have h1 : (isAgg t).run P w = .ok false w := by
    unfold isAgg
    cases hu : P.underlying t with
    | none => rw [hu] at ht; cases ht
    | some u => rw [hu] at ht; simp only [Sem.run_bind, run_underlying hu, Result.andThen_ok]; cases u <;> first | rfl | (cases ht)
  simp [loadVar, h1, hc]
theorem lvN {t : TypeId} {q : Addr} {cs : List Value} (ht : (match P.underlying t with | some (.struct _) | some (.array _ _) => true | _ => false) = true)
    (hz : (P.info? t).map (·.size) = some cs.length) (hc : ∀ j v, cs[j]? = some v → w.cell? (q.add j) = some v) : (loadVar t q).run P w = .ok (.agg cs.toArray) w := by
  have h1 : (isAgg t).run P w = .ok true w := by
    unfold isAgg
    cases hu : P.underlying t with
    | none => rw [hu] at ht; cases ht
    | some u => rw [hu] at ht; simp only [Sem.run_bind, run_underlying hu, Result.andThen_ok]; cases u <;> first | rfl | (cases ht)
  have h2 : (sizeOf t).run P w = .ok cs.length w := by
    cases hi : P.info? t with
    | none => rw [hi] at hz; cases hz
    | some i => rw [hi] at hz; simp at hz; simp [sizeOf, typeInfo, hi, hz]
  simp [loadVar, h1, h2, run_loadCells_list w q cs hc]
theorem ResOK.nil : ResOK P E w [] [] := rfl
theorem ResOK.t {t : Nat} {v : Value} {rs : List ResultVar} {us : List Value} (h : get E t = some v) (r : ResOK P E w rs us) : ResOK P E w (.tmp t :: rs) (v :: us) := ⟨v, us, rfl, h, r⟩
theorem ResOK.c {a : Nat} {T : TypeId} {q : Addr} {v : Value} {rs : List ResultVar} {us : List Value} (h : get E a = some (.pointer (some q))) (hl : (loadVar T q).run P w = .ok v w) (r : ResOK P E w rs us) : ResOK P E w (.cell a T :: rs) (v :: us) :=
  ⟨v, us, q, rfl, h, hl, r⟩
end
end Go.X
