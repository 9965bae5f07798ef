/- Texts of the claim, merged: XBase XOps XRun XHeap XItoaLay XEntry XRow XEq XTypes XFt2. -/
import Derived.WalkKit
import Derived.OrdersHeld
import Derived.ScopeJumps
import Derived.KernelRfl
import Derived.WalkSmall
import Derived.MapKept
import Derived.WideKeyRuns
import Derived.Laws.StructEq
import Derived.Test.YtfcfkhbkkfpehaaGreatDoorProg
import Derived.Shelf.Strconv.Itoa3
import Derived.Lib.LaidTab
import Derived.Laws.AppendOwn
import Derived.DeepKeys3
set_option linter.unusedSectionVars false
set_option linter.unusedSimpArgs false
set_option linter.unusedVariables false
section
/- The engine's base, over any program: what is known of a frame's slots is a list ('Env'); rules for codes, regions, operations over it. -/
namespace Go.X
open Go
abbrev Env := List (Nat × Value)
def get : Env → Nat → Option Value
 | [], _ => none
 | (t, v) :: E, u => bif Nat.beq u t then some v else get E u
def opd (E : Env) : Operand → Option Value
 | .tmp t => get E t
 | .const v => some v
 | .global g => some (.pointer (some ⟨g, 0, none⟩))
 | .func f => some (.func (.func f) #[] #[])
def Sub : Env → Env → Prop
 | [], _ => True
 | (t, v) :: E, F => get F t = some v ∧ Sub E F
theorem Sub.get : ∀ {E F : Env}, Sub E F → ∀ {t : Nat} {v : Value}, get E t = some v → get F t = some v
 | [], _, _, _, _, h => by cases h
 | (t, v) :: E, F, ⟨h1, h2⟩, u, x, h => by
  simp only [X.get] at h
  cases hb : Nat.beq u t with
  | true => rw [hb] at h; simp at h; rw [Nat.eq_of_beq_eq_true hb, h1, h]
  | false => rw [hb] at h; exact h2.get h
structure Sat (N : Nat) (D : List Deferred) (E : Env) (a : Act) : Prop where
 size : N ≤ a.tmps.size
 defers : a.defers = D
 get : ∀ t v, get E t = some v → a.tmps.getD t undef = v
theorem Sat.sub {N : Nat} {D : List Deferred} {E F : Env} {a : Act} (h : Sat N D F a) (s : Sub E F) : Sat N D E a :=
 ⟨h.size, h.defers, fun _ _ hg => h.get _ _ (s.get hg)⟩
theorem Sat.eval {N : Nat} {D : List Deferred} {E : Env} {a : Act} (h : Sat N D E a) {x : Operand} {v : Value} (hx : opd E x = some v) : a.eval x = v := by
 cases x with
 | tmp t => exact h.get t v hx
 | const c => simpa [opd, Act.eval] using hx
 | global g => simpa [opd, Act.eval] using hx
 | func f => simpa [opd, Act.eval] using hx
def putE : Option Nat → Value → Env → Env
 | some d, v, E => (d, v) :: E
 | none, _, E => E
def okd (N : Nat) : Option Nat → Bool
 | some d => Nat.blt d N
 | none => true
theorem Sat.put {N : Nat} {D : List Deferred} {E : Env} {a : Act} (h : Sat N D E a) {d : Option Nat} {v : Value} (hd : okd N d = true) : Sat N D (putE d v E) (a.put d v) := by
 cases d with
 | none => exact h
 | some d =>
  have hlt : d < a.tmps.size := Nat.lt_of_lt_of_le (by simpa [okd] using hd) h.size
  refine ⟨by simpa [Act.put] using h.size, h.defers, fun t x hg => ?_⟩
  simp only [putE, X.get] at hg
  cases hb : Nat.beq t d with
  | true =>
   rw [hb] at hg; simp at hg; subst hg
   rw [Nat.eq_of_beq_eq_true hb]
   simp [Act.put, hlt]
  | false =>
   rw [hb] at hg
   have hne : d ≠ t := fun e => by subst e; simp at hb
   have := h.get t x hg
   simp only [Act.put]
   rw [← this]
   simp [Array.getElem?_setIfInBounds_ne hne]
def envOf : Nat → List Value → Env
 | _, [] => []
 | i, v :: vs => (i, v) :: envOf (i + 1) vs
theorem envOf_get : ∀ (vs : List Value) (i t : Nat) (v : Value), get (envOf i vs) t = some v → i ≤ t ∧ vs[t - i]? = some v
 | [], _, _, _, h => by cases h
 | x :: vs, i, t, v, h => by
  simp only [envOf, X.get] at h
  cases hb : Nat.beq t i with
  | true =>
   rw [hb] at h; simp at h; subst h
   have := Nat.eq_of_beq_eq_true hb; subst this
   exact ⟨Nat.le_refl _, by simp⟩
  | false =>
   rw [hb] at h
   obtain ⟨h1, h2⟩ := envOf_get vs (i + 1) t v h
   refine ⟨by omega, ?_⟩
   have : t - i = (t - (i + 1)) + 1 := by omega
   rw [this]; simpa using h2
/-! ### What is wanted of an operation -/
def Wants (N : Nat) (ops : Array Oper) (E : Env) (o : Oper) : Prop := ∀ D a, Sat N D E a → Region.wanted o (yielded ops a.tmps) = true
def Skips (N : Nat) (ops : Array Oper) (E : Env) (o : Oper) : Prop := ∀ D a, Sat N D E a → Region.wanted o (yielded ops a.tmps) = false
theorem Wants.free {N : Nat} {ops : Array Oper} {E : Env} {o : Oper} (h : o.guard = none) : Wants N ops E o := fun _ _ _ => by simp [Region.wanted, h]
theorem yielded_at {N : Nat} {D : List Deferred} {ops : Array Oper} {E : Env} {a : Act} {j t : Nat} {oj : Oper} {v : Value} (hs : Sat N D E a) (hj : ops[j]? = some oj) (hd : oj.dst = some t)
  (hN : Nat.blt t N = true) (hE : get E t = some v) : yielded ops a.tmps j = match v with | .bool b => some b | _ => none := by
 have hlt : t < a.tmps.size := Nat.lt_of_lt_of_le (by simpa using hN) hs.size
 have h1 := hs.get t v hE
 have h2 : a.tmps[t]? = some v := by rw [Array.getElem?_eq_getElem hlt]; congr 1; simpa [hlt] using h1
 simp only [yielded, hj, Option.bind_some, hd, h2]
 cases v <;> rfl
theorem Wants.on {N : Nat} {ops : Array Oper} {E : Env} {o oj : Oper} {j t : Nat} {b c : Bool} (h : o.guard = some (j, b)) (hj : ops[j]? = some oj) (hd : oj.dst = some t) (hN : Nat.blt t N = true)
  (hE : get E t = some (.bool c)) (hc : c = b) : Wants N ops E o := fun _ _ hs => by
 simp [Region.wanted, h, yielded_at hs hj hd hN hE, hc]
theorem Skips.on {N : Nat} {ops : Array Oper} {E : Env} {o oj : Oper} {j t : Nat} {b c : Bool} (h : o.guard = some (j, b)) (hj : ops[j]? = some oj) (hd : oj.dst = some t) (hN : Nat.blt t N = true)
  (hE : get E t = some (.bool c)) (hc : c = !b) : Skips N ops E o := fun _ _ hs => by
 simp [Region.wanted, h, yielded_at hs hj hd hN hE, hc]
theorem Skips.un {N : Nat} {ops : Array Oper} {E : Env} {o oj : Oper} {j t : Nat} {b : Bool} (h : o.guard = some (j, b)) (hj : ops[j]? = some oj) (hd : oj.dst = some t) (hN : Nat.blt t N = true)
  (hE : get E t = some undef) : Skips N ops E o := fun _ _ hs => by
 simp [Region.wanted, h, yielded_at hs hj hd hN hE, undef]
/-! ### Codes -/
section
variable {P : Program} {N : Nat} {D : List Deferred} {Q : Exit → Act → World → Prop} {E : Env} {w : World}
def CW (P : Program) (N : Nat) (D : List Deferred) (c : Code) (Q : Exit → Act → World → Prop) (E : Env) (w : World) : Prop := ∀ a, Sat N D E a → c.wp P Q a w
def NW (N : Nat) (D : List Deferred) (Q : Exit → Act → World → Prop) (E : Env) (w : World) : Prop := ∀ a, Sat N D E a → Q .normal a w
def XW (N : Nat) (D : List Deferred) (id : Nat) (Q : Exit → Act → World → Prop) (E : Env) (w : World) : Prop := ∀ a, Sat N D E a → Q (.exit id) a w
def GW (N : Nat) (D : List Deferred) (l : Nat) (Q : Exit → Act → World → Prop) (E : Env) (w : World) : Prop := ∀ a, Sat N D E a → Q (.goto l) a w
theorem CW.sub {c : Code} {F : Env} (s : Sub E F) (h : CW P N D c Q E w) : CW P N D c Q F w := fun a ha => h a (ha.sub s)
theorem CW.seq {x y : Code} (h : CW P N D x (Exit.then (y.wp P Q) Q) E w) : CW P N D (.seq x y) Q E w := fun a ha => wp_seq (h a ha)
theorem NW.then {y : Code} (h : CW P N D y Q E w) : NW N D (Exit.then (y.wp P Q) Q) E w := fun a ha => h a ha
theorem CW.skip (h : NW N D Q E w) : CW P N D .skip Q E w := fun a ha => wp_skip (h a ha)
theorem CW.label {l : Nat} (h : NW N D Q E w) : CW P N D (.label l) Q E w := fun a ha => wp_label (h a ha)
theorem CW.cond {c : Operand} {x y : Code} {b : Bool} (hc : opd E c = some (.bool b)) (h1 : b = true → CW P N D x Q E w) (h2 : b = false → CW P N D y Q E w) : CW P N D (.cond c x y) Q E w :=
 fun a ha => wp_cond_split (ha.eval hc) (fun hb => h1 hb a ha) (fun hb => h2 hb a ha)
theorem CW.block {id : Nat} {c : Code} (h : CW P N D c (Exit.inBlock id Q) E w) : CW P N D (.block id c) Q E w := fun a ha => wp_block (h a ha)
theorem NW.block {id : Nat} (h : NW N D Q E w) : NW N D (Exit.inBlock id Q) E w := fun a ha => h a ha
theorem CW.exit {id : Nat} (h : XW N D id Q E w) : CW P N D (.exit id) Q E w := fun a ha => wp_exit (h a ha)
theorem XW.then {id : Nat} {K : Act → World → Prop} (h : XW N D id Q E w) : XW N D id (Exit.then K Q) E w := fun a ha => h a ha
theorem XW.hit {id : Nat} (h : NW N D Q E w) : XW N D id (Exit.inBlock id Q) E w := fun a ha => by
 show (if id = id then Q .normal a w else Q (.exit id) a w); rw [if_pos rfl]; exact h a ha
theorem XW.miss {id id' : Nat} (hne : Nat.beq id' id = false) (h : XW N D id' Q E w) : XW N D id' (Exit.inBlock id Q) E w := fun a ha => by
 show (if id' = id then Q .normal a w else Q (.exit id') a w); rw [if_neg (fun e => by subst e; simp at hne)]; exact h a ha
def RW (N : Nat) (D : List Deferred) (Q : Exit → Act → World → Prop) (E : Env) (w : World) : Prop := ∀ a, Sat N D E a → Q .ret a w
theorem CW.ret (h : RW N D Q E w) : CW P N D .ret Q E w := fun a ha => wp_ret (h a ha)
theorem RW.then {K : Act → World → Prop} (h : RW N D Q E w) : RW N D (Exit.then K Q) E w := fun a ha => h a ha
theorem RW.block {id : Nat} (h : RW N D Q E w) : RW N D (Exit.inBlock id Q) E w := fun a ha => h a ha
theorem CW.goto {l : Nat} (h : GW N D l Q E w) : CW P N D (.goto l) Q E w := fun a ha => wp_goto (h a ha)
theorem GW.then {l : Nat} {K : Act → World → Prop} (h : GW N D l Q E w) : GW N D l (Exit.then K Q) E w := fun a ha => h a ha
theorem GW.block {l id : Nat} (h : GW N D l Q E w) : GW N D l (Exit.inBlock id Q) E w := fun a ha => h a ha
theorem CW.cut {S : Type} {x y : Code} (Ek : S → Env) (I : S → World → Prop) (hk : ∀ s w, I s w → CW P N D y Q (Ek s) w)
  (h : CW P N D x (Exit.then (fun a w => ∃ s, Sat N D (Ek s) a ∧ I s w) Q) E w) : CW P N D (.seq x y) Q E w := fun a ha =>
 wp_seq (wp_mono (h a ha) fun e a' w' hq => by
  cases e with
  | normal => obtain ⟨s, hs, hI⟩ := hq; exact hk s w' hI a' hs
  | _ => exact hq)
theorem NW.cut {S : Type} {Ek : S → Env} {I : S → World → Prop} {Q' : Exit → Act → World → Prop} (s : S) (hs : Sub (Ek s) E) (hI : I s w) : NW N D (Exit.then (fun a w => ∃ s, Sat N D (Ek s) a ∧ I s w) Q') E w :=
 fun a ha => ⟨s, ha.sub hs, hI⟩
theorem CW.meet {S : Type} {x : Code} (Ek : S → Env) (I : S → World → Prop) (hk : ∀ s w, I s w → NW N D Q (Ek s) w)
  (h : CW P N D x (Exit.then (fun a w => ∃ s, Sat N D (Ek s) a ∧ I s w) Q) E w) : CW P N D x Q E w := fun a ha =>
 wp_mono (h a ha) fun e a' w' hq => by
  cases e with
  | normal => obtain ⟨s, hs, hI⟩ := hq; exact hk s w' hI a' hs
  | _ => exact hq
theorem CW.loop {S : Type} {c : Code} (El : S → Env) (I : S → World → Prop) (μ : S → World → Nat) (s₀ : S) (hs : Sub (El s₀) E) (hI : I s₀ w)
  (round : ∀ s w, I s w → CW P N D c (Exit.then (fun a' w' => ∃ s', Sat N D (El s') a' ∧ (I s' w' ∧ μ s' w' < μ s w)) Q) (El s) w) : CW P N D (.loop c) Q E w := by
 intro a ha b k cs
 have key : ∀ n s a w, μ s w = n → Sat N D (El s) a → I s w →
   ∃ e a' w', Q e a' w' ∧ Arrives P (lone (b.at a (.code c :: .inLoop c :: k)) cs w) b k cs e a' w' := by
  intro n
  induction n using Nat.strongRecOn with
  | _ n ih =>
   intro s a w hn ha hI
   obtain ⟨e, a₁, w₁, hq, harr⟩ := round s w hI a ha b (.inLoop c :: k) cs
   cases e with
   | normal =>
    obtain ⟨s', hs', hI', hlt⟩ := hq
    obtain ⟨e₂, a₂, w₂, hq₂, harr₂⟩ := ih (μ s' w₁) (hn ▸ hlt) s' a₁ w₁ rfl hs' hI'
    exact ⟨e₂, a₂, w₂, hq₂, .of_steps (Steps.trans harr (.one step_inLoop)) harr₂⟩
   | exit id => exact ⟨_, a₁, w₁, hq, .pass (x := .inLoop c) rfl (fun _ _ => .inl (by simp)) harr⟩
   | goto l => exact ⟨_, a₁, w₁, hq, .pass (x := .inLoop c) rfl (fun _ _ => .inl (by simp)) harr⟩
   | ret => exact ⟨_, a₁, w₁, hq, .pass (x := .inLoop c) rfl (fun _ _ => .inl (by simp)) harr⟩
   | panic ch => exact ⟨_, a₁, w₁, hq, .pass (x := .inLoop c) rfl (fun _ _ => .inl (by simp)) harr⟩
   | outgrown => exact ⟨_, a₁, w₁, hq, .pass (x := .inLoop c) rfl (fun _ _ => .inl (by simp)) harr⟩
 obtain ⟨e, a', w', hq, harr⟩ := key _ s₀ a w rfl (ha.sub hs) hI
 exact ⟨e, a', w', hq, .of_steps (.one step_loop) harr⟩
theorem NW.loop {S : Type} {Ek : S → Env} {I : S → World → Prop} {μ : S → World → Nat} {n : Nat} {Q' : Exit → Act → World → Prop} (s : S) (hs : Sub (Ek s) E) (hI : I s w ∧ μ s w < n) :
  NW N D (Exit.then (fun a w => ∃ s, Sat N D (Ek s) a ∧ (I s w ∧ μ s w < n)) Q') E w :=
 fun a ha => ⟨s, ha.sub hs, hI⟩
theorem CW.scope {S : Type} {c rest : Code} (l : Nat) (Ek : S → Env) (I : S → World → Prop) (hf : findLabel c l = some rest)
  (hk : ∀ s w, I s w → CW P N D rest (Exit.jump l (fun _ _ => False) Q) (Ek s) w)
  (h : CW P N D c (Exit.jump l (fun a w => ∃ s, Sat N D (Ek s) a ∧ I s w) Q) E w) : CW P N D (.scope c) Q E w := fun a ha =>
 wp_scope_jumps l (fun a w => ∃ s, Sat N D (Ek s) a ∧ I s w) (fun _ _ => 0) hf (h a ha) fun a w ⟨s, hs, hI⟩ =>
  wp_mono (hk s w hI a hs) fun e a' w' hq => by
   cases e with
   | goto l' => exact hq.2.elim
   | _ => exact hq
theorem CW.scope0 {c : Code} (h : CW P N D c (Exit.noGoto Q) E w) : CW P N D (.scope c) Q E w := fun a ha => wp_scope_straight (h a ha)
theorem NW.noGoto (h : NW N D Q E w) : NW N D (Exit.noGoto Q) E w := fun a ha => h a ha
theorem XW.noGoto {id : Nat} (h : XW N D id Q E w) : XW N D id (Exit.noGoto Q) E w := fun a ha => h a ha
theorem NW.jump {l : Nat} {J : Act → World → Prop} (h : NW N D Q E w) : NW N D (Exit.jump l J Q) E w := fun a ha => h a ha
theorem XW.jump {l id : Nat} {J : Act → World → Prop} (h : XW N D id Q E w) : XW N D id (Exit.jump l J Q) E w := fun a ha => h a ha
theorem RW.noGoto (h : RW N D Q E w) : RW N D (Exit.noGoto Q) E w := fun a ha => h a ha
theorem RW.jump {l : Nat} {J : Act → World → Prop} (h : RW N D Q E w) : RW N D (Exit.jump l J Q) E w := fun a ha => h a ha
theorem GW.hit {S : Type} {l : Nat} {Ek : S → Env} {I : S → World → Prop} (s : S) (hs : Sub (Ek s) E) (hI : I s w) : GW N D l (Exit.jump l (fun a w => ∃ s, Sat N D (Ek s) a ∧ I s w) Q) E w :=
 fun a ha => ⟨rfl, s, ha.sub hs, hI⟩
end
/-! ### A region in the text's order -/
section
variable {P : Program} {N : Nat} {D : List Deferred} {ops : Array Oper} {Q : Exit → Act → World → Prop} {E : Env} {w w' : World} {L : Nat → Env → World → Prop} {i : Nat} {o : Oper} {v : Value}
def LW (P : Program) (N : Nat) (D : List Deferred) (ops : Array Oper) (Q : Exit → Act → World → Prop) (i : Nat) (E : Env) (w : World) : Prop :=
 ∀ a, Sat N D E a → wpList P ops Q (ops.toList.drop i) a w
theorem CW.region {id : Nat} (h : ∀ L, L = LW P N D ops Q → L 0 E w) : CW P N D (.region id ops false) Q E w :=
 fun a ha => wp_region_list (by have := h _ rfl a ha; simpa using this)
theorem drop_at (ho : ops[i]? = some o) : ops.toList.drop i = o :: ops.toList.drop (i + 1) := by
 obtain ⟨hi, rfl⟩ := Array.getElem?_eq_some_iff.1 ho
 rw [List.drop_eq_getElem_cons (by simpa using hi)]
 simp
theorem LW.step (hL : L = LW P N D ops Q) (ho : ops[i]? = some o) (hw : Wants N ops E o)
  (h : ∀ a, Sat N D E a → o.wp P a w (wpList P ops Q (ops.toList.drop (i + 1))) Q) : L i E w := by
 subst hL
 intro a ha
 rw [drop_at ho]
 unfold wpList
 rw [if_pos (hw _ _ ha)]
 exact .inl (h a ha)
theorem LW.val (hL : L = LW P N D ops Q) (ho : ops[i]? = some o) (hw : Wants N ops E o) (hd : okd N o.dst = true)
  (hv : ∀ a, Sat N D E a → (execOp a.eval o).run P w = .ok (.value v) w') (k : L (i + 1) (putE o.dst v E) w') : L i E w :=
 LW.step hL ho hw fun a ha => by
  unfold Oper.wp; rw [hv a ha, Oper.upon_value]
  rw [hL] at k; exact k _ (ha.put hd)
theorem LW.eff (hL : L = LW P N D ops Q) (ho : ops[i]? = some o) (hw : Wants N ops E o) (hd : okd N o.dst = true)
  (hv : ∀ a, Sat N D E a → (execOp a.eval o).run P w = .ok .skip w') (k : L (i + 1) (putE o.dst undef E) w') : L i E w :=
 LW.step hL ho hw fun a ha => by
  unfold Oper.wp; rw [hv a ha, Oper.upon_skip]
  rw [hL] at k; exact k _ (ha.put hd)
theorem LW.call {f : Nat} {args : Array Value} {R : Ending → World → Prop} (hL : L = LW P N D ops Q) (ho : ops[i]? = some o) (hw : Wants N ops E o) (hd : okd N o.dst = true)
  (hv : ∀ a, Sat N D E a → (execOp a.eval o).run P w = .ok (.enter f args) w') (hc : Calls P f args w' R)
  (k : ∀ e w'', R e w'' → ∃ v, e = .returned v ∧ L (i + 1) (putE o.dst v E) w'') : L i E w :=
 LW.step hL ho hw fun a ha => by
  unfold Oper.wp; rw [hv a ha, Oper.upon_enter]
  refine hc.mono fun e w'' hR => ?_
  obtain ⟨v, rfl, hk⟩ := k e w'' hR
  rw [hL] at hk; exact hk _ (ha.put hd)
theorem LW.skip (hL : L = LW P N D ops Q) (ho : ops[i]? = some o) (hs : Skips N ops E o) (hd : okd N o.dst = true) (k : L (i + 1) (putE o.dst undef E) w) : L i E w := by
 subst hL
 intro a ha
 rw [drop_at ho]
 unfold wpList
 rw [if_neg (by rw [hs _ _ ha]; simp)]
 exact k _ (ha.put hd)
theorem LW.nil (hL : L = LW P N D ops Q) (hi : ops[i]? = none) (k : NW N D Q E w) : L i E w := by
 subst hL
 intro a ha
 have : ops.toList.drop i = [] := List.drop_eq_nil_of_le (by simpa using hi)
 rw [this]; exact k a ha
theorem LW.sub (hL : L = LW P N D ops Q) {F : Env} (s : Sub E F) (k : L i E w) : L i F w := by
 subst hL; exact fun a ha => k a (ha.sub s)
end
/-! ### A region that draws its order -/
section
variable {P : Program} {ops : Array Oper} {Q : Exit → Act → World → Prop} {S : World → Prop} {z : Nat}
def AH (P : Program) (ops : Array Oper) (Q : Exit → Act → World → Prop) (S : World → Prop) (z : Nat) : Nat → Array Bool → Act → World → Prop
 | 0, l, a, w => Region.ready .any ops l = [] ∧ Q .normal a w
 | n + 1, l, a, w => (Region.ready .any ops l = [] → Q .normal a w) ∧
  ∀ i ∈ Region.ready .any ops l, wpOp P ops Q i (fun a' w' => ((l.setIfInBounds i true).getD z false = false → S w') ∧ AH P ops Q S z n (l.setIfInBounds i true) a' w') a w
theorem AH.any : ∀ (n : Nat) (l : Array Bool) (a : Act) (w : World), AH P ops Q S z n l a w → wpAny P .any ops Q n l a w
 | 0, _, _, _, h => h
 | n + 1, _, _, _, h => ⟨h.1, fun i hi => wpOp_mono (fun a' w' h' => AH.any n _ a' w' h'.2) (h.2 i hi)⟩
structure Shut (ops : Array Oper) (l : Array Bool) : Prop where
 size : l.size = ops.size
 up : ∀ j oj, ops[j]? = some oj → l.getD j false = true → ∀ e ∈ oj.after, Region.binds .any e = true → l.getD e.on false = true
theorem Shut.none : Shut ops (Array.replicate ops.size false) := ⟨by simp, fun j oj hj h => by
 have hlt : j < ops.size := (Array.getElem?_eq_some_iff.1 hj).1
 simp [hlt] at h⟩
theorem getD_both {l : Array Bool} {i : Nat} (h : l.getD i true = false) : l.getD i false = false := by
 rcases Nat.lt_or_ge i l.size with h' | h' <;> simp_all
theorem Shut.set {l : Array Bool} {i : Nat} (h : Shut ops l) (hi : i ∈ Region.ready .any ops l) : Shut ops (l.setIfInBounds i true) := by
 refine ⟨by simpa using h.size, fun j oj hj hl e he hb => getD_set_true ?_⟩
 by_cases hji : i = j
 ·subst hji
  obtain ⟨_, o, ho, hall⟩ := mem_ready.1 hi
  rw [hj] at ho; cases ho
  exact hall e he hb
 ·rw [getD_set_ne false hji] at hl
  exact h.up j oj hj hl e he hb
def waits (ops : Array Oper) : Nat → Nat → Nat → Bool
 | 0, _, _ => false
 | f + 1, z, i => match ops[z]? with
  | none => false
  | some o => o.after.toList.any (fun e => Region.binds .any e && e.on == i) || o.after.toList.any (fun e => Region.binds .any e && waits ops f e.on i)
theorem Shut.waits {l : Array Bool} (h : Shut ops l) {i : Nat} : ∀ (f z : Nat), X.waits ops f z i = true → l.getD z false = true → l.getD i false = true := by
 intro f
 induction f with
 | zero => intro z hw; cases hw
 | succ f ih =>
  intro z hw hz
  simp only [X.waits] at hw
  cases ho : ops[z]? with
  | none => rw [ho] at hw; cases hw
  | some o =>
   rw [ho] at hw
   simp only [Bool.or_eq_true, List.any_eq_true, Bool.and_eq_true] at hw
   rcases hw with ⟨e, he, hb, hi⟩ | ⟨e, he, hb, hi⟩
   ·have := h.up z o ho hz e (by simpa using he) hb
    rwa [show e.on = i from by simpa using hi] at this
   ·exact ih _ hi (h.up z o ho hz e (by simpa using he) hb)
theorem AH.first {S₀ : World → Prop} {i : Nat} {oi : Oper} {v : Value} (hi : ops[i]? = some oi) (hsel : ∀ (j : Nat) (o : Oper) cs b, ops[j]? = some o → o.op ≠ .select cs b)
  (hQ : ∀ c a w, Q (.panic c) (a.put oi.dst v) w → Q (.panic c) a w) (hz : i ≠ z)
  (hS₀ : ∀ l w, Shut ops l → l.getD i true = false → (l.getD z false = false → S w) → S₀ w) :
  ∀ (n : Nat) (l : Array Bool) (a : Act) (w : World),
   (∀ j oj, ops[j]? = some oj → j ≠ i → l.getD j true = false → (∀ e ∈ oj.after, Region.binds .any e = true → e.on ≠ i) → oi.apart ops oj = true) →
   Shut ops l → i ∈ Region.ready .any ops l → YieldsIf P ops S₀ oi v a → (l.getD z false = false → S w) → AH P ops Q S z n (l.setIfInBounds i true) (a.put oi.dst v) w → AH P ops Q S z (n + 1) l a w := by
 intro n
 induction n with
 | zero =>
  intro l a w _ hsh hr hy hS H
  have hpend : l.getD i true = false := (mem_ready.1 hr).1
  refine ⟨fun h => (by rw [h] at hr; cases hr), fun j hj => ?_⟩
  by_cases hji : j = i
  ·subst hji; exact hy.wpOp hi (hS₀ l w hsh hpend hS) ⟨fun h => hS (by rwa [getD_set_ne false hz] at h), H⟩
  ·have hm := ready_mono hj hji
   rw [H.1] at hm; cases hm
 | succ n ih =>
  intro l a w hfree hsh hr hy hS H
  have hpend : l.getD i true = false := (mem_ready.1 hr).1
  refine ⟨fun h => (by rw [h] at hr; cases hr), fun j hj => ?_⟩
  by_cases hji : j = i
  ·subst hji; exact hy.wpOp hi (hS₀ l w hsh hpend hS) ⟨fun h => hS (by rwa [getD_set_ne false hz] at h), H⟩
  ·have h1 := H.2 j (ready_mono hj hji)
   obtain ⟨hjun, oj, hoj, hall⟩ := mem_ready.1 hj
   have hnot : ∀ e ∈ oj.after, Region.binds .any e = true → e.on ≠ i := fun e he hb heq => by
    have h2 := hall e he hb
    rw [heq, getD_both hpend] at h2; cases h2
   have h2 := wpOp_putIf hoj (hfree j oj hoj hji hjun hnot) (fun cs b => hsel i oi cs b hi) (fun cs b => hsel j oj cs b hoj) hQ hy h1
   refine wpOp_mono (fun a' w' h3 => ?_) h2
   obtain ⟨hy', hS', hA'⟩ := h3
   have hS'' : (l.setIfInBounds j true).getD z false = false → S w' := fun h => hS' (by rw [Array.setIfInBounds_comm _ _ (Ne.symm hji), getD_set_ne false hz]; exact h)
   refine ⟨hS'', ih (l.setIfInBounds j true) a' w' (fun k ok hk hki hun hno => hfree k ok hk hki ?_ hno) (hsh.set hj) (ready_mono hr (Ne.symm hji)) hy' hS'' ?_⟩
   ·by_cases hjk : j = k
    ·subst hjk; exact hjun
    ·rw [getD_set_ne true hjk] at hun; exact hun
   ·rw [Array.setIfInBounds_comm _ _ hji]; exact hA'
def chk (ops : Array Oper) (z : Nat) (l : Array Bool) (i : Nat) : Bool :=
 Region.noSelect ops && (Region.free .any ops l i && ((Region.ready .any ops l).contains i && !Nat.beq i z))
def chkR (ops : Array Oper) (z : Nat) (i : Nat) : Bool := Nat.ble ops.size z || waits ops 12 z i
theorem chkR_spec {i : Nat} (h : chkR ops z i = true) : ∀ l w, Shut ops l → l.getD i true = false → (l.getD z false = false → S w) → S w := fun l w hsh hi hS => by
 refine hS ?_
 cases hz : l.getD z false with
 | false => rfl
 | true =>
  simp only [chkR, Bool.or_eq_true] at h
  rcases h with h | h
  ·have h1 : ops.size ≤ z := by simpa using h
   rw [← hsh.size] at h1
   simp [h1] at hz
  ·have := hsh.waits _ _ h hz
   rw [getD_both hi] at this; cases this
def NP (Q : Exit → Act → World → Prop) : Exit → Act → World → Prop
 | .normal, a, w => Q .normal a w
 | _, _, _ => False
variable {N : Nat} {D : List Deferred} {E : Env} {w w' : World} {H : Nat → Array Bool → Env → World → Prop} {n : Nat} {l : Array Bool} {i : Nat} {o : Oper} {v : Value}
def HW (P : Program) (N : Nat) (D : List Deferred) (ops : Array Oper) (Q : Exit → Act → World → Prop) (S : World → Prop) (z : Nat) (n : Nat) (l : Array Bool) (E : Env) (w : World) : Prop :=
 ∀ a, Sat N D E a → Shut ops l → AH P ops (NP Q) S z n l a w
theorem CW.drawn {id : Nat} (S : World → Prop) (z : Nat) (hm : P.follows .mixedOrders = true) (h : ∀ H, H = HW P N D ops Q S z → H ops.size (Array.replicate ops.size false) E w.drew) :
  CW P N D (.region id ops true) Q E w := fun a ha =>
 wp_mono (wp_region_any hm (AH.any _ _ _ _ (h _ rfl a ha Shut.none))) fun e a w hq => by
  cases e with
  | normal => exact hq
  | _ => exact hq.elim
theorem HW.first {S₀ : World → Prop} (hH : H = HW P N D ops Q S z) (ho : ops[i]? = some o) (hc : chk ops z l i = true) (hd : okd N o.dst = true) (hS : l.getD z false = false → S w)
  (hS₀ : ∀ l w, Shut ops l → l.getD i true = false → (l.getD z false = false → S w) → S₀ w)
  (hy : ∀ a, Sat N D E a → YieldsIf P ops S₀ o v a) (k : H n (l.setIfInBounds i true) (putE o.dst v E) w) : H (n + 1) l E w := by
 subst hH
 intro a ha hsh
 simp only [chk, Bool.and_eq_true] at hc
 have hr : i ∈ Region.ready .any ops l := by simpa using hc.2.2.1
 have hz : i ≠ z := fun e => by have := hc.2.2.2; subst e; simp at this
 exact AH.first ho (Region.noSelect_spec hc.1) (fun _ _ _ h => h) hz hS₀ n l a w (Region.free_spec ho hc.2.1) hsh hr (hy a ha) hS (k _ (ha.put hd) (hsh.set hr))
theorem HW.take (hH : H = HW P N D ops Q S z) (ho : ops[i]? = some o) (hc : chk ops z l i = true) (hcr : chkR ops z i = true) (hw : Wants N ops E o) (hd : okd N o.dst = true) (hS : l.getD z false = false → S w)
  (hv : ∀ a, Sat N D E a → ∀ w, S w → (execOp a.eval o).run P w = .ok (.value v) w) (k : H n (l.setIfInBounds i true) (putE o.dst v E) w) : H (n + 1) l E w :=
 HW.first hH ho hc hd hS (chkR_spec hcr) (fun a ha => .inl ⟨hw _ _ ha, hv a ha⟩) k
theorem HW.pure (hH : H = HW P N D ops Q S z) (ho : ops[i]? = some o) (hc : chk ops z l i = true) (hw : Wants N ops E o) (hd : okd N o.dst = true) (hS : l.getD z false = false → S w)
  (hv : ∀ a, Sat N D E a → ∀ w, True → (execOp a.eval o).run P w = .ok (.value v) w) (k : H n (l.setIfInBounds i true) (putE o.dst v E) w) : H (n + 1) l E w :=
 HW.first (S₀ := fun _ => True) hH ho hc hd hS (fun _ _ _ _ _ => trivial) (fun a ha => .inl ⟨hw _ _ ha, hv a ha⟩) k
theorem HW.skip (hH : H = HW P N D ops Q S z) (ho : ops[i]? = some o) (hc : chk ops z l i = true) (hs : Skips N ops E o) (hd : okd N o.dst = true) (hS : l.getD z false = false → S w)
  (k : H n (l.setIfInBounds i true) (putE o.dst undef E) w) : H (n + 1) l E w :=
 HW.first (S₀ := fun _ => True) hH ho hc hd hS (fun _ _ _ _ _ => trivial) (fun a ha => .inr ⟨hs _ _ ha, rfl⟩) k
theorem HW.one (hH : H = HW P N D ops Q S z) (hr : Region.ready .any ops l = [i]) (ho : ops[i]? = some o) (hw : Wants N ops E o)
  (h : ∀ a, Sat N D E a → Shut ops l → o.wp P a w (fun a' w' => ((l.setIfInBounds i true).getD z false = false → S w') ∧ AH P ops (NP Q) S z n (l.setIfInBounds i true) a' w') (NP Q)) : H (n + 1) l E w := by
 subst hH
 intro a ha hsh
 refine ⟨fun h0 => (by rw [hr] at h0; cases h0), fun j hj => ?_⟩
 rw [hr] at hj
 have hji : j = i := by simpa using hj
 subst hji
 unfold wpOp
 simp only [ho, hw _ _ ha, if_true]
 exact .inl (h a ha hsh)
theorem HW.val (hH : H = HW P N D ops Q S z) (hr : Region.ready .any ops l = [i]) (ho : ops[i]? = some o) (hw : Wants N ops E o) (hd : okd N o.dst = true)
  (hv : ∀ a, Sat N D E a → (execOp a.eval o).run P w = .ok (.value v) w') (hS : (l.setIfInBounds i true).getD z false = false → S w') (k : H n (l.setIfInBounds i true) (putE o.dst v E) w') : H (n + 1) l E w :=
 HW.one hH hr ho hw fun a ha hsh => by
  unfold Oper.wp; rw [hv a ha, Oper.upon_value]
  rw [hH] at k; exact ⟨hS, k _ (ha.put hd) (hsh.set (by rw [hr]; simp))⟩
theorem HW.eff (hH : H = HW P N D ops Q S z) (hr : Region.ready .any ops l = [i]) (ho : ops[i]? = some o) (hw : Wants N ops E o) (hd : okd N o.dst = true)
  (hv : ∀ a, Sat N D E a → (execOp a.eval o).run P w = .ok .skip w') (hS : (l.setIfInBounds i true).getD z false = false → S w') (k : H n (l.setIfInBounds i true) (putE o.dst undef E) w') : H (n + 1) l E w :=
 HW.one hH hr ho hw fun a ha hsh => by
  unfold Oper.wp; rw [hv a ha, Oper.upon_skip]
  rw [hH] at k; exact ⟨hS, k _ (ha.put hd) (hsh.set (by rw [hr]; simp))⟩
theorem HW.call {f : Nat} {args : Array Value} {R : Ending → World → Prop} (hH : H = HW P N D ops Q S z) (hr : Region.ready .any ops l = [i]) (ho : ops[i]? = some o) (hw : Wants N ops E o) (hd : okd N o.dst = true)
  (hv : ∀ a, Sat N D E a → (execOp a.eval o).run P w = .ok (.enter f args) w') (hc : Calls P f args w' R)
  (k : ∀ e w'', R e w'' → ∃ v, e = .returned v ∧ ((l.setIfInBounds i true).getD z false = false → S w'') ∧ H n (l.setIfInBounds i true) (putE o.dst v E) w'') : H (n + 1) l E w :=
 HW.one hH hr ho hw fun a ha hsh => by
  unfold Oper.wp; rw [hv a ha, Oper.upon_enter]
  refine hc.mono fun e w'' hR => ?_
  obtain ⟨v, rfl, hS, hk⟩ := k e w'' hR
  rw [hH] at hk; exact ⟨hS, hk _ (ha.put hd) (hsh.set (by rw [hr]; simp))⟩
theorem HW.skip1 (hH : H = HW P N D ops Q S z) (hr : Region.ready .any ops l = [i]) (ho : ops[i]? = some o) (hs : Skips N ops E o) (hd : okd N o.dst = true) (hS : (l.setIfInBounds i true).getD z false = false → S w)
  (k : H n (l.setIfInBounds i true) (putE o.dst undef E) w) : H (n + 1) l E w := by
 subst hH
 intro a ha hsh
 refine ⟨fun h0 => (by rw [hr] at h0; cases h0), fun j hj => ?_⟩
 have hj' := hj
 rw [hr] at hj
 have hji : j = i := by simpa using hj
 subst hji
 unfold wpOp
 simp only [ho, hs _ _ ha, Bool.false_eq_true, if_false]
 exact ⟨hS, k _ (ha.put hd) (hsh.set hj')⟩
def H1 (P : Program) (N : Nat) (D : List Deferred) (ops : Array Oper) (Q : Exit → Act → World → Prop) (S : World → Prop) (z : Nat) (n : Nat) (l : Array Bool) (i : Nat) (E : Env) (w : World) : Prop :=
 i ∈ Region.ready .any ops l → ∀ a, Sat N D E a → Shut ops l → wpOp P ops (NP Q) i (fun a' w' => ((l.setIfInBounds i true).getD z false = false → S w') ∧ AH P ops (NP Q) S z n (l.setIfInBounds i true) a' w') a w
theorem HW.two {j : Nat} (hH : H = HW P N D ops Q S z) (hr : Region.ready .any ops l = [i, j]) (h1 : H1 P N D ops Q S z n l i E w) (h2 : H1 P N D ops Q S z n l j E w) : H (n + 1) l E w := by
 subst hH
 intro a ha hsh
 refine ⟨fun h0 => (by rw [hr] at h0; cases h0), fun k hk => ?_⟩
 have hk' := hk
 rw [hr] at hk
 rcases List.mem_cons.1 hk with rfl | hk
 ·exact h1 hk' a ha hsh
 ·have : k = j := by simpa using hk
  subst this
  exact h2 hk' a ha hsh
theorem H1.val (hH : H = HW P N D ops Q S z) (ho : ops[i]? = some o) (hw : Wants N ops E o) (hd : okd N o.dst = true)
  (hv : ∀ a, Sat N D E a → (execOp a.eval o).run P w = .ok (.value v) w') (hS : (l.setIfInBounds i true).getD z false = false → S w') (k : H n (l.setIfInBounds i true) (putE o.dst v E) w') : H1 P N D ops Q S z n l i E w := by
 intro hr a ha hsh
 unfold wpOp
 simp only [ho, hw _ _ ha, if_true]
 refine .inl ?_
 unfold Oper.wp; rw [hv a ha, Oper.upon_value]
 rw [hH] at k; exact ⟨hS, k _ (ha.put hd) (hsh.set hr)⟩
theorem H1.call {f : Nat} {args : Array Value} {R : Ending → World → Prop} (hH : H = HW P N D ops Q S z) (ho : ops[i]? = some o) (hw : Wants N ops E o) (hd : okd N o.dst = true)
  (hv : ∀ a, Sat N D E a → (execOp a.eval o).run P w = .ok (.enter f args) w') (hc : Calls P f args w' R)
  (k : ∀ e w'', R e w'' → ∃ v, e = .returned v ∧ ((l.setIfInBounds i true).getD z false = false → S w'') ∧ H n (l.setIfInBounds i true) (putE o.dst v E) w'') : H1 P N D ops Q S z n l i E w := by
 intro hr a ha hsh
 unfold wpOp
 simp only [ho, hw _ _ ha, if_true]
 refine .inl ?_
 unfold Oper.wp; rw [hv a ha, Oper.upon_enter]
 refine hc.mono fun e w'' hR => ?_
 obtain ⟨v, rfl, hS, hk⟩ := k e w'' hR
 rw [hH] at hk; exact ⟨hS, hk _ (ha.put hd) (hsh.set hr)⟩
theorem HW.done (hH : H = HW P N D ops Q S z) (hr : Region.ready .any ops l = []) (k : NW N D Q E w) : H n l E w := by
 subst hH
 intro a ha _
 cases n with
 | zero => exact ⟨hr, k a ha⟩
 | succ n => exact ⟨fun _ => k a ha, by rw [hr]; simp⟩
theorem HW.sub (hH : H = HW P N D ops Q S z) {F : Env} (s : Sub E F) (k : H n l E w) : H n l F w := by
 subst hH; exact fun a ha => k a (ha.sub s)
end
/-! ### A function -/
section
variable {P : Program} {N : Nat} {E : Env} {w : World} {fn : Func} {R : Ending → World → Prop}
theorem enter {f : Nat} {c : Code} {args : Array Value} (hf : P.funcs[f]? = some fn) (hb : fn.body = some c) (hN : fn.ntmps = N)
  (h : CW P N [] c (bodyPost P fn R) (envOf 0 args.toList) w) : Calls P f args w R := by
 refine calls_of_wp hf hb (h _ ⟨?_, rfl, fun t v hg => ?_⟩)
 ·rw [← hN]; simp; omega
 ·obtain ⟨_, h2⟩ := envOf_get _ _ _ _ hg
  have h3 : args[t]? = some v := by simpa using h2
  obtain ⟨hlt, h4⟩ := Array.getElem?_eq_some_iff.1 h3
  show (args ++ _).getD t undef = v
  simp [Array.getElem?_append_left hlt, h3]
theorem res0 (hr : fn.results = #[]) (h : R (.returned (.tuple #[])) w) (a : Act) (ha : Sat N [] E a) : bodyPost P fn R .ret a w :=
 bodyPost_ret (results_none hr _ _ _) ha.defers h
theorem res0n (hr : fn.results = #[]) (h : R (.returned (.tuple #[])) w) : NW N [] (bodyPost P fn R) E w := fun a ha =>
 bodyPost_end (results_none hr _ _ _) ha.defers h
theorem res1 {t : Nat} {v : Value} (hr : fn.results = #[.tmp t]) (hg : get E t = some v) (h : R (.returned v) w) (a : Act) (ha : Sat N [] E a) : bodyPost P fn R .ret a w :=
 bodyPost_ret (results_tmp hr _ _ _) ha.defers (by rw [ha.get _ _ hg]; exact h)
theorem res2 {t u : Nat} {v x : Value} (hr : fn.results = #[.tmp t, .tmp u]) (hg : get E t = some v) (hu : get E u = some x) (h : R (.returned (.tuple #[v, x])) w) (a : Act) (ha : Sat N [] E a) : bodyPost P fn R .ret a w :=
 bodyPost_ret (results_tmp2 hr _ _ _) ha.defers (by rw [ha.get _ _ hg, ha.get _ _ hu]; exact h)
def ResOK (P : Program) (E : Env) (w : World) : List ResultVar → List Value → Prop
 | [], vs => vs = []
 | .tmp t :: rs, vs => ∃ v us, vs = v :: us ∧ get E t = some v ∧ ResOK P E w rs us
 | .cell a T :: rs, vs => ∃ v us q, vs = v :: us ∧ get E a = some (.pointer (some q)) ∧ (loadVar T q).run P w = .ok v w ∧ ResOK P E w rs us
def resF (a : Act) : ResultVar → Sem Value
 | .tmp t => pure (a.tmps.getD t undef)
 | .cell c T => do loadVar T (← asAddr (a.tmps.getD c undef))
theorem ResOK.run {D : List Deferred} {a : Act} (ha : Sat N D E a) : ∀ (rs : List ResultVar) (vs : List Value), ResOK P E w rs vs →
  (rs.mapM (resF a)).run P w = .ok vs w
 | [], vs, h => by simp only [ResOK] at h; subst h; rfl
 | .tmp t :: rs, vs, h => by
  obtain ⟨v, us, rfl, hg, hr⟩ := h
  have ih := ResOK.run ha rs us hr
  rw [List.mapM_cons]
  simp only [resF, Sem.run_bind, Sem.run_pure, Result.andThen_ok, ha.get _ _ hg]
  rw [ih]; rfl
 | .cell c T :: rs, vs, h => by
  obtain ⟨v, us, q, rfl, hg, hl, hr⟩ := h
  have ih := ResOK.run ha rs us hr
  rw [List.mapM_cons]
  have hA : (asAddr (a.tmps.getD c undef)).run P w = .ok q w := by rw [ha.get _ _ hg]; rfl
  simp only [resF, Sem.run_bind, Sem.run_pure, Result.andThen_ok, hA, hl]
  rw [ih]; rfl
theorem resN {fn : Func} {vs : List Value} {x : Value} (h : ResOK P E w fn.results.toList vs) (hx : x = match vs with | [v] => v | _ => .tuple vs.toArray) (hR : R (.returned x) w) (a : Act) (ha : Sat N [] E a) : bodyPost P fn R .ret a w := by
 refine bodyPost_ret (v := x) ?_ ha.defers hR
 have h1 := ResOK.run ha _ _ h
 change (do let vs ← fn.results.mapM (resF a); pure (if h : vs.size = 1 then vs[0] else .tuple vs) : Sem Value).run P w = .ok x w
 rw [Array.mapM_eq_mapM_toList]
 simp only [Sem.run_bind, Sem.run_map, h1, Result.andThen_ok, Sem.run_pure]
 subst hx
 match vs with
 | [] => simp
 | [v] => simp
 | v :: u :: r => simp
theorem lv1 {t : TypeId} {q : Addr} {v : Value} (ht : (match P.underlying t with | some (.struct _) | some (.array _ _) | none => false | _ => true) = true) (hc : w.cell? q = some v) : (loadVar t q).run P w = .ok v w := by
 have h1 : (isAgg t).run P w = .ok false w := by
  unfold isAgg
  cases hu : P.underlying t with
  | none => rw [hu] at ht; cases ht
  | some u => rw [hu] at ht; simp only [Sem.run_bind, run_underlying hu, Result.andThen_ok]; cases u <;> first | rfl | (cases ht)
 simp [loadVar, h1, hc]
theorem lvN {t : TypeId} {q : Addr} {cs : List Value} (ht : (match P.underlying t with | some (.struct _) | some (.array _ _) => true | _ => false) = true)
  (hz : (P.info? t).map (·.size) = some cs.length) (hc : ∀ j v, cs[j]? = some v → w.cell? (q.add j) = some v) : (loadVar t q).run P w = .ok (.agg cs.toArray) w := by
 have h1 : (isAgg t).run P w = .ok true w := by
  unfold isAgg
  cases hu : P.underlying t with
  | none => rw [hu] at ht; cases ht
  | some u => rw [hu] at ht; simp only [Sem.run_bind, run_underlying hu, Result.andThen_ok]; cases u <;> first | rfl | (cases ht)
 have h2 : (sizeOf t).run P w = .ok cs.length w := by
  cases hi : P.info? t with
  | none => rw [hi] at hz; cases hz
  | some i => rw [hi] at hz; simp at hz; simp [sizeOf, typeInfo, hi, hz]
 simp [loadVar, h1, h2, run_loadCells_list w q cs hc]
theorem ResOK.nil : ResOK P E w [] [] := rfl
theorem ResOK.t {t : Nat} {v : Value} {rs : List ResultVar} {us : List Value} (h : get E t = some v) (r : ResOK P E w rs us) : ResOK P E w (.tmp t :: rs) (v :: us) := ⟨v, us, rfl, h, r⟩
theorem ResOK.c {a : Nat} {T : TypeId} {q : Addr} {v : Value} {rs : List ResultVar} {us : List Value} (h : get E a = some (.pointer (some q))) (hl : (loadVar T q).run P w = .ok v w) (r : ResOK P E w rs us) : ResOK P E w (.cell a T :: rs) (v :: us) :=
 ⟨v, us, q, rfl, h, hl, r⟩
end
end Go.X
end
section
/- The engine's rules for single operations, over any program. -/
namespace Go.X
open Go
section
variable {P : Program} {N : Nat} {D : List Deferred} {E : Env} {w w' : World} {d : Option Nat} {T : TypeId} {p : String} {af : Array Edge} {g : Option (Nat × Bool)} {S : World → Prop} {v : Value}
def Rd (P : Program) (N : Nat) (D : List Deferred) (E : Env) (o : Oper) (v : Value) (S : World → Prop) : Prop := ∀ a, Sat N D E a → ∀ w, S w → (execOp a.eval o).run P w = .ok (.value v) w
def Vl (P : Program) (N : Nat) (D : List Deferred) (E : Env) (o : Oper) (w : World) (v : Value) (w' : World) : Prop := ∀ a, Sat N D E a → (execOp a.eval o).run P w = .ok (.value v) w'
def Ef (P : Program) (N : Nat) (D : List Deferred) (E : Env) (o : Oper) (w : World) (w' : World) : Prop := ∀ a, Sat N D E a → (execOp a.eval o).run P w = .ok .skip w'
def Cl (P : Program) (N : Nat) (D : List Deferred) (E : Env) (o : Oper) (w : World) (f : Nat) (args : Array Value) : Prop := ∀ a, Sat N D E a → (execOp a.eval o).run P w = .ok (.enter f args) w
theorem LW.rd {ops : Array Oper} {Q : Exit → Act → World → Prop} {L : Nat → Env → World → Prop} {i : Nat} {o : Oper} (hL : L = LW P N D ops Q) (ho : ops[i]? = some o) (hw : Wants N ops E o) (hd : okd N o.dst = true)
  (hv : Rd P N D E o v (· = w)) (k : L (i + 1) (putE o.dst v E) w) : L i E w := LW.val hL ho hw hd (fun a ha => hv a ha w rfl) k
def opdP (E : Env) : List (Nat × Operand) → Option (List (Nat × Value))
 | [] => some []
 | (i, x) :: r => match opd E x with
  | none => none
  | some v => match opdP E r with
   | none => none
   | some vs => some ((i, v) :: vs)
theorem opdP_map {a : Act} (ha : Sat N D E a) {ps : Array (Nat × Operand)} {vs : List (Nat × Value)} (h : opdP E ps.toList = some vs) : (ps.map fun (i, x) => (i, a.eval x)) = vs.toArray := by
 have key : ∀ (l : List (Nat × Operand)) (vs : List (Nat × Value)), opdP E l = some vs → l.map (fun (i, x) => (i, a.eval x)) = vs := by
  intro l
  induction l with
  | nil => intro vs h; simp [opdP] at h; simp [h]
  | cons q r ih =>
   intro vs h
   obtain ⟨i, x⟩ := q
   simp only [opdP] at h
   split at h
   ·cases h
   ·rename_i v hv
    split at h
    ·cases h
    ·rename_i us hus
     simp at h; subst h
     simp [ha.eval hv, ih _ hus]
 rw [← Array.toList_inj]
 simpa using key _ _ h
def opdL (E : Env) : List Operand → Option (List Value)
 | [] => some []
 | x :: r => match opd E x with
  | none => none
  | some v => match opdL E r with
   | none => none
   | some vs => some (v :: vs)
theorem opdL_map {a : Act} (ha : Sat N D E a) {xs : Array Operand} {vs : List Value} (h : opdL E xs.toList = some vs) : xs.map a.eval = vs.toArray := by
 have key : ∀ (l : List Operand) (vs : List Value), opdL E l = some vs → l.map a.eval = vs := by
  intro l
  induction l with
  | nil => intro vs h; simp [opdL] at h; simp [h]
  | cons x r ih =>
   intro vs h
   simp only [opdL] at h
   split at h
   ·cases h
   ·rename_i v hv
    split at h
    ·cases h
    ·rename_i us hus
     simp at h; subst h
     simp [ha.eval hv, ih _ hus]
 rw [← Array.toList_inj]
 simpa using key _ _ h
def optV (E : Env) : Option Operand → Option (Option Value)
 | none => some none
 | some x => match opd E x with
  | none => none
  | some v => some (some v)
theorem optV_map {a : Act} (ha : Sat N D E a) {x : Option Operand} {v : Option Value} (h : optV E x = some v) : x.map a.eval = v := by
 cases x with
 | none => simp [optV] at h; simp [← h]
 | some x =>
  simp only [optV] at h
  split at h
  ·cases h
  ·rename_i u hu
   simp at h; subst h
   simp [ha.eval hu]
theorem eqs {q : Addr} (h : w.cell? q = some v) : ∀ w', w' = w → w'.cell? q = some v := fun _ e => e ▸ h
theorem Rd.move {x : Operand} (h : opd E x = some v) : Rd P N D E ⟨d, .move x, T, p, af, g⟩ v S := fun a ha w _ => by simp [execOp, ha.eval h]
theorem Rd.assign {x : Operand} (h : opd E x = some v) : Rd P N D E ⟨d, .assign x, T, p, af, g⟩ v S := fun a ha w _ => by simp [execOp, ha.eval h]
theorem Rd.pickT {c x y : Operand} {b : Bool} (hc : opd E c = some (.bool b)) (hb : b = true) (h : opd E x = some v) : Rd P N D E ⟨d, .pick c x y, T, p, af, g⟩ v S := fun a ha w _ => by
 simp [execOp, ha.eval hc, ha.eval h, hb, asBool]
theorem Rd.pickF {c x y : Operand} {b : Bool} (hc : opd E c = some (.bool b)) (hb : b = false) (h : opd E y = some v) : Rd P N D E ⟨d, .pick c x y, T, p, af, g⟩ v S := fun a ha w _ => by
 simp [execOp, ha.eval hc, ha.eval h, hb, asBool]
theorem Rd.bin {op : BinOp} {T1 T2 : TypeId} {x y : Operand} {vx vy : Value} (hx : opd E x = some vx) (hy : opd E y = some vy)
  (hr : ∀ w, ((do eqGuard op T1 x y vx vy; binOp op T1 vx vy : Sem Value)).run P w = .ok v w) : Rd P N D E ⟨d, .binOp op T1 x y T2, T, p, af, g⟩ v S := fun a ha w _ => by
 have := hr w
 simp only [Sem.run_bind] at this
 cases hg : (eqGuard op T1 x y vx vy).run P w with
 | ok u w1 => rw [hg] at this; simp only [Result.andThen_ok] at this; simp [execOp, ha.eval hx, ha.eval hy, hg, this]
 | halt h w1 => rw [hg] at this; cases this
theorem Rd.un {op : UnOp} {T1 : TypeId} {x : Operand} {vx : Value} (hx : opd E x = some vx) (hr : ∀ w, (Op.unary op vx).run P w = .ok v w) : Rd P N D E ⟨d, .unOp op T1 x, T, p, af, g⟩ v S := fun a ha w _ => by
 simp [execOp, ha.eval hx, hr w]
theorem Rd.conv {s t : TypeId} {x : Operand} {vx : Value} (hx : opd E x = some vx) (hr : ∀ w, (convert s t vx).run P w = .ok v w) : Rd P N D E ⟨d, .convert s t x, T, p, af, g⟩ v S := fun a ha w _ => by
 simp [execOp, ha.eval hx, hr w]
theorem Rd.nil {x : Operand} {q : Addr} (hx : opd E x = some (.pointer (some q))) : Rd P N D E ⟨d, .nilCheck x, T, p, af, g⟩ (.pointer (some q)) S := fun a ha w _ => by
 simp [execOp, ha.eval hx]
theorem Rd.fa {s : TypeId} {x : Operand} {f : Nat} {q : Addr} (hx : opd E x = some (.pointer (some q))) (hr : ∀ w, (Instr.fieldAt s (.pointer (some q)) f).run P w = .ok v w) :
  Rd P N D E ⟨d, .fieldAddr s x f, T, p, af, g⟩ v S := fun a ha w _ => by
 simp [execOp, ha.eval hx, hr w]
theorem Rd.extract {x : Operand} {i : Nat} {vs : Array Value} (hx : opd E x = some (.tuple vs)) (hi : vs[i]? = some v) : Rd P N D E ⟨d, .extract x i, T, p, af, g⟩ v S := fun a ha w _ => by
 simp [execOp, ha.eval hx, Instr.extract, hi]
theorem Rd.build {t : TypeId} {ps : Array (Nat × Operand)} {vs : List (Nat × Value)} (hx : opdP E ps.toList = some vs) (hr : ∀ w, (Instr.build t vs.toArray).run P w = .ok v w) :
  Rd P N D E ⟨d, .build t ps, T, p, af, g⟩ v S := fun a ha w _ => by
 simp [execOp, opdP_map ha hx, hr w]
theorem Rd.makeFunc {f : Nat} {cap : Array Operand} {vs : List Value} (hx : opdL E cap.toList = some vs) : Rd P N D E ⟨d, .makeFunc (.func f) #[] cap, T, p, af, g⟩ (.func (.func f) #[] vs.toArray) S := fun a ha w _ => by
 simp [execOp, opdL_map ha hx, Instr.makeFunc]
theorem Rd.ld {t : TypeId} {x : Operand} {q : Addr} (hx : opd E x = some (.pointer (some q))) (ht : (match P.underlying t with | some (.struct _) | some (.array _ _) | none => false | _ => true) = true)
  (hc : ∀ w, S w → w.cell? q = some v) : Rd P N D E ⟨d, .load t x, T, p, af, g⟩ v S := fun a ha w hS => by
 have h1 : (isAgg t).run P w = .ok false w := by
  unfold isAgg
  cases hu : P.underlying t with
  | none => rw [hu] at ht; cases ht
  | some u => rw [hu] at ht; simp only [Sem.run_bind, run_underlying hu, Result.andThen_ok]; cases u <;> first | rfl | (cases ht)
 simp [execOp, ha.eval hx, Instr.loadAt, Instr.sureAddr, loadVar, h1, hc w hS]
theorem Rd.ldN {t : TypeId} {x : Operand} {q : Addr} {cs : List Value} (hx : opd E x = some (.pointer (some q))) (ht : (match P.underlying t with | some (.struct _) | some (.array _ _) => true | _ => false) = true)
  (hz : (P.info? t).map (·.size) = some cs.length) (hc : ∀ w, S w → ∀ j v, cs[j]? = some v → w.cell? (q.add j) = some v) : Rd P N D E ⟨d, .load t x, T, p, af, g⟩ (.agg cs.toArray) S := fun a ha w hS => by
 have h1 : (isAgg t).run P w = .ok true w := by
  unfold isAgg
  cases hu : P.underlying t with
  | none => rw [hu] at ht; cases ht
  | some u => rw [hu] at ht; simp only [Sem.run_bind, run_underlying hu, Result.andThen_ok]; cases u <;> first | rfl | (cases ht)
 have h2 : (sizeOf t).run P w = .ok cs.length w := by
  cases hi : P.info? t with
  | none => rw [hi] at hz; cases hz
  | some i => rw [hi] at hz; simp at hz; simp [sizeOf, typeInfo, hi, hz]
 simp [execOp, ha.eval hx, Instr.loadAt, Instr.sureAddr, loadVar, h1, h2, run_loadCells_list w q cs (hc w hS)]
theorem Rd.lookup {t : TypeId} {x k : Operand} {ok : Bool} {vx vk : Value} (hx : opd E x = some vx) (hk : opd E k = some vk) (hl : ∀ w, S w → (Instr.lookup t vx vk ok).run P w = .ok v w) :
  Rd P N D E ⟨d, .lookup t x k ok, T, p, af, g⟩ v S := fun a ha w hS => by
 simp [execOp, ha.eval hx, ha.eval hk, hl w hS]
theorem Rd.index {t : TypeId} {x k : Operand} {vx vk : Value} (hx : opd E x = some vx) (hk : opd E k = some vk) (hl : ∀ w, (Instr.index t vx vk).run P w = .ok v w) :
  Rd P N D E ⟨d, .index t x k, T, p, af, g⟩ v S := fun a ha w hS => by
 simp [execOp, ha.eval hx, ha.eval hk, hl w]
theorem Rd.slice {t : TypeId} {x : Operand} {lo hi mx : Option Operand} {vx : Value} {vlo vhi vmx : Option Value} (hx : opd E x = some vx) (h1 : optV E lo = some vlo) (h2 : optV E hi = some vhi) (h3 : optV E mx = some vmx)
  (hl : ∀ w, (Instr.sliceAt t vx vlo vhi vmx).run P w = .ok v w) : Rd P N D E ⟨d, .slice t x lo hi mx, T, p, af, g⟩ v S := fun a ha w hS => by
 simp [execOp, ha.eval hx, optV_map ha h1, optV_map ha h2, optV_map ha h3, hl w]
theorem Rd.builtin {b : Builtin} {args : Array Operand} {ts : Array TypeId} {vs : List Value} (hx : opdL E args.toList = some vs)
  (hl : ∀ w, S w → (builtin b ts T (args.map fun | .const _ => true | _ => false) vs.toArray).run P w = .ok (.value v) w) : Rd P N D E ⟨d, .call ⟨.builtin b, args, ts⟩, T, p, af, g⟩ v S := fun a ha w hS => by
 have h1 : args.map a.eval = vs.toArray := opdL_map ha hx
 simp [execOp, resolve, invoke, h1]
 exact hl w hS
theorem Rd.iaA {t e : TypeId} {x k : Operand} {q : Addr} {n sz : Nat} {ik : IntKind} {i : Int} (hx : opd E x = some (.pointer (some q))) (hk : opd E k = some (.int ik i)) (ht : P.underlying t = some (.array n e))
  (hz : (P.info? e).map (·.size) = some sz) (h0 : 0 ≤ i) (h1 : i < n) : Rd P N D E ⟨d, .indexAddr t x k, T, p, af, g⟩ (.pointer (some (q.add (i.toNat * sz)))) S := fun a ha w _ => by
 have h2 : (sizeOf e).run P w = .ok sz w := by
  cases hi : P.info? e with
  | none => rw [hi] at hz; cases hz
  | some i => rw [hi] at hz; simp at hz; simp [sizeOf, typeInfo, hi, hz]
 simp [execOp, ha.eval hx, ha.eval hk, Instr.indexAt, asIntOf, run_underlying ht, Instr.sureAddr, h0, h1, h2]
theorem Rd.iaS {t e : TypeId} {x k : Operand} {q : Addr} {n c sz : Nat} {ik : IntKind} {i : Int} (hx : opd E x = some (.slice (some q) n c)) (hk : opd E k = some (.int ik i)) (ht : P.underlying t = some (.slice e))
  (hz : (P.info? e).map (·.size) = some sz) (h0 : 0 ≤ i) (h1 : i < n) : Rd P N D E ⟨d, .indexAddr t x k, T, p, af, g⟩ (.pointer (some (q.add (i.toNat * sz)))) S := fun a ha w _ => by
 have h2 : (sizeOf e).run P w = .ok sz w := by
  cases hi : P.info? e with
  | none => rw [hi] at hz; cases hz
  | some i => rw [hi] at hz; simp at hz; simp [sizeOf, typeInfo, hi, hz]
 simp [execOp, ha.eval hx, ha.eval hk, Instr.indexAt, asIntOf, run_underlying ht, h0, h1, h2]
/-! ### Operations that change the world -/
theorem Vl.box {t : TypeId} {x : Operand} (hx : opd E x = some v) : Vl P N D E ⟨d, .box t x, T, p, af, g⟩ w (.pointer (some ⟨w.heap.size, 0, none⟩)) (w.alloc (.cells v.cells t)) := fun a ha => by
 simp [execOp, ha.eval hx, Instr.box, newVar, newRow]
theorem Vl.alloc {t : TypeId} {z : Value} (hz : (zeroValue t).run P w = .ok z w) : Vl P N D E ⟨d, .alloc t, T, p, af, g⟩ w (.pointer (some ⟨w.heap.size, 0, none⟩)) (w.alloc (.cells z.cells t)) := fun a ha => by
 simp [execOp, Instr.alloc, hz, newVar, newRow]
theorem Vl.makeMap {t : TypeId} : Vl P N D E ⟨d, .makeMap t none, T, p, af, g⟩ w (.map (some w.heap.size)) (w.alloc (.map #[] 0)) := fun a ha => by
 simp [execOp, Instr.makeMap]
theorem Vl.buildSlice {t : TypeId} {n : Nat} {ps : Array (Nat × Operand)} {vs : List (Nat × Value)} (hx : opdP E ps.toList = some vs) (hr : (Instr.buildSlice t n vs.toArray).run P w = .ok v w') :
  Vl P N D E ⟨d, .buildSlice t n ps, T, p, af, g⟩ w v w' := fun a ha => by
 simp [execOp, opdP_map ha hx, hr]
theorem Vl.builtin {b : Builtin} {args : Array Operand} {ts : Array TypeId} {vs : List Value} (hx : opdL E args.toList = some vs)
  (hl : (builtin b ts T (args.map fun | .const _ => true | _ => false) vs.toArray).run P w = .ok (.value v) w') : Vl P N D E ⟨d, .call ⟨.builtin b, args, ts⟩, T, p, af, g⟩ w v w' := fun a ha => by
 have h1 : args.map a.eval = vs.toArray := opdL_map ha hx
 simp [execOp, resolve, invoke, h1]
 exact hl
theorem Vl.range {t : TypeId} {x : Operand} {vx : Value} (hx : opd E x = some vx) (hr : (Instr.range t vx).run P w = .ok v w') : Vl P N D E ⟨d, .range t x, T, p, af, g⟩ w v w' := fun a ha => by
 simp [execOp, ha.eval hx, hr]
theorem Vl.next {x : Operand} {s : Bool} {vx : Value} (hx : opd E x = some vx) (hr : (Instr.next vx s T).run P w = .ok v w') : Vl P N D E ⟨d, .next x s, T, p, af, g⟩ w v w' := fun a ha => by
 simp [execOp, ha.eval hx, hr]
theorem Vl.entry {x : Operand} {vx : Value} (hx : opd E x = some vx) (hr : (Instr.entry vx).run P w = .ok v w') : Vl P N D E ⟨d, .entry x, T, p, af, g⟩ w v w' := fun a ha => by
 simp [execOp, ha.eval hx, hr]
theorem Ef.mapUpdate {t : TypeId} {m k x : Operand} {vm vk vx : Value} (hm : opd E m = some vm) (hk : opd E k = some vk) (hx : opd E x = some vx) (hr : (Instr.mapUpdate t vm vk vx).run P w = .ok () w') :
  Ef P N D E ⟨d, .mapUpdate t m k x, T, p, af, g⟩ w w' := fun a ha => by
 simp [execOp, ha.eval hm, ha.eval hk, ha.eval hx, hr]
theorem Vl.mapEntry {t : TypeId} {m k : Operand} {vm vk : Value} (hm : opd E m = some vm) (hk : opd E k = some vk) (hr : (Instr.mapEntry t vm vk).run P w = .ok v w') :
  Vl P N D E ⟨d, .mapEntry t m k, T, p, af, g⟩ w v w' := fun a ha => by
 simp [execOp, ha.eval hm, ha.eval hk, hr]
theorem Ef.entryStore {t : TypeId} {m s x : Operand} {vm vs vx : Value} (hm : opd E m = some vm) (hs : opd E s = some vs) (hx : opd E x = some vx) (hr : (Instr.entryStore t vm vs vx).run P w = .ok () w') :
  Ef P N D E ⟨d, .entryStore t m s x, T, p, af, g⟩ w w' := fun a ha => by
 simp [execOp, ha.eval hm, ha.eval hs, ha.eval hx, hr]
theorem Ef.insert {t : TypeId} {m k x : Operand} {vm vk vx : Value} (hm : opd E m = some vm) (hk : opd E k = some vk) (hx : opd E x = some vx) (hr : (Instr.mapUpdate t vm vk vx).run P w = .ok () w') :
  Ef P N D E ⟨d, .insert t m k x, T, p, af, g⟩ w w' := fun a ha => by
 simp [execOp, ha.eval hm, ha.eval hk, ha.eval hx, hr]
theorem Ef.st {t : TypeId} {x y : Operand} {q : Addr} {old : Value} (hx : opd E x = some (.pointer (some q))) (hy : opd E y = some v) (hv : v.oneCell' = true) (hz : (P.info? t).map (·.size) = some 1)
  (hc : w.cell? q = some old) (hf : w.frozen? q = false) : Ef P N D E ⟨d, .store t x y, T, p, af, g⟩ w (w.setCell q v) := fun a ha => by
 have h2 : (sizeOf t).run P w = .ok 1 w := by
  cases hi : P.info? t with
  | none => rw [hi] at hz; cases hz
  | some i => rw [hi] at hz; simp at hz; simp [sizeOf, typeInfo, hi, hz]
 have hcs : v.cells = #[v] := by cases v <;> first | rfl | (cases hv)
 have h0 : q.add 0 = q := rfl
 simp [execOp, ha.eval hx, ha.eval hy, Instr.storeAt, Instr.sureAddr, storeVar, h2, hcs, storeCells, h0, run_store P w q v .plain hv, hc, hf]
def setCells (w : World) (q : Addr) : Nat → List Value → World
 | _, [] => w
 | i, v :: vs => setCells (w.setCell (q.add i) v) q (i + 1) vs
theorem isSome_setCell {w : World} {q q' : Addr} {v : Value} (h : (w.cell? q').isSome = true) : ((w.setCell q v).cell? q').isSome = true := by
 by_cases e : q = q'
 ·subst e
  obtain ⟨x, hx⟩ := Option.isSome_iff_exists.1 h
  rw [World.cell?_setCell_same _ _ _ hx]; rfl
 ·rw [World.cell?_setCell_other _ _ _ _ e]; exact h
theorem run_storeCells' (q : Addr) : ∀ (vs : List Value) (i : Nat) (w : World), (∀ v ∈ vs, v.oneCell' = true) → (∀ j, j < vs.length → (w.cell? (q.add (i + j))).isSome = true) →
  (∀ j, j < vs.length → w.frozen? (q.add (i + j)) = false) → (storeCells q vs i).run P w = .ok () (setCells w q i vs)
 | [], i, w, _, _, _ => rfl
 | v :: vs, i, w, h1, hc, hf => by
  obtain ⟨old, ho⟩ := Option.isSome_iff_exists.1 (hc 0 (by simp))
  have hf0 := hf 0 (by simp)
  simp only [Nat.add_zero] at ho hf0
  simp only [storeCells, Sem.run_bind, run_store P w (q.add i) v .plain (h1 v (by simp)), ho, hf0, setCells]
  exact run_storeCells' q vs (i + 1) _ (fun x hx => h1 x (by simp [hx])) (fun j hj => isSome_setCell (by have := hc (j + 1) (by simp; omega); rwa [show i + (j + 1) = i + 1 + j from by omega] at this))
   (fun j hj => by rw [World.frozen?_setCell]; have := hf (j + 1) (by simp; omega); rwa [show i + (j + 1) = i + 1 + j from by omega] at this)
theorem Ef.stN {t : TypeId} {x y : Operand} {q : Addr} {cs : List Value} (hx : opd E x = some (.pointer (some q))) (hy : opd E y = some (.agg cs.toArray)) (hz : (P.info? t).map (·.size) = some cs.length)
  (h1 : ∀ v ∈ cs, v.oneCell' = true) (hc : ∀ j, j < cs.length → (w.cell? (q.add j)).isSome = true) (hf : ∀ j, j < cs.length → w.frozen? (q.add j) = false) :
  Ef P N D E ⟨d, .store t x y, T, p, af, g⟩ w (setCells w q 0 cs) := fun a ha => by
 have h2 : (sizeOf t).run P w = .ok cs.length w := by
  cases hi : P.info? t with
  | none => rw [hi] at hz; cases hz
  | some i => rw [hi] at hz; simp at hz; simp [sizeOf, typeInfo, hi, hz]
 simp [execOp, ha.eval hx, ha.eval hy, Instr.storeAt, Instr.sureAddr, storeVar, h2, Value.cells, run_storeCells' (P := P) q cs 0 w h1 (by simpa using hc) (by simpa using hf)]
/-! ### Calls -/
theorem run_call {f : Nat} {fn : Func} {args : Array Value} (hf : P.funcs[f]? = some fn) (hn : (fn.name == "runtime.NumGoroutine") = false) (hb : fn.body.isNone = false) : (callFunc f args).run P w = .ok (.enter f args) w := by
 simp only [callFunc, Sem.run_bind, run_program, Result.andThen_ok, hf, hn, hb, Bool.false_eq_true, if_false, Sem.run_pure]
theorem Cl.fn {f : Nat} {fn : Func} {args : Array Operand} {ts : Array TypeId} {vs : List Value} (hx : opdL E args.toList = some vs) (hf : P.funcs[f]? = some fn) (hn : (fn.name == "runtime.NumGoroutine") = false)
  (hb : fn.body.isNone = false) : Cl P N D E ⟨d, .call ⟨.value (.func f), args, ts⟩, T, p, af, g⟩ w f vs.toArray := fun a ha => by
 have h1 : args.map a.eval = vs.toArray := opdL_map ha hx
 simp [execOp, resolve, Act.eval, Deferred.ofValue, invoke, h1, run_call hf hn hb]
theorem Cl.fv {x : Operand} {f : Nat} {fn : Func} {cap : Array Value} {args : Array Operand} {ts : Array TypeId} {vs : List Value} (hv : opd E x = some (.func (.func f) #[] cap)) (hx : opdL E args.toList = some vs)
  (hf : P.funcs[f]? = some fn) (hn : (fn.name == "runtime.NumGoroutine") = false) (hb : fn.body.isNone = false) : Cl P N D E ⟨d, .call ⟨.value x, args, ts⟩, T, p, af, g⟩ w f (vs.toArray ++ cap) := fun a ha => by
 have h1 : args.map a.eval = vs.toArray := opdL_map ha hx
 simp [execOp, resolve, ha.eval hv, Deferred.ofValue, invoke, h1, run_call hf hn hb]
def CallsV (P : Program) (fv : Value) (args : Array Value) (w : World) (R : Ending → World → Prop) : Prop :=
 ∃ f cap fn, fv = .func (.func f) #[] cap ∧ P.funcs[f]? = some fn ∧ (fn.name == "runtime.NumGoroutine") = false ∧ fn.body.isNone = false ∧ Calls P f (args ++ cap) w R
end
end Go.X
end
section
/- Small lemmas that the printed texts use. -/
namespace Go.X
open Go
def CellsAt (w : World) (q : Addr) : Nat → List Value → Prop
 | _, [] => True
 | i, v :: vs => w.cell? (q.add i) = some v ∧ CellsAt w q (i + 1) vs
theorem cellsAt_get' {w : World} {q : Addr} : ∀ {vs : List Value} {i : Nat}, CellsAt w q i vs → ∀ j v, vs[j]? = some v → w.cell? (q.add (i + j)) = some v
 | [], _, _, j, v, h => by simp at h
 | x :: vs, i, ⟨h1, h2⟩, 0, v, h => by simp at h; subst h; exact h1
 | x :: vs, i, ⟨h1, h2⟩, j + 1, v, h => by
  have := cellsAt_get' h2 j v (by simpa using h)
  rwa [show i + 1 + j = i + (j + 1) from by omega] at this
theorem cellsAt_get {w : World} {q : Addr} {vs : List Value} (h : CellsAt w q 0 vs) : ∀ j v, vs[j]? = some v → w.cell? (q.add j) = some v := fun j v hj => by
 have := cellsAt_get' h j v hj; rwa [Nat.zero_add] at this
theorem cellsS {w : World} {q : Addr} {vs : List Value} (h : CellsAt w q 0 vs) : ∀ w', w' = w → ∀ j v, vs[j]? = some v → w'.cell? (q.add j) = some v := fun _ e => e ▸ cellsAt_get h
def Has (w : World) (q : Addr) (n : Nat) : Prop := ∀ j, j < n → (w.cell? (q.add j)).isSome = true
def Free (w : World) (q : Addr) (n : Nat) : Prop := ∀ j, j < n → w.frozen? (q.add j) = false
def _root_.Go.World.size (w : World) : Nat := w.heap.size
section
variable {P : Program} {N : Nat} {D : List Deferred} {E : Env} {w w' : World} {o : Oper} {v : Value}
theorem boxE {b : Nat} {x : Obj} (hb : b = w.size) (hw : w' = w.alloc x) (h : Vl P N D E o w (.pointer (some ⟨w.heap.size, 0, none⟩)) (w.alloc x)) : Vl P N D E o w (.pointer (some ⟨b, 0, none⟩)) w' := by subst hb; subst hw; exact h
theorem mapE {b : Nat} {x : Obj} (hb : b = w.size) (hw : w' = w.alloc x) (h : Vl P N D E o w (.map (some w.heap.size)) (w.alloc x)) : Vl P N D E o w (.map (some b)) w' := by subst hb; subst hw; exact h
theorem sliceE {b n : Nat} {x : Obj} (hb : b = w.size) (hw : w' = w.alloc x) (h : ∀ w, Vl P N D E o w (.slice (some ⟨w.heap.size, 0, none⟩) n n) (w.alloc x)) : Vl P N D E o w (.slice (some ⟨b, 0, none⟩) n n) w' := by subst hb; subst hw; exact h w
theorem stE {q : Addr} (hw : w' = w.setCell q v) (h : Ef P N D E o w (w.setCell q v)) : Ef P N D E o w w' := by subst hw; exact h
theorem stNE {q : Addr} {cs : List Value} (hw : w' = setCells w q 0 cs) (h : Ef P N D E o w (setCells w q 0 cs)) : Ef P N D E o w w' := by subst hw; exact h
theorem valB {ts : Array TypeId} {T : TypeId} {c : Array Bool} {vs : Array Value} {b : Builtin} {f : Array TypeId → TypeId → Array Value → Sem Value} (h : (f ts T vs).run P w = .ok v w')
  (hb : builtin b ts T c vs = (do pure (.value (← f ts T vs))) := by rfl) : (builtin b ts T c vs).run P w = .ok (.value v) w' := by
 rw [hb]; simp [h]
theorem ptr_nil_eq {T : TypeId} {x y : Operand} (hT : P.underlying T = some (.pointer (P.pointee T))) (a : Option Addr) (w : World) :
  ((do eqGuard .eql T x y (.pointer a) (.pointer none); binOp .eql T (.pointer a) (.pointer none) : Sem Value)).run P w = .ok (.bool (Option.isNone a)) w := by
 have h1 : (eqGuard .eql T x y (.pointer a) (.pointer none)).run P w = .ok () w := by simp [eqGuard]
 simp only [Sem.run_bind, h1, Result.andThen_ok]
 exact run_eql_pointer_nil w T a hT
theorem cellAlloc {x : Obj} {q : Addr} (hw : w' = w.alloc x) (h : w.cell? q = some v) : w'.cell? q = some v := by
 subst hw; rw [World.cell?_alloc_lt]; exact h; exact World.block_lt_of_cell? w q h
end
end Go.X
end
section
/- Worlds that differ in some blocks alone; cells; maps as lists of keys and values. -/
namespace Go.X
open Go Go.RowKit Go.MapKept
structure Chg (fp : List Nat) (w w' : World) : Prop where
 os : w'.os = w.os
 tape : w'.tape = w.tape
 output : w'.output = w.output
 size : w.heap.size ≤ w'.heap.size
 block : ∀ i, i < w.heap.size → i ∉ fp → w'.heap[i]? = w.heap[i]?
theorem Chg.refl (fp : List Nat) (w : World) : Chg fp w w := ⟨rfl, rfl, rfl, Nat.le_refl _, fun _ _ _ => rfl⟩
theorem Chg.trans {f g : List Nat} {a b c : World} (h : Chg f a b) (k : Chg g b c) (hg : ∀ i ∈ g, i < a.heap.size → i ∈ f) : Chg f a c :=
 ⟨k.os.trans h.os, k.tape.trans h.tape, k.output.trans h.output, Nat.le_trans h.size k.size,
  fun i hi hf => (k.block i (Nat.lt_of_lt_of_le hi h.size) (fun hm => hf (hg i hm hi))).trans (h.block i hi hf)⟩
theorem Chg.mono {f g : List Nat} {a b : World} (h : Chg f a b) (hg : ∀ i ∈ f, i < a.heap.size → i ∈ g) : Chg g a b :=
 ⟨h.os, h.tape, h.output, h.size, fun i hi hf => h.block i hi (fun hm => hf (hg i hm hi))⟩
theorem Chg.trans0 {a b c : World} (h : Chg [] a b) (k : Chg [] b c) : Chg [] a c := h.trans k (by simp)
theorem Chg.nil {f : List Nat} {a b : World} (h : Chg [] a b) : Chg f a b := h.mono (by simp)
theorem Chg.drew (w : World) : Chg [] w w.drew := ⟨rfl, rfl, rfl, Nat.le_refl _, fun _ _ _ => rfl⟩
theorem Chg.alloc (w : World) (o : Obj) : Chg [] w (w.alloc o) := ⟨rfl, rfl, rfl, by simp, fun i hi _ => Below.heap_alloc w o i hi⟩
theorem Chg.setCell (w : World) (q : Addr) (v : Value) : Chg [q.block] w (w.setCell q v) := by
 refine ⟨rfl, rfl, rfl, by simp [World.setCell], fun i hi hf => ?_⟩
 have hne : q.block ≠ i := fun e => hf (by simp [e])
 simp [World.setCell, Array.getElem?_modify, hne]
theorem Chg.setCells (q : Addr) : ∀ (vs : List Value) (i : Nat) (w : World), Chg [q.block] w (setCells w q i vs)
 | [], _, w => Chg.refl _ w
 | v :: vs, i, w => by
  have h1 := Chg.setCell w (q.add i) v
  have hb : (q.add i).block = q.block := by unfold Addr.add; split <;> rfl
  rw [hb] at h1
  exact h1.trans (Chg.setCells q vs (i + 1) _) (fun _ h _ => h)
theorem Chg.put {w : World} {r : Nat} {o : Obj} : Chg [r] w { w with heap := w.heap.setIfInBounds r o } := by
 refine ⟨rfl, rfl, rfl, by simp, fun i hi hf => ?_⟩
 have hne : r ≠ i := fun e => hf (by simp [e])
 simp [hne]
theorem Chg.below {w w' : World} (h : Chg [] w w') : Below w.heap.size w w' := ⟨h.os, h.tape, h.output, h.size, fun k hk => h.block k hk (by simp)⟩
theorem lt_of_heap {w : World} {b : Nat} {o : Obj} (h : w.heap[b]? = some o) : b < w.heap.size := (Array.getElem?_eq_some_iff.1 h).1
theorem Chg.obj {f : List Nat} {w w' : World} (h : Chg f w w') {b : Nat} {o : Obj} (hf : b ∉ f) (hb : w.heap[b]? = some o) : w'.heap[b]? = some o := (h.block b (lt_of_heap hb) hf).trans hb
theorem Chg.cell {f : List Nat} {w w' : World} (h : Chg f w w') {q : Addr} {v : Value} (hf : q.block ∉ f) (hq : w.cell? q = some v) : w'.cell? q = some v := by
 have hb := h.block q.block (World.block_lt_of_cell? w q hq) hf
 unfold World.cell? at hq ⊢
 rw [hb]; exact hq
theorem add_block (q : Addr) (i : Nat) : (q.add i).block = q.block := by unfold Addr.add; split <;> rfl
theorem Chg.cells {f : List Nat} {w w' : World} (h : Chg f w w') {q : Addr} (hf : q.block ∉ f) : ∀ {i : Nat} {vs : List Value}, CellsAt w q i vs → CellsAt w' q i vs
 | _, [], _ => trivial
 | i, v :: vs, ⟨h1, h2⟩ => ⟨h.cell (fun hm => hf (add_block q i ▸ hm)) h1, h.cells hf h2⟩
/-! ### Cells of a known block -/
theorem add_at (b o n : Nat) : (⟨b, o, none⟩ : Addr).add n = ⟨b, o + n, none⟩ := by unfold Addr.add; split <;> simp_all
theorem cell_of {w : World} {b : Nat} {c : Array Value} {t : TypeId} {fr : Nat × Nat} (h : w.heap[b]? = some (.cells c t fr)) (i : Nat) : w.cell? ⟨b, i, none⟩ = c[i]? := by simp [World.cell?, h]
theorem free_of {w : World} {b : Nat} {c : Array Value} {t : TypeId} (h : w.heap[b]? = some (.cells c t (0, 0))) (i : Nat) : w.frozen? ⟨b, i, none⟩ = false := by simp [World.frozen?, h]
theorem heap_new (w : World) (o : Obj) : (w.alloc o).heap[w.size]? = some o := (MapKept.heap_alloc w o).1
theorem set_heap {w : World} {b i : Nat} {c : Array Value} {t : TypeId} {fr : Nat × Nat} (h : w.heap[b]? = some (.cells c t fr)) (v : Value) : (w.setCell ⟨b, i, none⟩ v).heap[b]? = some (.cells (c.setIfInBounds i v) t fr) := by
 simp [World.setCell, Array.getElem?_modify, h]
theorem setCells_heap {b o : Nat} {t : TypeId} {fr : Nat × Nat} : ∀ (vs : List Value) (i : Nat) (w : World) (c : Array Value), w.heap[b]? = some (.cells c t fr) →
  (setCells w ⟨b, o, none⟩ i vs).heap[b]? = some (.cells (vs.zipIdx.foldl (fun c (v, j) => c.setIfInBounds (o + i + j) v) c) t fr)
 | [], i, w, c, h => by simpa [setCells] using h
 | v :: vs, i, w, c, h => by
  simp only [setCells, add_at]
  rw [setCells_heap vs (i + 1) _ _ (set_heap h v)]
  simp only [List.zipIdx_cons, List.foldl_cons, Nat.add_zero, Nat.zero_add]
  congr 2
  have : ∀ (l : List Value) (k : Nat) (c : Array Value), (l.zipIdx (k + 1)).foldl (fun c (x : Value × Nat) => c.setIfInBounds (o + i + x.2) x.1) c = (l.zipIdx k).foldl (fun c (x : Value × Nat) => c.setIfInBounds (o + (i + 1) + x.2) x.1) c := by
   intro l
   induction l with
   | nil => intro k c; rfl
   | cons x l ih =>
    intro k c
    simp only [List.zipIdx_cons, List.foldl_cons]
    rw [ih (k + 1)]
    congr 2
    omega
  exact (this vs 0 _).symm
/-! ### Maps -/
structure KeyT (P : Program) (kt : TypeId) {K : Type} [DecidableEq K] (enc : K → Value) : Prop where
 inj : ∀ a b, enc a = enc b → a = b
 check : ∀ e w k, (Instr.checkKey e 10000 kt (enc k)).run P w = .ok () w
 find : ∀ w k (es : List MapEntry), (∀ x ∈ es, ∃ a, x.key = enc a) →
  ((∀ x ∈ es, x.key ≠ enc k) ∧ (Instr.findKey kt (enc k) es).run P w = .ok none w) ∨
  (∃ j e, es[j]? = some e ∧ e.key = enc k ∧ (Instr.findKey kt (enc k) es).run P w = .ok (some (j, e.val)) w)
 stays : ∀ k, Instr.sameBits 10000 (enc k) (enc k) = true
theorem int_keyT {P : Program} {kt : TypeId} {q : IntKind} (hk : P.underlying kt = some (.int q)) : KeyT P kt (fun n : Int => .int q n) where
 inj := fun a b h => by simpa using h
 check := fun e w k => run_checkKey hk (by simp [IsKey]) e 9999
 find := fun w k es hes => by
  have hk' : IsKey (.int q) (.int q k) := by simp [IsKey]
  rcases findNow_spec hk' es 0 (fun x hx => by obtain ⟨a, ha⟩ := hes x hx; rw [ha]; simp [IsKey]) with ⟨h1, h2⟩ | ⟨j, e, h1, h2, h3⟩
  ·exact .inl ⟨h2, run_findKey hk h1⟩
  ·exact .inr ⟨j, e, h2, h3, by simpa using run_findKey hk h1⟩
 stays := fun k => by simp [Instr.sameBits]
def MapIs (w : World) (r : Nat) {K V : Type} (ke : K → Value) (ve : V → Value) (l : List (K × V)) : Prop :=
 ∃ es clk, w.heap[r]? = some (.map es clk) ∧ es.toList.map (fun (e : MapEntry) => (e.key, e.val)) = l.map (fun (p : K × V) => (ke p.1, ve p.2)) ∧ (l.map Prod.fst).Nodup ∧
  (∀ e ∈ es.toList, e.born < clk) ∧ (es.toList.map (·.born)).Nodup
section
variable {P : Program} {K V : Type} [DecidableEq K] {ke : K → Value} {ve : V → Value} {kt et T : TypeId} {w : World} {r : Nat} {l : List (K × V)}
theorem MapIs.chg {f : List Nat} {w' : World} (h : MapIs w r ke ve l) (hc : Chg f w w') (hf : r ∉ f) : MapIs w' r ke ve l := by
 obtain ⟨es, clk, h1, h2⟩ := h
 exact ⟨es, clk, hc.obj hf h1, h2⟩
theorem MapIs.lt (h : MapIs w r ke ve l) : r < w.heap.size := by obtain ⟨es, clk, h1, _⟩ := h; exact lt_of_heap h1
theorem MapIs.new (w : World) : MapIs (w.alloc (.map #[] 0)) w.size ke ve ([] : List (K × V)) := ⟨#[], 0, heap_new w _, rfl, by simp, by simp, by simp⟩
def lookK (k : K) (l : List (K × V)) : Option V := (l.find? (fun p => p.1 = k)).map Prod.snd
theorem lookK_at {l : List (K × V)} (hn : (l.map Prod.fst).Nodup) {j : Nat} {k : K} {v : V} (h : l[j]? = some (k, v)) : lookK k l = some v := by
 induction l generalizing j with
 | nil => simp at h
 | cons p l ih =>
  simp only [List.map_cons, List.nodup_cons] at hn
  cases j with
  | zero => simp at h; subst h; simp [lookK]
  | succ j =>
   simp at h
   have hm : k ∈ l.map Prod.fst := List.mem_map.2 ⟨(k, v), List.mem_of_getElem? h, rfl⟩
   have hne : p.1 ≠ k := fun e => hn.1 (e ▸ hm)
   have := ih hn.2 h
   unfold lookK at this ⊢
   rw [List.find?_cons_of_neg (by simpa using hne)]; exact this
theorem find_at (hK : KeyT P kt ke) {es : Array MapEntry} (hn : (l.map Prod.fst).Nodup) (he : es.toList.map (fun (e : MapEntry) => (e.key, e.val)) = l.map (fun (p : K × V) => (ke p.1, ve p.2))) (k : K) :
  (lookK k l = none ∧ (∀ p ∈ l, p.1 ≠ k) ∧ (Instr.findKey kt (ke k) es.toList).run P w = .ok none w) ∨
  (∃ j v, lookK k l = some v ∧ l[j]? = some (k, v) ∧ (∃ e, es.toList[j]? = some e ∧ e.key = ke k) ∧ (Instr.findKey kt (ke k) es.toList).run P w = .ok (some (j, ve v)) w) := by
 have hkeys : ∀ x ∈ es.toList, ∃ a, x.key = ke a := fun x hx => by
  have hm : (x.key, x.val) ∈ l.map (fun (p : K × V) => (ke p.1, ve p.2)) := he ▸ List.mem_map.2 ⟨x, hx, rfl⟩
  obtain ⟨p, _, hp⟩ := List.mem_map.1 hm
  exact ⟨p.1, (congrArg Prod.fst hp).symm⟩
 have hget : ∀ (j : Nat) (e : MapEntry), es.toList[j]? = some e → ∃ p : K × V, l[j]? = some p ∧ e.key = ke p.1 ∧ e.val = ve p.2 := fun j e hj => by
  have h1 : (es.toList.map (fun (e : MapEntry) => (e.key, e.val)))[j]? = some (e.key, e.val) := by rw [List.getElem?_map, hj]; rfl
  rw [he, List.getElem?_map] at h1
  cases hl : l[j]? with
  | none => rw [hl] at h1; cases h1
  | some p => rw [hl] at h1; simp at h1; exact ⟨p, rfl, h1.1.symm, h1.2.symm⟩
 rcases hK.find w k es.toList hkeys with ⟨h1, h2⟩ | ⟨j, e, hj, hek, h2⟩
 ·left
  have hno : ∀ p ∈ l, p.1 ≠ k := fun p hp e => by
   have hm : (ke p.1, ve p.2) ∈ es.toList.map (fun (e : MapEntry) => (e.key, e.val)) := he ▸ List.mem_map.2 ⟨p, hp, rfl⟩
   obtain ⟨x, hx, hxe⟩ := List.mem_map.1 hm
   exact h1 x hx ((congrArg Prod.fst hxe).trans (by rw [e]))
  refine ⟨?_, hno, h2⟩
  unfold lookK
  rw [List.find?_eq_none.2 (by simpa using hno)]; rfl
 ·right
  obtain ⟨p, hp, hpk, hpv⟩ := hget j e hj
  have hk : p.1 = k := hK.inj _ _ (by rw [← hpk, hek])
  have h2' : (Instr.findKey kt (ke k) es.toList).run P w = .ok (some (j, ve p.2)) w := by rw [h2, hpv]
  have hl : l[j]? = some (k, p.2) := by rw [hp, ← hk]
  exact ⟨j, p.2, lookK_at hn hl, hl, ⟨e, hj, hek⟩, h2'⟩
theorem MapIs.lookup (h : MapIs w r ke ve l) (hm : P.underlying T = some (.map kt et)) (hK : KeyT P kt ke) {z : Value} (hz : ∀ w, (zeroValue et).run P w = .ok z w) (k : K) (ok : Bool) :
  (Instr.lookup T (.map (some r)) (ke k) ok).run P w = .ok (if ok then .tuple #[((lookK k l).map ve).getD z, .bool (lookK k l).isSome] else ((lookK k l).map ve).getD z) w := by
 obtain ⟨es, clk, hb, he, hn, _⟩ := h
 rcases find_at (w := w) hK hn he k with ⟨h1, _, h2⟩ | ⟨j, v, h1, _, _, h2⟩
 ·simp [Instr.lookup, run_underlying hm, MapKept.run_getObj_map hb, hK.check, h2, hz, h1, Result.andThen]
 ·simp [Instr.lookup, run_underlying hm, MapKept.run_getObj_map hb, hK.check, h2, h1, Result.andThen]
def upd (k : K) (v : V) (l : List (K × V)) : List (K × V) := if (lookK k l).isSome then l.map (fun p => if p.1 = k then (k, v) else p) else l ++ [(k, v)]
def del (k : K) (l : List (K × V)) : List (K × V) := l.filter (fun p => p.1 ≠ k)
theorem lookK_none {l : List (K × V)} {k : K} : lookK k l = none ↔ ∀ p ∈ l, p.1 ≠ k := by simp [lookK]
theorem lookK_mem {l : List (K × V)} {k : K} {v : V} (h : lookK k l = some v) : (k, v) ∈ l := by
 unfold lookK at h
 cases hf : l.find? (fun p => decide (p.1 = k)) with
 | none => rw [hf] at h; cases h
 | some p =>
  rw [hf] at h
  have h1 := List.find?_some hf
  have h2 := List.mem_of_find?_eq_some hf
  simp at h h1
  obtain ⟨a, b⟩ := p
  simp at h h1; subst h h1; exact h2
theorem lookK_iff {l : List (K × V)} (hn : (l.map Prod.fst).Nodup) {k : K} {v : V} : lookK k l = some v ↔ (k, v) ∈ l := by
 refine ⟨lookK_mem, fun h => ?_⟩
 obtain ⟨j, hj⟩ := List.getElem?_of_mem h
 exact lookK_at hn hj
theorem lookK_nil (k : K) : lookK k ([] : List (K × V)) = none := rfl
theorem lookK_cons (k : K) (p : K × V) (l : List (K × V)) : lookK k (p :: l) = if p.1 = k then some p.2 else lookK k l := by
 unfold lookK; simp only [List.find?_cons]; by_cases h : p.1 = k <;> simp [h]
theorem lookK_append (k : K) (l m : List (K × V)) : lookK k (l ++ m) = (lookK k l).or (lookK k m) := by
 induction l with
 | nil => simp [lookK_nil]
 | cons p l ih => simp only [List.cons_append, lookK_cons, ih]; split <;> simp
theorem lookK_upd (k k' : K) (v : V) (l : List (K × V)) : lookK k' (upd k v l) = if k' = k then some v else lookK k' l := by
 unfold upd
 by_cases hs : (lookK k l).isSome
 ·simp only [hs, if_true]
  have : ∀ (l : List (K × V)), lookK k' (l.map (fun p => if p.1 = k then (k, v) else p)) = if k' = k then (lookK k l).map (fun _ => v) else lookK k' l := by
   intro l
   induction l with
   | nil => simp [lookK_nil]
   | cons p l ih =>
    simp only [List.map_cons, lookK_cons, ih]
    by_cases h1 : p.1 = k <;> by_cases h2 : k' = k
    ·subst h2; simp [h1]
    ·simp [h1, h2, Ne.symm h2]
    ·subst h2; simp [h1]
    ·simp [h1, h2]
  rw [this]
  obtain ⟨u, hu⟩ := Option.isSome_iff_exists.1 hs
  simp [hu]
 ·have hs' : lookK k l = none := by simpa using hs
  simp only [hs', Option.isSome_none, Bool.false_eq_true, if_false]
  rw [lookK_append, lookK_cons, lookK_nil]
  by_cases h2 : k' = k
  ·subst h2; simp [hs']
  ·simp [h2, Ne.symm h2]
theorem lookK_del (k k' : K) (l : List (K × V)) : lookK k' (del k l) = if k' = k then none else lookK k' l := by
 induction l with
 | nil => simp [del, lookK_nil]
 | cons p l ih =>
  unfold del at ih ⊢
  by_cases h1 : p.1 = k
  ·rw [List.filter_cons_of_neg (by simpa using h1), ih, lookK_cons]
   by_cases h2 : k' = k
   ·simp [h2]
   ·have h3 : p.1 ≠ k' := fun e => h2 (e.symm.trans h1)
    simp [h2, h3]
  ·rw [List.filter_cons_of_pos (by simpa using h1), lookK_cons, lookK_cons, ih]
   by_cases h2 : k' = k
   ·simp [h2, h1]
   ·simp [h2]
theorem keys_upd (k : K) (v : V) (l : List (K × V)) : (upd k v l).map Prod.fst = if (lookK k l).isSome then l.map Prod.fst else l.map Prod.fst ++ [k] := by
 unfold upd
 split
 ·rw [List.map_map]; apply List.map_congr_left; intro p _; simp only [Function.comp]; split <;> simp_all
 ·simp
theorem nodup_upd {l : List (K × V)} (hn : (l.map Prod.fst).Nodup) (k : K) (v : V) : ((upd k v l).map Prod.fst).Nodup := by
 rw [keys_upd]
 split
 ·exact hn
 ·rename_i h
  rw [List.nodup_append]
  refine ⟨hn, by simp, fun a ha b hb e => ?_⟩
  simp at hb; subst hb; subst e
  obtain ⟨p, hp, hpe⟩ := List.mem_map.1 ha
  exact (lookK_none.1 (by simpa using h)) p hp hpe
theorem nodup_del {l : List (K × V)} (hn : (l.map Prod.fst).Nodup) (k : K) : ((del k l).map Prod.fst).Nodup := hn.sublist (List.filter_sublist.map _)
theorem MapIs.update (h : MapIs w r ke ve l) (hm : P.underlying T = some (.map kt et)) (hK : KeyT P kt ke) (k : K) (v : V) :
  ∃ w', (Instr.mapUpdate T (.map (some r)) (ke k) (ve v)).run P w = .ok () w' ∧ Chg [r] w w' ∧ w'.heap.size = w.heap.size ∧ MapIs w' r ke ve (upd k v l) := by
 obtain ⟨es, clk, hb, he, hn, hbn, hbd⟩ := h
 rcases find_at (w := w) hK hn he k with ⟨h1, h3, h2⟩ | ⟨j, v0, h1, hlj, ⟨e, hej, hek⟩, h2⟩
 ·refine ⟨{ w with heap := w.heap.setIfInBounds r (.map (es.push { key := ke k, val := ve v, born := clk }) (clk + 1)) }, by simp [Instr.mapUpdate, run_underlying hm, MapKept.run_getObj_map hb, hK.check, h2, MapKept.run_setObj_map _ hb, Result.andThen], Chg.put, by simp, _, _, (MapKept.heap_set hb).1, ?_, nodup_upd hn k v, ?_, ?_⟩
  ·simp [upd, h1, he]
  ·intro x hx
   simp only [Array.toList_push, List.mem_append, List.mem_singleton] at hx
   rcases hx with hx | rfl
   ·exact Nat.lt_succ_of_lt (hbn x hx)
   ·exact Nat.lt_succ_self _
  ·simp only [Array.toList_push, List.map_append, List.map_cons, List.map_nil]
   rw [List.nodup_append]
   refine ⟨hbd, by simp, fun a ha b hb e => ?_⟩
   simp at hb; subst hb; subst e
   obtain ⟨x, hx, hxe⟩ := List.mem_map.1 ha
   exact Nat.lt_irrefl _ (hxe ▸ hbn x hx)
 ·have hj : es[j]? = some e := by simpa using hej
  have hkeep : (Instr.keyThatStays (ke k) (ke k)).run P w = .ok (ke k) w := by simp [Instr.keyThatStays, hK.stays]
  have hb' : (es.modify j fun e => { e with key := ke k, val := ve v }).toList.map (·.born) = es.toList.map (·.born) := by
   rw [Array.toList_modify]
   refine List.ext_getElem? fun i => ?_
   simp only [List.getElem?_map, List.getElem?_modify]
   by_cases h : j = i <;> simp [h]
   cases es[i]? <;> rfl
  refine ⟨{ w with heap := w.heap.setIfInBounds r (.map (es.modify j fun e => { e with key := ke k, val := ve v }) clk) }, by simp [Instr.mapUpdate, run_underlying hm, MapKept.run_getObj_map hb, hK.check, h2, hj, hek, hkeep, MapKept.run_setObj_map _ hb, Result.andThen], Chg.put, by simp, _, _, (MapKept.heap_set hb).1, ?_, nodup_upd hn k v, ?_, ?_⟩
  ·have hup : upd k v l = l.map (fun p => if p.1 = k then (k, v) else p) := by simp [upd, h1]
   rw [hup, List.map_map, Array.toList_modify]
   refine List.ext_getElem? fun i => ?_
   have hi := congrArg (fun t : List (Value × Value) => t[i]?) he
   simp only [List.getElem?_map] at hi
   simp only [List.getElem?_map, List.getElem?_modify]
   by_cases hji : j = i
   ·subst hji
    simp [hlj, hej]
   ·simp only [hji, if_false]
    cases hl : l[i]? with
    | none => rw [hl] at hi; simpa [hl] using hi
    | some p =>
     have hpk : p.1 ≠ k := fun e => by
      have : (l.map Prod.fst)[i]? = (l.map Prod.fst)[j]? := by simp [hl, hlj, e]
      have hlt : i < (l.map Prod.fst).length := by
       have := (List.getElem?_eq_some_iff.1 hl).1
       simpa using this
      exact hji ((List.getElem?_inj hlt hn).1 this).symm
     rw [hl] at hi
     simpa [hl, hpk] using hi
  ·intro x hx
   have hm : x.born ∈ es.toList.map (·.born) := hb' ▸ List.mem_map.2 ⟨x, hx, rfl⟩
   obtain ⟨y, hy, hye⟩ := List.mem_map.1 hm
   exact hye ▸ hbn y hy
  ·rw [hb']; exact hbd
theorem MapIs.delete (h : MapIs w r ke ve l) (hm : P.underlying T = some (.map kt et)) (hK : KeyT P kt ke) (k : K) {ty : TypeId} :
  ∃ w', (Builtin.delete_ #[T, kt] ty #[.map (some r), ke k]).run P w = .ok (.tuple #[]) w' ∧ Chg [r] w w' ∧ w'.heap.size = w.heap.size ∧ MapIs w' r ke ve (del k l) := by
 obtain ⟨es, clk, hb, he, hn, hbn, hbd⟩ := h
 rcases find_at (w := w) hK hn he k with ⟨h1, h3, h2⟩ | ⟨j, v0, h1, hlj, ⟨e, hej, hek⟩, h2⟩
 ·refine ⟨{ w with heap := w.heap.setIfInBounds r (.map es clk) }, by simp [Builtin.delete_, run_underlying hm, MapKept.run_getObj_map hb, hK.check, h2, MapKept.run_setObj_map _ hb, Result.andThen], Chg.put, by simp, _, _, (MapKept.heap_set hb).1, ?_, nodup_del hn k, hbn, hbd⟩
  rw [he]
  have : del k l = l := by unfold del; exact List.filter_eq_self.2 (by simpa using h3)
  rw [this]
 ·have hjlt : j < es.size := by simpa using (List.getElem?_eq_some_iff.1 hej).1
  have het : (es.eraseIdxIfInBounds j).toList = es.toList.eraseIdx j := by
   unfold Array.eraseIdxIfInBounds
   simp [hjlt, Array.toList_eraseIdx]
  refine ⟨{ w with heap := w.heap.setIfInBounds r (.map (es.eraseIdxIfInBounds j) clk) }, by simp [Builtin.delete_, run_underlying hm, MapKept.run_getObj_map hb, hK.check, h2, MapKept.run_setObj_map _ hb, Result.andThen], Chg.put, by simp, _, _, (MapKept.heap_set hb).1, ?_, nodup_del hn k, ?_, ?_⟩
  ·rw [het]
   have hd : del k l = l.eraseIdx j := by
    clear he hbn hbd hek hej h2 hjlt het hb h1
    unfold del
    induction l generalizing j with
    | nil => simp at hlj
    | cons p l ih =>
     simp only [List.map_cons, List.nodup_cons] at hn
     cases j with
     | zero =>
      simp at hlj; subst hlj
      rw [List.filter_cons_of_neg (by simp)]
      simp only [List.eraseIdx_cons_zero]
      refine List.filter_eq_self.2 fun q hq => ?_
      simp only [ne_eq, decide_not, Bool.not_eq_eq_eq_not, Bool.not_true, decide_eq_false_iff_not]
      intro e; exact hn.1 (List.mem_map.2 ⟨q, hq, e⟩)
     | succ j =>
      simp at hlj
      have hm : k ∈ l.map Prod.fst := List.mem_map.2 ⟨(k, v0), List.mem_of_getElem? hlj, rfl⟩
      have hne : p.1 ≠ k := fun e => hn.1 (e ▸ hm)
      rw [List.filter_cons_of_pos (by simpa using hne), List.eraseIdx_cons_succ, ih hn.2 j hlj]
   rw [hd]
   have h5 : ∀ {α β : Type} (f : α → β) (m : List α) (i : Nat), (m.eraseIdx i).map f = (m.map f).eraseIdx i := by
    intro α β f m
    induction m with
    | nil => intro i; rfl
    | cons x m ih => intro i; cases i <;> simp [ih]
   rw [h5, h5, he]
  ·intro x hx
   rw [het] at hx
   exact hbn x ((List.eraseIdx_sublist _ _).subset hx)
  ·rw [het]; exact hbd.sublist ((List.eraseIdx_sublist _ _).map _)
end
end Go.X
end
section
/- The shelf's contract of strconv.Itoa at this seat (laid by the kit's lay-plain). -/
namespace Go.Proofs.YtfcfkhbkkfpehaaGreatDoor
open Go Go.Shelf Go.X
def itoaL_ren : Go.Shelf.Ren := ⟨fun | 171 => 44 | 243 => 64 | 246 => 88 | 283 => 106 | 284 => 107 | 285 => 108 | 286 => 109 | 129 => 102 | 317 => 119 | 318 => 120 | 319 => 121 | 320 => 122 | 337 => 126 | 338 => 127 | n => n, fun | 3 => 3 | 9 => 9 | 2 => 2 | 4 => 4 | 171 => 188 | 0 => 0 | 53 => 184 | 37 => 190 | 5 => 5 | 173 => 191 | 212 => 203 | 51 => 43 | 20 => 20 | 213 => 204 | 46 => 163 | 232 => 216 | 233 => 217 | n => n, fun | 17 => 0 | 18 => 1 | 19 => 2 | n => n⟩
theorem itoaL : Go.Proofs.LaysM.n171 Tryz.prog itoaL_ren := {
 mixed := by kernel_rfl
 f129 := Tryz.func102.trans (congrArg some (by kernel_rfl))
 f171 := Tryz.func44.trans (congrArg some (by kernel_rfl))
 f243 := Tryz.func64.trans (congrArg some (by kernel_rfl))
 f246 := Tryz.func88.trans (congrArg some (by kernel_rfl))
 f283 := Tryz.func106.trans (congrArg some (by kernel_rfl))
 f284 := Tryz.func107.trans (congrArg some (by kernel_rfl))
 f285 := Tryz.func108.trans (congrArg some (by kernel_rfl))
 f286 := Tryz.func109.trans (congrArg some (by kernel_rfl))
 f317 := Tryz.func119.trans (congrArg some (by kernel_rfl))
 f318 := Tryz.func120.trans (congrArg some (by kernel_rfl))
 f319 := Tryz.func121.trans (congrArg some (by kernel_rfl))
 f320 := Tryz.func122.trans (congrArg some (by kernel_rfl))
 f337 := Tryz.func126.trans (congrArg some (by kernel_rfl))
 f338 := Tryz.func127.trans (congrArg some (by kernel_rfl))
 t0 := Tryz.underlying0
 a0 := Tryz.isAgg0
 z0 := Tryz.sizeOf0
 v0 := Tryz.zeroValue0
 t2 := Tryz.underlying2
 a2 := Tryz.isAgg2
 z2 := Tryz.sizeOf2
 v2 := Tryz.zeroValue2
 t3 := Tryz.underlying3
 a3 := Tryz.isAgg3
 z3 := Tryz.sizeOf3
 v3 := Tryz.zeroValue3
 t4 := Tryz.underlying4
 a4 := Tryz.isAgg4
 z4 := Tryz.sizeOf4
 v4 := Tryz.zeroValue4
 t5 := Tryz.underlying5
 a5 := Tryz.isAgg5
 z5 := Tryz.sizeOf5
 v5 := Tryz.zeroValue5
 t9 := Tryz.underlying9
 a9 := Tryz.isAgg9
 z9 := Tryz.sizeOf9
 v9 := Tryz.zeroValue9
 t20 := Tryz.underlying20
 a20 := Tryz.isAgg20
 z20 := Tryz.sizeOf20
 v20 := Tryz.zeroValue20
 t37 := Tryz.underlying190
 a37 := Tryz.isAgg190
 z37 := Tryz.sizeOf190
 v37 := Tryz.zeroValue190
 t46 := Tryz.underlying163
 a46 := Tryz.isAgg163
 z46 := Tryz.sizeOf163
 v46 := Tryz.zeroValue163
 t51 := Tryz.underlying43
 a51 := Tryz.isAgg43
 z51 := Tryz.sizeOf43
 v51 := Tryz.zeroValue43
 t53 := Tryz.underlying184
 a53 := Tryz.isAgg184
 z53 := Tryz.sizeOf184
 v53 := Tryz.zeroValue184
 t171 := Tryz.underlying188
 a171 := Tryz.isAgg188
 z171 := Tryz.sizeOf188
 v171 := Tryz.zeroValue188
 t173 := Tryz.underlying191
 a173 := Tryz.isAgg191
 z173 := Tryz.sizeOf191
 v173 := Tryz.zeroValue191
 t212 := Tryz.underlying203
 a212 := Tryz.isAgg203
 z212 := Tryz.sizeOf203
 v212 := Tryz.zeroValue203
 t213 := Tryz.underlying204
 a213 := Tryz.isAgg204
 z213 := Tryz.sizeOf204
 t232 := Tryz.underlying216
 a232 := Tryz.isAgg216
 z232 := Tryz.sizeOf216
 v232 := Tryz.zeroValue216
 t233 := Tryz.underlying217
 a233 := Tryz.isAgg217
 z233 := Tryz.sizeOf217
 v233 := Tryz.zeroValue217
 g17 := by kernel_rfl
 g18 := by kernel_rfl
 g19 := by kernel_rfl
 i0 := by kernel_rfl
 i2 := by kernel_rfl
 i3 := by kernel_rfl
 i4 := by kernel_rfl
 i5 := by kernel_rfl
 i9 := by kernel_rfl
 i20 := by kernel_rfl
 i37 := by kernel_rfl
 i46 := by kernel_rfl
 i51 := by kernel_rfl
 i53 := by kernel_rfl
 i171 := by kernel_rfl
 i173 := by kernel_rfl
 i212 := by kernel_rfl
 i232 := by kernel_rfl
 i233 := by kernel_rfl
 m17 := by kernel_rfl
 m18 := by kernel_rfl
 m19 := by kernel_rfl }
theorem itoa_ok (n : Int) (h0 : -9223372036854775808 ≤ n) (h1 : n ≤ 9223372036854775807) (w : World) (htab : Lib.TabIs Tryz.prog w "internal/strconv.uint64pow10" .u64 Lib.pow10Tab) :
  Calls Tryz.prog 44 #[.int .i64 n] w fun e w' => ∃ r : ByteArray, e = .returned (.string r) ∧ (r = ⟨(Lib.itoa n).toArray⟩ ∧ Chg [] w w') := by
 refine (Any.strconv_Itoa itoaL n h0 h1 w htab).mono ?_
 rintro e w' ⟨rfl, k, os, rfl⟩
 refine ⟨_, rfl, rfl, rfl, rfl, rfl, by simp, fun b hb _ => ?_⟩
 rw [Sort.heap_grow_old _ _ (by simpa using hb)]
 rfl
end Go.Proofs.YtfcfkhbkkfpehaaGreatDoor
end
section
/- Entries of maps: Instr.mapEntry, Instr.entryStore over a map as a list. -/
namespace Go.X
open Go Go.RowKit
def EntryAt (w : World) (r : Nat) {K V : Type} (ke : K → Value) (ve : V → Value) (l : List (K × V)) (k : K) (s : Nat) : Prop :=
 ∃ es clk, w.heap[r]? = some (.map es clk) ∧ es.toList.map (fun (e : MapEntry) => (e.key, e.val)) = l.map (fun (p : K × V) => (ke p.1, ve p.2)) ∧ (l.map Prod.fst).Nodup ∧
  (∀ e ∈ es.toList, e.born < clk) ∧ (es.toList.map (·.born)).Nodup ∧ ∃ (j : Nat) (v : V), l[j]? = some (k, v) ∧ ∃ e : MapEntry, es[j]? = some e ∧ e.born = s ∧ e.key = ke k
section
variable {P : Program} {K V : Type} [DecidableEq K] {ke : K → Value} {ve : V → Value} {kt et T : TypeId} {w : World} {r : Nat} {l : List (K × V)} {k : K} {s : Nat}
theorem EntryAt.chg {f : List Nat} {w' : World} (h : EntryAt w r ke ve l k s) (hc : Chg f w w') (hf : r ∉ f) : EntryAt w' r ke ve l k s := by
 obtain ⟨es, clk, h1, h2⟩ := h
 exact ⟨es, clk, hc.obj hf h1, h2⟩
theorem EntryAt.map (h : EntryAt w r ke ve l k s) : MapIs w r ke ve l := by
 obtain ⟨es, clk, h1, h2, h3, h4, h5, _⟩ := h
 exact ⟨es, clk, h1, h2, h3, h4, h5⟩
theorem upd_same {v : V} (hn : (l.map Prod.fst).Nodup) (h : lookK k l = some v) : upd k v l = l := by
 unfold upd
 rw [if_pos (by rw [h]; rfl)]
 have : ∀ p ∈ l, (if p.1 = k then (k, v) else p) = p := fun p hp => by
  split
  ·rename_i e
   subst e
   have h2 := (lookK_iff hn (k := p.1) (v := p.2)).2 hp
   rw [h] at h2
   cases h2; rfl
  ·rfl
 exact (List.map_congr_left this).trans (List.map_id' l)
theorem MapIs.entry (h : MapIs w r ke ve l) (hm : P.underlying T = some (.map kt et)) (hK : KeyT P kt ke) {z : V} (hz : ∀ w, (zeroValue et).run P w = .ok (ve z) w) (k : K) :
  ∃ (s : Nat) (w' : World), (Instr.mapEntry T (.map (some r)) (ke k)).run P w = .ok (.tuple #[ve ((lookK k l).getD z), goInt s]) w' ∧ Chg [r] w w' ∧ w'.heap.size = w.heap.size ∧ EntryAt w' r ke ve (upd k ((lookK k l).getD z) l) k s := by
 obtain ⟨es, clk, hb, he, hn, hbn, hbd⟩ := h
 have hsz : es.size = l.length := by have := congrArg List.length he; simpa using this
 rcases find_at (w := w) hK hn he k with ⟨h1, h3, h2⟩ | ⟨j, v0, h1, hlj, ⟨e, hej, hek⟩, h2⟩
 ·refine ⟨clk, { w with heap := w.heap.setIfInBounds r (.map (es.push { key := ke k, val := ve z, born := clk }) (clk + 1)) }, by simp [Instr.mapEntry, run_underlying hm, MapKept.run_getObj_map hb, hK.check, h2, hz, h1, MapKept.run_setObj_map _ hb, Result.andThen], Chg.put, by simp, _, _, (MapKept.heap_set hb).1, ?_, nodup_upd hn k _, ?_, ?_, ?_⟩
  ·simp [upd, h1, he]
  ·intro x hx
   simp only [Array.toList_push, List.mem_append, List.mem_singleton] at hx
   rcases hx with hx | rfl
   ·exact Nat.lt_succ_of_lt (hbn x hx)
   ·exact Nat.lt_succ_self _
  ·simp only [Array.toList_push, List.map_append, List.map_cons, List.map_nil]
   rw [List.nodup_append]
   refine ⟨hbd, by simp, fun a ha b hb e => ?_⟩
   simp at hb; subst hb; subst e
   obtain ⟨x, hx, hxe⟩ := List.mem_map.1 ha
   exact Nat.lt_irrefl _ (hxe ▸ hbn x hx)
  ·refine ⟨l.length, z, ?_, { key := ke k, val := ve z, born := clk }, ?_, rfl, rfl⟩
   ·simp [upd, h1]
   ·rw [← hsz]; simp
 ·have hj : es[j]? = some e := by simpa using hej
  have hkeep : (Instr.keyThatStays (ke k) (ke k)).run P w = .ok (ke k) w := by simp [Instr.keyThatStays, hK.stays]
  have hsame : es.modify j (fun e => { e with key := ke k }) = es := by
   apply Array.ext'
   rw [Array.toList_modify]
   refine List.ext_getElem? fun i => ?_
   rw [List.getElem?_modify]
   by_cases h : j = i
   ·subst h
    simp only [if_true, hej, Option.map_eq_map, Option.map_some]
    rw [← hek]
   ·simp [h]
  refine ⟨e.born, { w with heap := w.heap.setIfInBounds r (.map es clk) }, by simp [Instr.mapEntry, run_underlying hm, MapKept.run_getObj_map hb, hK.check, h2, hj, hek, hkeep, h1, hsame, MapKept.run_setObj_map _ hb, Result.andThen], Chg.put, by simp, ?_⟩
  rw [h1, Option.getD_some, upd_same hn h1]
  exact ⟨es, clk, (MapKept.heap_set hb).1, he, hn, hbn, hbd, j, v0, hlj, e, hj, rfl, hek⟩
theorem EntryAt.store (h : EntryAt w r ke ve l k s) (v : V) : ∃ w', (Instr.entryStore T (.map (some r)) (goInt s) (ve v)).run P w = .ok () w' ∧ Chg [r] w w' ∧ w'.heap.size = w.heap.size ∧ MapIs w' r ke ve (upd k v l) := by
 obtain ⟨es, clk, hb, he, hn, hbn, hbd, j, v0, hlj, e, hj, hs, hek⟩ := h
 have hfi : es.findIdx? (fun e => (e.born : Int) == (s : Int)) = some j := by
  have hjl : j < es.size := by
   rw [Array.getElem?_eq_some_iff] at hj
   exact hj.1
  have hje : es[j] = e := by rw [Array.getElem?_eq_some_iff] at hj; exact hj.2
  rw [Array.findIdx?_eq_some_iff_getElem]
  refine ⟨hjl, by rw [hje, hs]; simp, fun i hi => ?_⟩
  have hil : i < es.size := by omega
  simp only [beq_iff_eq, Bool.not_eq_true', beq_eq_false_iff_ne, ne_eq]
  intro hc
  have e1 : (es.toList.map (·.born))[i]? = (es.toList.map (·.born))[j]? := by
   rw [List.getElem?_map, List.getElem?_map]
   have hi' : es.toList[i]? = some es[i] := by simp [hil]
   have hj' : es.toList[j]? = some e := by simpa using hj
   rw [hi', hj']
   simp only [Option.map_some]
   congr 1
   omega
  have := (List.getElem?_inj (by simpa using hil) hbd).1 e1
  omega
 have hej : es.toList[j]? = some e := by simpa using hj
 have h1 := lookK_at hn hlj
 have hb' : (es.modify j fun e => { e with val := ve v }).toList.map (·.born) = es.toList.map (·.born) := by
  rw [Array.toList_modify]
  refine List.ext_getElem? fun i => ?_
  simp only [List.getElem?_map, List.getElem?_modify]
  by_cases h : j = i <;> simp [h]
  cases es[i]? <;> rfl
 refine ⟨{ w with heap := w.heap.setIfInBounds r (.map (es.modify j fun e => { e with val := ve v }) clk) }, by simp [Instr.entryStore, MapKept.run_getObj_map hb, asInt, asIntOf, goInt, hfi, MapKept.run_setObj_map _ hb, Result.andThen], Chg.put, by simp, _, _, (MapKept.heap_set hb).1, ?_, nodup_upd hn k v, ?_, ?_⟩
 ·have hup : upd k v l = l.map (fun p => if p.1 = k then (k, v) else p) := by simp [upd, h1]
  rw [hup, List.map_map, Array.toList_modify]
  refine List.ext_getElem? fun i => ?_
  have hi := congrArg (fun t : List (Value × Value) => t[i]?) he
  simp only [List.getElem?_map] at hi
  simp only [List.getElem?_map, List.getElem?_modify]
  by_cases hji : j = i
  ·subst hji
   simp [hlj, hej, hek]
  ·simp only [hji, if_false]
   cases hl : l[i]? with
   | none => rw [hl] at hi; simpa [hl] using hi
   | some p =>
    have hpk : p.1 ≠ k := fun e => by
     have : (l.map Prod.fst)[i]? = (l.map Prod.fst)[j]? := by simp [hl, hlj, e]
     have hlt : i < (l.map Prod.fst).length := by
      have := (List.getElem?_eq_some_iff.1 hl).1
      simpa using this
     exact hji ((List.getElem?_inj hlt hn).1 this).symm
    rw [hl] at hi
    simpa [hl, hpk] using hi
 ·intro x hx
  have hm : x.born ∈ es.toList.map (·.born) := hb' ▸ List.mem_map.2 ⟨x, hx, rfl⟩
  obtain ⟨y, hy, hye⟩ := List.mem_map.1 hm
  exact hye ▸ hbn y hy
 ·rw [hb']; exact hbd
end
end Go.X
end
section
/- Rows that one owns, appends to them; rules for what the printed conditions say at each step. -/
namespace Go.X
open Go Go.RowKit
def RowAt (w : World) (e : TypeId) (size : Nat) (p : Option Addr) (n c : Nat) (xs : List Value) : Prop := w.ownsRow 0 e size (.slice p n c) n xs
def rowB (p : Option Addr) : List Nat := p.toList.map (·.block)
section
variable {P : Program} {w w' : World} {e : TypeId} {size n c : Nat} {p : Option Addr} {xs : List Value}
theorem mem_rowB {p : Option Addr} {b : Nat} : b ∈ rowB p ↔ ∃ a, p = some a ∧ a.block = b := by cases p <;> simp [rowB, eq_comm]
theorem rowB_nodup (p : Option Addr) : (rowB p).Nodup := by cases p <;> simp [rowB]
theorem RowAt.lt (h : RowAt w e size p n c xs) : ∀ b ∈ rowB p, b < w.heap.size := by
 intro b hb
 obtain ⟨a, rfl, rfl⟩ := mem_rowB.1 hb
 exact (World.ownsRow.lt h _ rfl).2
theorem RowAt.chg {f : List Nat} (h : RowAt w e size p n c xs) (hc : Chg f w w') (hf : ∀ b ∈ rowB p, b ∉ f) : RowAt w' e size p n c xs := by
 refine ⟨h.1, ?_⟩
 rcases h.2 with hn | ⟨g, cap, cur, hv, hb, hg, rest⟩
 ·exact .inl hn
 ·cases hv
  exact .inr ⟨g, c, cur, rfl, hb, hc.obj (hf g (mem_rowB.2 ⟨_, rfl, rfl⟩)) hg, rest⟩
theorem RowAt.nil : RowAt w e size none 0 0 [] := World.ownsRow_nil w 0 e size
theorem RowAt.of_heap {b : Nat} {cs : List Value} (hb : w.heap[b]? = some (.cells cs.toArray e (0, 0))) (hs : cs.length = n * size) (hn : n ≤ maxLen) : RowAt w e size (some ⟨b, 0, none⟩) n n cs :=
 ⟨hs, .inr ⟨b, n, cs.toArray, rfl, Nat.zero_le _, hb, Nat.le_refl _, hn, by simpa using hs, by simp [← hs]⟩⟩
theorem RowAt.length (h : RowAt w e size p n c xs) : xs.length = n * size := h.1
theorem RowAt.at (h : RowAt w e size p n c xs) {j : Nat} {u : Value} (hj : xs[j]? = some u) : ∃ a, p = some a ∧ w.cell? (a.add j) = some u := by
 rcases h.2 with ⟨hn, hz⟩ | ⟨g, cap, cur, hv, hb, hg, rest⟩
 ·have : xs = [] := List.eq_nil_of_length_eq_zero (by rw [h.1, hz]; simp)
  simp [this] at hj
 ·cases hv
  exact ⟨_, rfl, World.ownsRow.cells (h : World.ownsRow w 0 e size _ n xs) rfl j u hj⟩
theorem RowAt.append (h : RowAt w e size p n c xs) {t ty : TypeId} {i : TypeInfo} {z : Value} {bytes : Nat} (ht : P.underlying t = some (.slice e)) (hi : P.info? e = some i) (hz : i.zero = some z)
  (hsize : i.size = size) (hby : i.bytes = bytes) (hzs : z.cells.size = size) (hsz : 0 < size)
  {a : Addr} {m mc : Nat} {news : List Value} (hl : news.length = m * size) (hnews : ∀ j u, news[j]? = some u → w.cell? (a.add j) = some u) (h1 : ∀ u ∈ news, u.oneCell' = true)
  (h63 : n + m ≤ maxLen) (hbytes : (n + m) * bytes ≤ 140737488355328) :
  ∃ p' c' w', (Builtin.append_ #[t, t] ty #[.slice p n c, .slice (some a) m mc]).run P w = .ok (.slice p' (n + m) c') w' ∧ RowAt w' e size p' (n + m) c' (xs ++ news) ∧ Chg (rowB p) w w' ∧
   (∀ b ∈ rowB p', b ∈ rowB p ∨ w.heap.size ≤ b) := by
 obtain ⟨v', w', hr, ho, hg, hnil⟩ := run_append_own (P := P) w 0 t ty e i z size bytes ht hi hz hsize hby hzs hsz (.slice p n c) n xs h a m mc news hl hnews h1 h63 hbytes (Nat.zero_le _)
 have hchg : Chg (rowB p) w w' := ⟨hg.os, hg.tape, hg.output, hg.size, fun k hk hf => hg.block k hk (fun he => hf (by
  cases p with
  | none => simp [Value.ownBlock] at he
  | some q => simp [Value.ownBlock] at he; simp [rowB, he]))⟩
 rcases ho.2 with ⟨hv, hz0⟩ | ⟨g, cap, cur, hv, hb, hgg, rest⟩
 ·subst hv
  refine ⟨none, 0, w', by rw [hr, hz0], ?_, hchg, by simp [rowB]⟩
  rw [hz0] at ho ⊢; exact ho
 ·subst hv
  refine ⟨some ⟨g, 0, none⟩, cap, w', hr, ho, hchg, fun b hb => ?_⟩
  simp [rowB] at hb; subst hb
  rcases h.2 with ⟨hv, hn0⟩ | ⟨g', cap', cur', hv, _, hgg', hnc, hcm, hcs, htake⟩
  ·right
   cases hv
   obtain ⟨v2, w2, hr2, ho2, _, _⟩ := run_append_own (P := P) w w.heap.size t ty e i z size bytes ht hi hz hsize hby hzs hsz (.slice none 0 0) 0 xs ⟨h.1, .inl ⟨rfl, rfl⟩⟩ a m mc news hl hnews h1 (by omega) (by simpa using hbytes) (Nat.le_refl _)
   rw [hr] at hr2
   cases hr2
   rcases ho2.2 with ⟨hv2, _⟩ | ⟨g2, _, _, hv2, hb2, _⟩
   ·cases hv2
   ·cases hv2; exact hb2
  ·cases hv
   by_cases hroom : n + m ≤ c
   ·left
    have hfit : n * i.size + news.length ≤ cur'.size := by rw [hl, hcs, hsize, ← Nat.add_mul]; exact Nat.mul_le_mul_right _ hroom
    have hr2 := run_append_room (P := P) w t ty e i ht hi g' n c cur' hgg' a m mc news (by rw [hsize]; exact hl) hnews h1 hroom hfit
    rw [hr] at hr2
    cases hr2
    simp [rowB]
   ·right
    have holds : ∀ j u, xs[j]? = some u → w.cell? ((⟨g', 0, none⟩ : Addr).add j) = some u := World.ownsRow.cells (h : World.ownsRow w 0 e size _ n xs) rfl
    have hr2 := run_append_grow (P := P) w t ty e i z ht hi hz ⟨g', 0, none⟩ n c xs (by rw [hsize]; exact h.1) holds a m mc news (by rw [hsize]; exact hl) hnews (by omega)
     (by simp only [maxLen] at h63; omega) (growslice_fits (by omega) (by rw [hby]; exact hbytes))
    rw [hr] at hr2
    cases hr2
    exact Nat.le_refl _
end
/-! ### Steps of the printed conditions -/
theorem v_alloc {w : World} {o : Obj} {K : Nat → World → Prop} (h : ∀ b w', b = w.heap.size → w'.heap[b]? = some o → Chg [] w w' → K b w') :
  ∀ b, b = World.size w → ∀ w1, w1 = World.alloc w o → K b w1 := by
 rintro b rfl w1 rfl
 exact h _ _ rfl (heap_new w o) (Chg.alloc w o)
theorem v_drew {w : World} {K : World → Prop} (h : ∀ w', Chg [] w w' → K w') : ∀ w1, w1 = World.drew w → K w1 := by rintro _ rfl; exact h _ (Chg.drew w)
theorem has_of {w : World} {b : Nat} {c : Array Value} {t : TypeId} (h : w.heap[b]? = some (.cells c t (0, 0))) {o n : Nat} (hn : o + n ≤ c.size) : Has w ⟨b, o, none⟩ n := by
 intro i hi
 rw [add_at, cell_of h, Array.getElem?_eq_getElem (by omega)]
 rfl
theorem free_of' {w : World} {b : Nat} {c : Array Value} {t : TypeId} (h : w.heap[b]? = some (.cells c t (0, 0))) {o n : Nat} : Free w ⟨b, o, none⟩ n := by
 intro i hi
 rw [add_at, free_of h]
theorem setCells_all {b : Nat} {t : TypeId} {w : World} {zs vs : List Value} (hl : zs.length = vs.length) (h : w.heap[b]? = some (.cells zs.toArray t (0, 0))) :
  (setCells w ⟨b, 0, none⟩ 0 vs).heap[b]? = some (.cells vs.toArray t (0, 0)) := by
 rw [setCells_heap vs 0 w _ h]
 congr 2
 have : ∀ (vs pre zs : List Value), zs.length = vs.length → ((vs.zipIdx pre.length).foldl (fun c (x : Value × Nat) => c.setIfInBounds (0 + 0 + x.2) x.1) (pre ++ zs).toArray) = (pre ++ vs).toArray := by
  intro vs
  induction vs with
  | nil => intro pre zs h; simp at h; simp [h]
  | cons v vs ih =>
   intro pre zs h
   cases zs with
   | nil => simp at h
   | cons z zs =>
    simp only [List.zipIdx_cons, List.foldl_cons]
    have e1 : ((pre ++ z :: zs).toArray.setIfInBounds (0 + 0 + pre.length) v) = ((pre ++ [v]) ++ zs).toArray := by
     simp
    rw [e1]
    have := ih (pre ++ [v]) zs (by simpa using h)
    simpa using this
 simpa using this vs [] zs hl
theorem setCells_mid {b : Nat} {t : TypeId} {w : World} {pre zs post vs : List Value} (hl : zs.length = vs.length) (h : w.heap[b]? = some (.cells (pre ++ zs ++ post).toArray t (0, 0))) :
  (setCells w ⟨b, pre.length, none⟩ 0 vs).heap[b]? = some (.cells (pre ++ vs ++ post).toArray t (0, 0)) := by
 rw [setCells_heap vs 0 w _ h]
 congr 2
 have : ∀ (vs mid zs : List Value), zs.length = vs.length → ((vs.zipIdx mid.length).foldl (fun c (x : Value × Nat) => c.setIfInBounds (pre.length + 0 + x.2) x.1) (pre ++ (mid ++ zs) ++ post).toArray) = (pre ++ (mid ++ vs) ++ post).toArray := by
  intro vs
  induction vs with
  | nil => intro mid zs h; simp at h; simp [h]
  | cons v vs ih =>
   intro mid zs h
   cases zs with
   | nil => simp at h
   | cons z zs =>
    simp only [List.zipIdx_cons, List.foldl_cons]
    have e1 : ((pre ++ (mid ++ z :: zs) ++ post).toArray.setIfInBounds (pre.length + 0 + mid.length) v) = (pre ++ ((mid ++ [v]) ++ zs) ++ post).toArray := by
     have e2 : pre.length + 0 + mid.length = (pre ++ mid).length := by simp
     rw [e2, show pre ++ (mid ++ z :: zs) ++ post = (pre ++ mid) ++ z :: (zs ++ post) by simp, List.setIfInBounds_toArray, List.set_append_right _ _ (Nat.le_refl _)]
     simp
    rw [e1]
    have := ih (mid ++ [v]) zs (by simpa using h)
    simpa using this
 simpa using this vs [] zs hl
theorem v_fillAt {w : World} {b o n : Nat} {T : TypeId} {pre zs post vs : List Value} (h : w.heap[b]? = some (.cells (pre ++ zs ++ post).toArray T (0, 0))) (ho : o = pre.length) (hl : zs.length = vs.length) (hn : n = zs.length) {K : World → Prop}
  (hk : ∀ w', w'.heap[b]? = some (.cells (pre ++ vs ++ post).toArray T (0, 0)) → Chg [b] w w' → w'.heap.size = w.heap.size → K w') :
  Has w (⟨b, o, none⟩ : Addr) n ∧ Free w (⟨b, o, none⟩ : Addr) n ∧ ∀ w', w' = setCells w (⟨b, o, none⟩ : Addr) 0 vs → K w' := by
 subst ho
 refine ⟨has_of h (by simp [hn]), free_of' h, ?_⟩
 rintro w' rfl
 have hsz : ∀ (vs : List Value) (i : Nat) (w : World), (setCells w ⟨b, pre.length, none⟩ i vs).heap.size = w.heap.size := by
  intro vs
  induction vs with
  | nil => intro i w; rfl
  | cons v vs ih => intro i w; simp only [setCells]; rw [ih]; simp [World.setCell]
 exact hk _ (setCells_mid hl h) (Chg.setCells ⟨b, pre.length, none⟩ vs 0 w) (hsz _ _ _)
theorem v_fill {w : World} {b n : Nat} {T : TypeId} {zs vs : List Value} (h : w.heap[b]? = some (.cells zs.toArray T (0, 0))) (hl : zs.length = vs.length) (hn : n = zs.length) {K : World → Prop}
  (hk : ∀ w', w'.heap[b]? = some (.cells vs.toArray T (0, 0)) → Chg [b] w w' → w'.heap.size = w.heap.size → K w') :
  Has w (⟨b, 0, none⟩ : Addr) n ∧ Free w (⟨b, 0, none⟩ : Addr) n ∧ ∀ w', w' = setCells w (⟨b, 0, none⟩ : Addr) 0 vs → K w' :=
 v_fillAt (pre := []) (post := []) (by simpa using h) rfl hl hn (by simpa using hk)
theorem v_box {w : World} {T : TypeId} {zs vs : List Value} {n : Nat} (hl : zs.length = vs.length) (hn : n = zs.length) {K : Nat → World → Prop}
  (h : ∀ b w', b = w.heap.size → w'.heap[b]? = some (.cells vs.toArray T (0, 0)) → Chg [] w w' → K b w') :
  ∀ b, b = World.size w → ∀ w1, w1 = World.alloc w (.cells zs.toArray T) → Has w1 (⟨b, 0, none⟩ : Addr) n ∧ Free w1 (⟨b, 0, none⟩ : Addr) n ∧ ∀ w2, w2 = setCells w1 (⟨b, 0, none⟩ : Addr) 0 vs → K b w2 := by
 rintro b rfl w1 rfl
 have hb := heap_new w (.cells zs.toArray T)
 refine ⟨has_of hb (by simp [hn]), free_of' hb, ?_⟩
 rintro w2 rfl
 refine h _ _ rfl (setCells_all hl hb) ?_
 exact (Chg.alloc w _).trans (Chg.setCells ⟨w.size, 0, none⟩ vs 0 _) (by
  intro i hi hlt
  simp at hi; subst hi
  exact absurd hlt (Nat.lt_irrefl _))
theorem cellsAt_of {w : World} {b : Nat} {t : TypeId} {fr : Nat × Nat} {cs : List Value} (h : w.heap[b]? = some (.cells cs.toArray t fr)) : CellsAt w ⟨b, 0, none⟩ 0 cs := by
 have : ∀ (pre cs : List Value), w.heap[b]? = some (.cells (pre ++ cs).toArray t fr) → CellsAt w ⟨b, 0, none⟩ pre.length cs := by
  intro pre cs
  induction cs generalizing pre with
  | nil => intro _; trivial
  | cons c cs ih =>
   intro h
   refine ⟨by rw [add_at, cell_of h]; simp, ?_⟩
   have := ih (pre ++ [c]) (by simpa using h)
   simpa using this
 exact this [] cs h
theorem v_set {w : World} {b o i : Nat} {c : Array Value} {t : TypeId} {v : Value} (h : w.heap[b]? = some (.cells c t (0, 0))) (hi : o + i < c.size) {K : World → Prop}
  (hk : ∀ w', w'.heap[b]? = some (.cells (c.setIfInBounds (o + i) v) t (0, 0)) → Chg [b] w w' → w'.heap.size = w.heap.size → K w') :
  (∃ u : Value, w.cell? ((⟨b, o, none⟩ : Addr).add i) = some u) ∧ w.frozen? ((⟨b, o, none⟩ : Addr).add i) = false ∧ ∀ w7, w7 = World.setCell w ((⟨b, o, none⟩ : Addr).add i) v → K w7 := by
 rw [add_at]
 refine ⟨⟨_, by rw [cell_of h, Array.getElem?_eq_getElem hi]⟩, free_of h _, ?_⟩
 rintro w7 rfl
 exact hk _ (set_heap h v) (Chg.setCell w ⟨b, o + i, none⟩ v) (by simp [World.setCell])
theorem v_set0 {w : World} {b o : Nat} {c : Array Value} {t : TypeId} {v : Value} (h : w.heap[b]? = some (.cells c t (0, 0))) (hi : o < c.size) {K : World → Prop}
  (hk : ∀ w', w'.heap[b]? = some (.cells (c.setIfInBounds o v) t (0, 0)) → Chg [b] w w' → w'.heap.size = w.heap.size → K w') :
  (∃ u : Value, w.cell? (⟨b, o, none⟩ : Addr) = some u) ∧ w.frozen? (⟨b, o, none⟩ : Addr) = false ∧ ∀ w7, w7 = World.setCell w (⟨b, o, none⟩ : Addr) v → K w7 := by
 have := v_set (i := 0) (K := K) h (by simpa using hi) (v := v) (by simpa using hk)
 rw [add_at] at this; exact this
end Go.X
end
section
/- Equality of small structs. -/
namespace Go.Proofs.YtfcfkhbkkfpehaaGreatDoor
open Go.X
theorem eqS_25 {x y : Operand} (a0 a1 b0 b1 : Int) (w : World) : ((do eqGuard .eql 25 x y (.agg #[.int .i64 a0, .int .i64 a1]) (.agg #[.int .i64 b0, .int .i64 b1]); binOp .eql 25 (.agg #[.int .i64 a0, .int .i64 a1]) (.agg #[.int .i64 b0, .int .i64 b1]) : Sem Value)).run Tryz.prog w = .ok (.bool ((a0 == b0) && (a1 == b1))) w := by
 cases h0 : (a0 == b0) <;> cases h1 : (a1 == b1) <;> simp [go_sem, h0, h1]
theorem neS_25 {x y : Operand} (a0 a1 b0 b1 : Int) (w : World) : ((do eqGuard .neq 25 x y (.agg #[.int .i64 a0, .int .i64 a1]) (.agg #[.int .i64 b0, .int .i64 b1]); binOp .neq 25 (.agg #[.int .i64 a0, .int .i64 a1]) (.agg #[.int .i64 b0, .int .i64 b1]) : Sem Value)).run Tryz.prog w = .ok (.bool (!((a0 == b0) && (a1 == b1)))) w := by
 cases h0 : (a0 == b0) <;> cases h1 : (a1 == b1) <;> simp [go_sem, h0, h1]
end Go.Proofs.YtfcfkhbkkfpehaaGreatDoor
end
section
/- Facts of the seat's types. -/
namespace Go.Proofs.YtfcfkhbkkfpehaaGreatDoor
open Go Go.RowKit Go.X Go.MapKept
theorem u198 : Tryz.prog.underlying 127 = some (.map 43 3) := by kernel_rfl
theorem u143 : Tryz.prog.underlying 99 = some (.map 25 43) := by kernel_rfl
theorem u173 : Tryz.prog.underlying 131 = some (.map 3 150) := by kernel_rfl
theorem keyU32 : KeyT Tryz.prog 43 (fun n : Int => .int .u32 n) := int_keyT (by kernel_rfl)
theorem keyInt : KeyT Tryz.prog 3 (fun n : Int => .int .i64 n) := int_keyT (by kernel_rfl)
theorem zero3 (w : World) : (zeroValue 3).run Tryz.prog w = .ok (.int .i64 0) w := by simp [go_sem, zeroValue]; rfl
theorem zero174 (w : World) : (zeroValue 150).run Tryz.prog w = .ok (.pointer none) w := by simp [go_sem, zeroValue]; rfl
def encP (p : Int × Int) : Value := .agg #[.int .i64 p.1, .int .i64 p.2]
theorem find56 (k : Int × Int) (w : World) : ∀ (es : List MapEntry) (i : Nat), (∀ x ∈ es, ∃ a, x.key = encP a) →
  ((∀ x ∈ es, x.key ≠ encP k) ∧ (Instr.findAsking 25 (encP k) es i).run Tryz.prog w = .ok none w) ∨
  (∃ j e, es[j]? = some e ∧ e.key = encP k ∧ (Instr.findAsking 25 (encP k) es i).run Tryz.prog w = .ok (some (i + j, e.val)) w) := by
 intro es
 induction es with
 | nil => intro i _; exact .inl ⟨by simp, by simp [Instr.findAsking]⟩
 | cons e es ih =>
  intro i h
  obtain ⟨a, ha⟩ := h e (.head _)
  have heq : ∀ w, (Op.equal 25 (encP k) e.key).run Tryz.prog w = .ok ((k.1 == a.1) && (k.2 == a.2)) w := by
   intro w
   rw [ha]
   cases h0 : (k.1 == a.1) <;> cases h1 : (k.2 == a.2) <;> simp [go_sem, Op.equal, Op.maxDepth, encP, h0, h1]
  by_cases hk : k = a
  ·refine .inr ⟨0, e, rfl, by rw [ha, hk], ?_⟩
   have hb : ((k.1 == a.1) && (k.2 == a.2)) = true := by simp [hk]
   simp [Instr.findAsking, heq, hb, Result.andThen]
  ·have hb : ((k.1 == a.1) && (k.2 == a.2)) = false := by
    cases hq : ((k.1 == a.1) && (k.2 == a.2)) with
    | false => rfl
    | true => simp at hq; exact absurd (Prod.ext hq.1 hq.2) hk
   have hne : e.key ≠ encP k := by
    rw [ha]; intro he
    simp [encP] at he
    exact hk (Prod.ext he.1.symm he.2.symm)
   have hrun : (Instr.findAsking 25 (encP k) (e :: es) i).run Tryz.prog w = (Instr.findAsking 25 (encP k) es (i + 1)).run Tryz.prog w := by
    simp [Instr.findAsking, heq, hb, Result.andThen]
   rcases ih (i + 1) (fun x hx => h x (.tail _ hx)) with ⟨h1, h2⟩ | ⟨j, e', h1, h2, h3⟩
   ·refine .inl ⟨fun x hx => ?_, hrun.trans h2⟩
    cases hx with
    | head => exact hne
    | tail _ hx => exact h1 x hx
   ·exact .inr ⟨j + 1, e', by simpa using h1, h2, by rw [hrun, h3, show i + 1 + j = i + (j + 1) from by omega]⟩
theorem check56 (e : Bool) (n : Nat) (w : World) (k : Int × Int) : (Instr.checkKey e (n + 2) 25 (encP k)).run Tryz.prog w = .ok () w := by
 have hp : ∀ (t : TypeId) (x : Int), Tryz.prog.underlying t = some (.int .i64) → (Instr.checkKey e (n + 1) t (.int .i64 x)).run Tryz.prog w = .ok () w := fun t x ht => run_checkKey (d := .int .i64) ht (by simp [IsKey]) e n
 unfold Instr.checkKey encP
 simp [go_sem, hp]
theorem keyPlace : KeyT Tryz.prog 25 encP where
 inj := fun a b h => by simp [encP] at h; exact Prod.ext h.1 h.2
 check := fun e w k => by
  exact check56 e 9998 w k
 find := fun w k es hes => by
  rw [run_findKey_eq w (k := 25) (P := Tryz.prog) (by kernel_rfl)]
  rcases find56 k w es 0 hes with h | ⟨j, e, h1, h2, h3⟩
  ·exact .inl h
  ·exact .inr ⟨j, e, h1, h2, by simpa using h3⟩
 stays := fun k => by
  show Instr.sameBits (9999 + 1) (encP k) (encP k) = true
  unfold Instr.sameBits encP
  simp [Instr.sameBits]
end Go.Proofs.YtfcfkhbkkfpehaaGreatDoor
end
section
namespace Go.Proofs.YtfcfkhbkkfpehaaGreatDoor
open Go.X
/- (pomander/pomanderref12.Flow).Mark -/
def V_pomanderref12_Flow_Mark (f1 : Int) (f2 : Int) (f3 : Int) (f4 : Option Addr) (f4n : Nat) (f4c : Nat) (f5 : Option Addr) (f5n : Nat) (f5c : Nat) (p1 : Int) (p2 : Int) (n1 : Int) (set1 : Int) (w : World) (R : Int → Int → Int → (Option Addr) → Nat → Nat → (Option Addr) → Nat → Nat → Int → World → Prop) : Prop :=
 ∀ b1 : Nat, b1 = World.size w → ∀ w1 : World, w1 = World.alloc w (.cells #[.int .i64 f1, .int .i64 f2, .int .i64 f3, .slice f4 f4n f4c, .slice f5 f5n f5c] 64) → (∀ b2 : Nat, b2 = World.size w1 → ∀ w2 : World, w2 = World.alloc w1 (.cells #[.int .i64 p1, .int .i64 p2] 25) → (∀ b3 : Nat, b3 = World.size w2 → ∀ w3 : World, w3 = World.alloc w2 (.cells #[.int .i64 0, .int .i64 0, .int .i64 0, .slice none 0 0, .slice none 0 0] 64) → (∃ (t1 : Int) (t2 : Int) (t3 : Int) (t4 : Option Addr) (t4n : Nat) (t4c : Nat) (t5 : Option Addr) (t5n : Nat) (t5c : Nat), CellsAt w3 (⟨b1, 0, none⟩ : Addr) 0 [.int .i64 t1, .int .i64 t2, .int .i64 t3, .slice t4 t4n t4c, .slice t5 t5n t5c] ∧ (∃ (t6 : Int) (t7 : Int), CellsAt w3 (⟨b2, 0, none⟩ : Addr) 0 [.int .i64 t6, .int .i64 t7] ∧ (Calls Tryz.prog 40 #[.agg #[.int .i64 t1, .int .i64 t2, .int .i64 t3, .slice t4 t4n t4c, .slice t5 t5n t5c], .agg #[.int .i64 t6, .int .i64 t7]] w3 fun e w4 => ∃ (r7 : Bool), e = .returned (.bool r7) ∧ (((!r7 || decide (set1 ≥ 65536)) = true → ∃ (t8 : Int) (t9 : Int) (t10 : Int) (t11 : Option Addr) (t11n : Nat) (t11c : Nat) (t12 : Option Addr) (t12n : Nat) (t12c : Nat), CellsAt w4 (⟨b1, 0, none⟩ : Addr) 0 [.int .i64 t8, .int .i64 t9, .int .i64 t10, .slice t11 t11n t11c, .slice t12 t12n t12c] ∧ (Has w4 (⟨b3, 0, none⟩ : Addr) 5 ∧ Free w4 (⟨b3, 0, none⟩ : Addr) 5 ∧ ∀ w5 : World, w5 = setCells w4 (⟨b3, 0, none⟩ : Addr) 0 [.int .i64 t8, .int .i64 t9, .int .i64 t10, .slice t11 t11n t11c, .slice t12 t12n t12c] → (∃ (r8 : Int) (r9 : Int) (r10 : Int) (r11 : Option Addr) (r11n : Nat) (r11c : Nat) (r12 : Option Addr) (r12n : Nat) (r12c : Nat), CellsAt w5 (⟨b3, 0, none⟩ : Addr) 0 [.int .i64 r8, .int .i64 r9, .int .i64 r10, .slice r11 r11n r11c, .slice r12 r12n r12c] ∧ R r8 r9 r10 r11 r11n r11c r12 r12n r12c 2 w5))) ∧ ((!r7 || decide (set1 ≥ 65536)) = false → ∃ J1 : Bool → World → Prop, (∀ (b4 : Bool) (w6 : World), J1 b4 w6 → (b4 = true → ∃ (t20 : Int) (t21 : Int) (t22 : Int) (t23 : Option Addr) (t23n : Nat) (t23c : Nat) (t24 : Option Addr) (t24n : Nat) (t24c : Nat), CellsAt w6 (⟨b1, 0, none⟩ : Addr) 0 [.int .i64 t20, .int .i64 t21, .int .i64 t22, .slice t23 t23n t23c, .slice t24 t24n t24c] ∧ (Has w6 (⟨b3, 0, none⟩ : Addr) 5 ∧ Free w6 (⟨b3, 0, none⟩ : Addr) 5 ∧ ∀ w9 : World, w9 = setCells w6 (⟨b3, 0, none⟩ : Addr) 0 [.int .i64 t20, .int .i64 t21, .int .i64 t22, .slice t23 t23n t23c, .slice t24 t24n t24c] → (∃ (r14 : Int) (r15 : Int) (r16 : Int) (r17 : Option Addr) (r17n : Nat) (r17c : Nat) (r18 : Option Addr) (r18n : Nat) (r18c : Nat), CellsAt w9 (⟨b3, 0, none⟩ : Addr) 0 [.int .i64 r14, .int .i64 r15, .int .i64 r16, .slice r17 r17n r17c, .slice r18 r18n r18c] ∧ R r14 r15 r16 r17 r17n r17c r18 r18n r18c 4 w9))) ∧ (b4 = false → ∃ (t25 : Int) (t26 : Option Addr) (t26n : Nat) (t26c : Nat), CellsAt w6 (⟨b1, 2, none⟩ : Addr) 0 [.int .i64 t25, .slice t26 t26n t26c] ∧ (Calls Tryz.prog 41 #[.agg #[.int .i64 t25, .slice t26 t26n t26c], .int .u32 set1] w6 fun e w10 => ∃ (r19 : Int) (r20 : Option Addr) (r20n : Nat) (r20c : Nat) (r21 : Int) (r22 : Int), e = .returned (.tuple #[.agg #[.int .i64 r19, .slice r20 r20n r20c], .int .i64 r21, .int .i64 r22]) ∧ (∀ b6 : Nat, b6 = World.size w10 → ∀ w11 : World, w11 = World.alloc w10 (.cells #[.int .i64 0, .slice none 0 0] 61) → (Has w11 (⟨b6, 0, none⟩ : Addr) 2 ∧ Free w11 (⟨b6, 0, none⟩ : Addr) 2 ∧ ∀ w12 : World, w12 = setCells w11 (⟨b6, 0, none⟩ : Addr) 0 [.int .i64 r19, .slice r20 r20n r20c] → (((!(r22 == 0)) = true → ∃ (t27 : Int) (t28 : Int) (t29 : Int) (t30 : Option Addr) (t30n : Nat) (t30c : Nat) (t31 : Option Addr) (t31n : Nat) (t31c : Nat), CellsAt w12 (⟨b1, 0, none⟩ : Addr) 0 [.int .i64 t27, .int .i64 t28, .int .i64 t29, .slice t30 t30n t30c, .slice t31 t31n t31c] ∧ (Has w12 (⟨b3, 0, none⟩ : Addr) 5 ∧ Free w12 (⟨b3, 0, none⟩ : Addr) 5 ∧ ∀ w13 : World, w13 = setCells w12 (⟨b3, 0, none⟩ : Addr) 0 [.int .i64 t27, .int .i64 t28, .int .i64 t29, .slice t30 t30n t30c, .slice t31 t31n t31c] → (∃ (r23 : Int) (r24 : Int) (r25 : Int) (r26 : Option Addr) (r26n : Nat) (r26c : Nat) (r27 : Option Addr) (r27n : Nat) (r27c : Nat), CellsAt w13 (⟨b3, 0, none⟩ : Addr) 0 [.int .i64 r23, .int .i64 r24, .int .i64 r25, .slice r26 r26n r26c, .slice r27 r27n r27c] ∧ R r23 r24 r25 r26 r26n r26c r27 r27n r27c r22 w13))) ∧ ((!(r22 == 0)) = false → ∃ (t32 : Int) (t33 : Option Addr) (t33n : Nat) (t33c : Nat), CellsAt w12 (⟨b6, 0, none⟩ : Addr) 0 [.int .i64 t32, .slice t33 t33n t33c] ∧ (Has w12 (⟨b1, 2, none⟩ : Addr) 2 ∧ Free w12 (⟨b1, 2, none⟩ : Addr) 2 ∧ ∀ w14 : World, w14 = setCells w12 (⟨b1, 2, none⟩ : Addr) 0 [.int .i64 t32, .slice t33 t33n t33c] → (∃ (I1 : Int → World → Prop) (m1 : Int → World → Nat), I1 0 w14 ∧ ∀ (s1 : Int) (w15 : World), I1 s1 w15 → ((decide (s1 < n1)) = true → ∃ (t34 : Int) (t35 : Int) (t36 : Int) (t37 : Option Addr) (t37n : Nat) (t37c : Nat) (t38 : Option Addr) (t38n : Nat) (t38c : Nat), CellsAt w15 (⟨b1, 0, none⟩ : Addr) 0 [.int .i64 t34, .int .i64 t35, .int .i64 t36, .slice t37 t37n t37c, .slice t38 t38n t38c] ∧ (∃ (t39 : Int), w15.cell? (⟨b2, 0, none⟩ : Addr) = some (.int .i64 t39) ∧ (∃ (t40 : Int), w15.cell? (⟨b2, 1, none⟩ : Addr) = some (.int .i64 t40) ∧ (Calls Tryz.prog 42 #[.agg #[.int .i64 t34, .int .i64 t35, .int .i64 t36, .slice t37 t37n t37c, .slice t38 t38n t38c], .agg #[.int .i64 t39, .int .i64 (IntKind.wrap .i64 (t40 + s1))], .int .u32 set1] w15 fun e w16 => ∃ (r28 : Int) (r29 : Int) (r30 : Int) (r31 : Option Addr) (r31n : Nat) (r31c : Nat) (r32 : Option Addr) (r32n : Nat) (r32c : Nat), e = .returned (.agg #[.int .i64 r28, .int .i64 r29, .int .i64 r30, .slice r31 r31n r31c, .slice r32 r32n r32c]) ∧ (Has w16 (⟨b1, 0, none⟩ : Addr) 5 ∧ Free w16 (⟨b1, 0, none⟩ : Addr) 5 ∧ ∀ w17 : World, w17 = setCells w16 (⟨b1, 0, none⟩ : Addr) 0 [.int .i64 r28, .int .i64 r29, .int .i64 r30, .slice r31 r31n r31c, .slice r32 r32n r32c] → ((I1 (IntKind.wrap .i64 (s1 + 1)) w17 ∧ m1 (IntKind.wrap .i64 (s1 + 1)) w17 < m1 s1 w15))))))) ∧ ((decide (s1 < n1)) = false → ∃ (t41 : Int) (t42 : Int) (t43 : Int) (t44 : Option Addr) (t44n : Nat) (t44c : Nat) (t45 : Option Addr) (t45n : Nat) (t45c : Nat), CellsAt w15 (⟨b1, 0, none⟩ : Addr) 0 [.int .i64 t41, .int .i64 t42, .int .i64 t43, .slice t44 t44n t44c, .slice t45 t45n t45c] ∧ (Has w15 (⟨b3, 0, none⟩ : Addr) 5 ∧ Free w15 (⟨b3, 0, none⟩ : Addr) 5 ∧ ∀ w18 : World, w18 = setCells w15 (⟨b3, 0, none⟩ : Addr) 0 [.int .i64 t41, .int .i64 t42, .int .i64 t43, .slice t44 t44n t44c, .slice t45 t45n t45c] → (∃ (r33 : Int) (r34 : Int) (r35 : Int) (r36 : Option Addr) (r36n : Nat) (r36c : Nat) (r37 : Option Addr) (r37n : Nat) (r37c : Nat), CellsAt w18 (⟨b3, 0, none⟩ : Addr) 0 [.int .i64 r33, .int .i64 r34, .int .i64 r35, .slice r36 r36n r36c, .slice r37 r37n r37c] ∧ R r33 r34 r35 r36 r36n r36c r37 r37n r37c 0 w18)))))))))))) ∧ (((decide (n1 < 0) || decide (n1 > 65536)) = false → ∃ J2 : Bool → World → Prop, (∀ (b5 : Bool) (w7 : World), J2 b5 w7 → J1 b5 w7) ∧ (((decide (n1 > 0)) = true → ∃ (t13 : Int) (t14 : Int) (t15 : Int) (t16 : Option Addr) (t16n : Nat) (t16c : Nat) (t17 : Option Addr) (t17n : Nat) (t17c : Nat), CellsAt w4 (⟨b1, 0, none⟩ : Addr) 0 [.int .i64 t13, .int .i64 t14, .int .i64 t15, .slice t16 t16n t16c, .slice t17 t17n t17c] ∧ (∃ (t18 : Int), w4.cell? (⟨b2, 0, none⟩ : Addr) = some (.int .i64 t18) ∧ (∃ (t19 : Int), w4.cell? (⟨b2, 1, none⟩ : Addr) = some (.int .i64 t19) ∧ (Calls Tryz.prog 40 #[.agg #[.int .i64 t13, .int .i64 t14, .int .i64 t15, .slice t16 t16n t16c, .slice t17 t17n t17c], .agg #[.int .i64 t18, .int .i64 (IntKind.wrap .i64 ((IntKind.wrap .i64 (t19 + n1)) - 1))]] w4 fun e w8 => ∃ (r13 : Bool), e = .returned (.bool r13) ∧ (J2 (!r13) w8))))) ∧ ((decide (n1 > 0)) = false → J2 false w4))) ∧ ((decide (n1 < 0) || decide (n1 > 65536)) = true → J1 true w4)))))))))
set_option maxRecDepth 100000 in
theorem ok_pomanderref12_Flow_Mark (f1 : Int) (f2 : Int) (f3 : Int) (f4 : Option Addr) (f4n : Nat) (f4c : Nat) (f5 : Option Addr) (f5n : Nat) (f5c : Nat) (p1 : Int) (p2 : Int) (n1 : Int) (set1 : Int) (w : World) (R : Int → Int → Int → (Option Addr) → Nat → Nat → (Option Addr) → Nat → Nat → Int → World → Prop) (h : V_pomanderref12_Flow_Mark f1 f2 f3 f4 f4n f4c f5 f5n f5c p1 p2 n1 set1 w R) : Calls Tryz.prog 19 #[.agg #[.int .i64 f1, .int .i64 f2, .int .i64 f3, .slice f4 f4n f4c, .slice f5 f5n f5c], .agg #[.int .i64 p1, .int .i64 p2], .int .i64 n1, .int .u32 set1] w (fun e w' => ∃ (r1 : Int) (r2 : Int) (r3 : Int) (r4 : Option Addr) (r4n : Nat) (r4c : Nat) (r5 : Option Addr) (r5n : Nat) (r5c : Nat) (r6 : Int), e = .returned (.tuple #[.agg #[.int .i64 r1, .int .i64 r2, .int .i64 r3, .slice r4 r4n r4c, .slice r5 r5n r5c], .int .i64 r6]) ∧ R r1 r2 r3 r4 r4n r4c r5 r5n r5c r6 w') := by
 unfold V_pomanderref12_Flow_Mark at h
 refine enter (N := 77) Tryz.func19 rfl rfl ?_
 refine CW.seq ?_
 refine CW.region fun L hL => ?_
 obtain ⟨b1, hb_b1⟩ : ∃ b1, b1 = World.size w := ⟨_, rfl⟩
 obtain ⟨w1, hw_w1⟩ : ∃ w1, w1 = World.alloc w (.cells #[.int .i64 f1, .int .i64 f2, .int .i64 f3, .slice f4 f4n f4c, .slice f5 f5n f5c] 64) := ⟨_, rfl⟩
 replace h := h b1 hb_b1 w1 hw_w1
 refine LW.val hL rfl (Wants.free rfl) rfl (boxE hb_b1 hw_w1 (Vl.box (v := .agg #[.int .i64 f1, .int .i64 f2, .int .i64 f3, .slice f4 f4n f4c, .slice f5 f5n f5c]) rfl)) ?_
 obtain ⟨b2, hb_b2⟩ : ∃ b2, b2 = World.size w1 := ⟨_, rfl⟩
 obtain ⟨w2, hw_w2⟩ : ∃ w2, w2 = World.alloc w1 (.cells #[.int .i64 p1, .int .i64 p2] 25) := ⟨_, rfl⟩
 replace h := h b2 hb_b2 w2 hw_w2
 refine LW.val hL rfl (Wants.free rfl) rfl (boxE hb_b2 hw_w2 (Vl.box (v := .agg #[.int .i64 p1, .int .i64 p2]) rfl)) ?_
 obtain ⟨b3, hb_b3⟩ : ∃ b3, b3 = World.size w2 := ⟨_, rfl⟩
 obtain ⟨w3, hw_w3⟩ : ∃ w3, w3 = World.alloc w2 (.cells #[.int .i64 0, .int .i64 0, .int .i64 0, .slice none 0 0, .slice none 0 0] 64) := ⟨_, rfl⟩
 replace h := h b3 hb_b3 w3 hw_w3
 refine LW.val hL rfl (Wants.free rfl) rfl (boxE hb_b3 hw_w3 (Vl.alloc (z := .agg #[.int .i64 0, .int .i64 0, .int .i64 0, .slice none 0 0, .slice none 0 0]) (by kernel_rfl))) ?_
 refine LW.rd hL rfl (Wants.free rfl) rfl (Rd.assign (v := .int .i64 0) rfl) ?_
 refine LW.nil hL rfl ?_
 refine NW.then ?_
 refine CW.seq ?_
 refine CW.seq ?_
 refine CW.region fun L hL => ?_
 obtain ⟨t1, t2, t3, t4, t4n, t4c, t5, t5n, t5c, hc1, h⟩ := h
 refine LW.rd hL rfl (Wants.free rfl) rfl (Rd.ldN (cs := [.int .i64 t1, .int .i64 t2, .int .i64 t3, .slice t4 t4n t4c, .slice t5 t5n t5c]) rfl (by kernel_rfl) (by kernel_rfl) (cellsS hc1)) ?_
 obtain ⟨t6, t7, hc2, h⟩ := h
 refine LW.rd hL rfl (Wants.free rfl) rfl (Rd.ldN (cs := [.int .i64 t6, .int .i64 t7]) rfl (by kernel_rfl) (by kernel_rfl) (cellsS hc2)) ?_
 refine LW.call hL rfl (Wants.free rfl) rfl (Cl.fn (f := 40) rfl Tryz.func40 (by kernel_rfl) rfl) h (fun e w4 h_ => ?_)
 clear h
 obtain ⟨r7, rfl, h⟩ := h_
 refine ⟨_, rfl, ?_⟩
 refine LW.rd hL rfl (Wants.free rfl) rfl (Rd.un (v := .bool (!r7)) rfl (fun _ => by kernel_rfl)) ?_
 refine LW.rd hL rfl (Wants.free rfl) rfl (Rd.move (v := .bool (!r7)) rfl) ?_
 suffices K1 : L 8 [(2, .int .i64 n1), (3, .int .u32 set1), (4, .pointer (some (⟨b1, 0, none⟩ : Addr))), (5, .pointer (some (⟨b2, 0, none⟩ : Addr))), (8, .pointer (some (⟨b3, 0, none⟩ : Addr))), (9, .int .i64 0), (21, .bool (!r7 || decide (set1 ≥ 65536)))] w4 by
  rcases Bool.eq_false_or_eq_true (!r7) with hb2 | hb2
  ·skip
   refine LW.skip hL rfl (Skips.on rfl rfl rfl rfl rfl hb2) rfl ?_
   refine LW.skip hL rfl (Skips.on rfl rfl rfl rfl rfl hb2) rfl ?_
   refine LW.rd hL rfl (Wants.free rfl) rfl (Rd.pickT rfl hb2 rfl) ?_
   exact LW.sub hL (by exact ⟨rfl, rfl, rfl, rfl, rfl, rfl, (by rw [hb2]; rfl), trivial⟩) K1
  ·skip
   refine LW.rd hL rfl (Wants.on rfl rfl rfl rfl rfl hb2) rfl (Rd.move (v := .int .u32 set1) rfl) ?_
   refine LW.rd hL rfl (Wants.on rfl rfl rfl rfl rfl hb2) rfl (Rd.bin (v := .bool (decide (set1 ≥ 65536))) rfl rfl (fun w => by kernel_rfl)) ?_
   refine LW.rd hL rfl (Wants.free rfl) rfl (Rd.pickF rfl hb2 rfl) ?_
   exact LW.sub hL (by exact ⟨rfl, rfl, rfl, rfl, rfl, rfl, (by rw [hb2]; rfl), trivial⟩) K1
 refine LW.nil hL rfl ?_
 refine NW.then ?_
 refine CW.cond rfl (fun hb3 => ?_) (fun hb3 => ?_)
 ·replace h := h.1 hb3
  refine CW.seq ?_
  refine CW.region fun L hL => ?_
  obtain ⟨t8, t9, t10, t11, t11n, t11c, t12, t12n, t12c, hc3, h⟩ := h
  refine LW.rd hL rfl (Wants.free rfl) rfl (Rd.ldN (cs := [.int .i64 t8, .int .i64 t9, .int .i64 t10, .slice t11 t11n t11c, .slice t12 t12n t12c]) rfl (by kernel_rfl) (by kernel_rfl) (cellsS hc3)) ?_
  obtain ⟨ho1, hf1, h⟩ := h
  obtain ⟨w5, hw_w5⟩ : ∃ w5, w5 = setCells w4 (⟨b3, 0, none⟩ : Addr) 0 [.int .i64 t8, .int .i64 t9, .int .i64 t10, .slice t11 t11n t11c, .slice t12 t12n t12c] := ⟨_, rfl⟩
  replace h := h w5 hw_w5
  refine LW.eff hL rfl (Wants.free rfl) rfl (stNE hw_w5 (Ef.stN (cs := [.int .i64 t8, .int .i64 t9, .int .i64 t10, .slice t11 t11n t11c, .slice t12 t12n t12c]) rfl rfl (by kernel_rfl) (List.forall_mem_cons.2 ⟨rfl, (List.forall_mem_cons.2 ⟨rfl, (List.forall_mem_cons.2 ⟨rfl, (List.forall_mem_cons.2 ⟨rfl, (List.forall_mem_cons.2 ⟨rfl, (List.forall_mem_nil _)⟩)⟩)⟩)⟩)⟩) ho1 hf1)) ?_
  refine LW.rd hL rfl (Wants.free rfl) rfl (Rd.assign (v := .int .i64 2) rfl) ?_
  refine LW.nil hL rfl ?_
  refine NW.then ?_
  refine CW.ret ?_
  refine RW.then ?_
  obtain ⟨r8, r9, r10, r11, r11n, r11c, r12, r12n, r12c, hr1, h⟩ := h
  exact resN (vs := [.agg #[.int .i64 r8, .int .i64 r9, .int .i64 r10, .slice r11 r11n r11c, .slice r12 r12n r12c], .int .i64 2]) (ResOK.c rfl (lvN (cs := [.int .i64 r8, .int .i64 r9, .int .i64 r10, .slice r11 r11n r11c, .slice r12 r12n r12c]) (by kernel_rfl) (by kernel_rfl) (cellsAt_get hr1)) (ResOK.t rfl ResOK.nil)) rfl ⟨r8, r9, r10, r11, r11n, r11c, r12, r12n, r12c, 2, rfl, h⟩
 ·replace h := h.2 hb3
  refine CW.skip ?_
  refine NW.then ?_
  refine CW.seq ?_
  refine CW.seq ?_
  refine CW.region fun L hL => ?_
  refine LW.rd hL rfl (Wants.free rfl) rfl (Rd.move (v := .int .i64 n1) rfl) ?_
  refine LW.rd hL rfl (Wants.free rfl) rfl (Rd.bin (v := .bool (decide (n1 < 0))) rfl rfl (fun w => by kernel_rfl)) ?_
  refine LW.rd hL rfl (Wants.free rfl) rfl (Rd.move (v := .bool (decide (n1 < 0))) rfl) ?_
  suffices K2 : L 6 [(2, .int .i64 n1), (3, .int .u32 set1), (4, .pointer (some (⟨b1, 0, none⟩ : Addr))), (5, .pointer (some (⟨b2, 0, none⟩ : Addr))), (8, .pointer (some (⟨b3, 0, none⟩ : Addr))), (9, .int .i64 0), (28, .bool (decide (n1 < 0) || decide (n1 > 65536)))] w4 by
   rcases Bool.eq_false_or_eq_true (decide (n1 < 0)) with hb5 | hb5
   ·skip
    refine LW.skip hL rfl (Skips.on rfl rfl rfl rfl rfl hb5) rfl ?_
    refine LW.skip hL rfl (Skips.on rfl rfl rfl rfl rfl hb5) rfl ?_
    refine LW.rd hL rfl (Wants.free rfl) rfl (Rd.pickT rfl hb5 rfl) ?_
    exact LW.sub hL (by exact ⟨rfl, rfl, rfl, rfl, rfl, rfl, (by rw [hb5]; rfl), trivial⟩) K2
   ·skip
    refine LW.rd hL rfl (Wants.on rfl rfl rfl rfl rfl hb5) rfl (Rd.move (v := .int .i64 n1) rfl) ?_
    refine LW.rd hL rfl (Wants.on rfl rfl rfl rfl rfl hb5) rfl (Rd.bin (v := .bool (decide (n1 > 65536))) rfl rfl (fun w => by kernel_rfl)) ?_
    refine LW.rd hL rfl (Wants.free rfl) rfl (Rd.pickF rfl hb5 rfl) ?_
    exact LW.sub hL (by exact ⟨rfl, rfl, rfl, rfl, rfl, rfl, (by rw [hb5]; rfl), trivial⟩) K2
  refine LW.rd hL rfl (Wants.free rfl) rfl (Rd.move (v := .bool (decide (n1 < 0) || decide (n1 > 65536))) rfl) ?_
  obtain ⟨J1, hJ1, h1_J1, h0_J1⟩ := h
  suffices K3 : ∀ (b4 : Bool) (w6 : World), J1 b4 w6 → L 23 [(2, .int .i64 n1), (3, .int .u32 set1), (4, .pointer (some (⟨b1, 0, none⟩ : Addr))), (5, .pointer (some (⟨b2, 0, none⟩ : Addr))), (8, .pointer (some (⟨b3, 0, none⟩ : Addr))), (9, .int .i64 0), (45, .bool b4)] w6 by
   rcases Bool.eq_false_or_eq_true (decide (n1 < 0) || decide (n1 > 65536)) with hb6 | hb6
   ·have h := h0_J1 hb6
    refine LW.skip hL rfl (Skips.on rfl rfl rfl rfl rfl hb6) rfl ?_
    refine LW.skip hL rfl (Skips.on rfl rfl rfl rfl rfl hb6) rfl ?_
    refine LW.skip hL rfl (Skips.on rfl rfl rfl rfl rfl hb6) rfl ?_
    refine LW.skip hL rfl (Skips.un rfl rfl rfl rfl rfl) rfl ?_
    refine LW.skip hL rfl (Skips.un rfl rfl rfl rfl rfl) rfl ?_
    refine LW.skip hL rfl (Skips.un rfl rfl rfl rfl rfl) rfl ?_
    refine LW.skip hL rfl (Skips.un rfl rfl rfl rfl rfl) rfl ?_
    refine LW.skip hL rfl (Skips.un rfl rfl rfl rfl rfl) rfl ?_
    refine LW.skip hL rfl (Skips.un rfl rfl rfl rfl rfl) rfl ?_
    refine LW.skip hL rfl (Skips.un rfl rfl rfl rfl rfl) rfl ?_
    refine LW.skip hL rfl (Skips.un rfl rfl rfl rfl rfl) rfl ?_
    refine LW.skip hL rfl (Skips.un rfl rfl rfl rfl rfl) rfl ?_
    refine LW.skip hL rfl (Skips.un rfl rfl rfl rfl rfl) rfl ?_
    refine LW.skip hL rfl (Skips.un rfl rfl rfl rfl rfl) rfl ?_
    refine LW.skip hL rfl (Skips.on rfl rfl rfl rfl rfl hb6) rfl ?_
    refine LW.rd hL rfl (Wants.free rfl) rfl (Rd.pickT rfl hb6 rfl) ?_
    exact LW.sub hL (by exact ⟨rfl, rfl, rfl, rfl, rfl, rfl, rfl, trivial⟩) (K3 true w4 h)
   ·have h := h1_J1 hb6
    refine LW.rd hL rfl (Wants.on rfl rfl rfl rfl rfl hb6) rfl (Rd.move (v := .int .i64 n1) rfl) ?_
    refine LW.rd hL rfl (Wants.on rfl rfl rfl rfl rfl hb6) rfl (Rd.bin (v := .bool (decide (n1 > 0))) rfl rfl (fun w => by kernel_rfl)) ?_
    refine LW.rd hL rfl (Wants.on rfl rfl rfl rfl rfl hb6) rfl (Rd.move (v := .bool (decide (n1 > 0))) rfl) ?_
    obtain ⟨J2, hJ2, h1_J2, h0_J2⟩ := h
    suffices K4 : ∀ (b5 : Bool) (w7 : World), J2 b5 w7 → L 22 [(2, .int .i64 n1), (3, .int .u32 set1), (4, .pointer (some (⟨b1, 0, none⟩ : Addr))), (5, .pointer (some (⟨b2, 0, none⟩ : Addr))), (8, .pointer (some (⟨b3, 0, none⟩ : Addr))), (9, .int .i64 0), (29, .bool (decide (n1 < 0) || decide (n1 > 65536))), (44, .bool b5)] w7 by
     rcases Bool.eq_false_or_eq_true (decide (n1 > 0)) with hb7 | hb7
     ·have h := h1_J2 hb7
      obtain ⟨t13, t14, t15, t16, t16n, t16c, t17, t17n, t17c, hc4, h⟩ := h
      refine LW.rd hL rfl (Wants.on rfl rfl rfl rfl rfl hb7) rfl (Rd.ldN (cs := [.int .i64 t13, .int .i64 t14, .int .i64 t15, .slice t16 t16n t16c, .slice t17 t17n t17c]) rfl (by kernel_rfl) (by kernel_rfl) (cellsS hc4)) ?_
      refine LW.rd hL rfl (Wants.on rfl rfl rfl rfl rfl hb7) rfl (Rd.fa (v := .pointer (some (⟨b2, 0, none⟩ : Addr))) rfl (fun _ => by kernel_rfl)) ?_
      obtain ⟨t18, hc5, h⟩ := h
      refine LW.rd hL rfl (Wants.on rfl rfl rfl rfl rfl hb7) rfl (Rd.ld (v := .int .i64 t18) rfl (by kernel_rfl) (eqs hc5)) ?_
      refine LW.rd hL rfl (Wants.on rfl rfl rfl rfl rfl hb7) rfl (Rd.fa (v := .pointer (some (⟨b2, 1, none⟩ : Addr))) rfl (fun _ => by kernel_rfl)) ?_
      obtain ⟨t19, hc6, h⟩ := h
      refine LW.rd hL rfl (Wants.on rfl rfl rfl rfl rfl hb7) rfl (Rd.ld (v := .int .i64 t19) rfl (by kernel_rfl) (eqs hc6)) ?_
      refine LW.rd hL rfl (Wants.on rfl rfl rfl rfl rfl hb7) rfl (Rd.move (v := .int .i64 n1) rfl) ?_
      refine LW.rd hL rfl (Wants.on rfl rfl rfl rfl rfl hb7) rfl (Rd.bin (v := .int .i64 (IntKind.wrap .i64 (t19 + n1))) rfl rfl (fun w => by kernel_rfl)) ?_
      refine LW.rd hL rfl (Wants.on rfl rfl rfl rfl rfl hb7) rfl (Rd.bin (v := .int .i64 (IntKind.wrap .i64 ((IntKind.wrap .i64 (t19 + n1)) - 1))) rfl rfl (fun w => by kernel_rfl)) ?_
      refine LW.rd hL rfl (Wants.on rfl rfl rfl rfl rfl hb7) rfl (Rd.build (v := .agg #[.int .i64 t18, .int .i64 (IntKind.wrap .i64 ((IntKind.wrap .i64 (t19 + n1)) - 1))]) rfl (fun _ => by kernel_rfl)) ?_
      refine LW.call hL rfl (Wants.on rfl rfl rfl rfl rfl hb7) rfl (Cl.fn (f := 40) rfl Tryz.func40 (by kernel_rfl) rfl) h (fun e w8 h_ => ?_)
      clear h
      obtain ⟨r13, rfl, h⟩ := h_
      refine ⟨_, rfl, ?_⟩
      refine LW.rd hL rfl (Wants.on rfl rfl rfl rfl rfl hb7) rfl (Rd.un (v := .bool (!r13)) rfl (fun _ => by kernel_rfl)) ?_
      refine LW.rd hL rfl (Wants.on rfl rfl rfl rfl rfl hb6) rfl (Rd.pickT rfl hb7 rfl) ?_
      exact LW.sub hL (by exact ⟨rfl, rfl, rfl, rfl, rfl, rfl, rfl, rfl, trivial⟩) (K4 (!r13) w8 h)
     ·have h := h0_J2 hb7
      refine LW.skip hL rfl (Skips.on rfl rfl rfl rfl rfl hb7) rfl ?_
      refine LW.skip hL rfl (Skips.on rfl rfl rfl rfl rfl hb7) rfl ?_
      refine LW.skip hL rfl (Skips.on rfl rfl rfl rfl rfl hb7) rfl ?_
      refine LW.skip hL rfl (Skips.on rfl rfl rfl rfl rfl hb7) rfl ?_
      refine LW.skip hL rfl (Skips.on rfl rfl rfl rfl rfl hb7) rfl ?_
      refine LW.skip hL rfl (Skips.on rfl rfl rfl rfl rfl hb7) rfl ?_
      refine LW.skip hL rfl (Skips.on rfl rfl rfl rfl rfl hb7) rfl ?_
      refine LW.skip hL rfl (Skips.on rfl rfl rfl rfl rfl hb7) rfl ?_
      refine LW.skip hL rfl (Skips.on rfl rfl rfl rfl rfl hb7) rfl ?_
      refine LW.skip hL rfl (Skips.on rfl rfl rfl rfl rfl hb7) rfl ?_
      refine LW.skip hL rfl (Skips.on rfl rfl rfl rfl rfl hb7) rfl ?_
      refine LW.rd hL rfl (Wants.on rfl rfl rfl rfl rfl hb6) rfl (Rd.pickF rfl hb7 rfl) ?_
      exact LW.sub hL (by exact ⟨rfl, rfl, rfl, rfl, rfl, rfl, rfl, rfl, trivial⟩) (K4 false w4 h)
    intro b5 w7 h_
    have h := hJ2 b5 w7 h_; clear h_
    refine LW.rd hL rfl (Wants.free rfl) rfl (Rd.pickF rfl hb6 rfl) ?_
    exact LW.sub hL (by exact ⟨rfl, rfl, rfl, rfl, rfl, rfl, rfl, trivial⟩) (K3 b5 w7 h)
  intro b4 w6 h_
  have h := hJ1 b4 w6 h_; clear h_
  refine LW.nil hL rfl ?_
  refine NW.then ?_
  refine CW.cond rfl (fun hb8 => ?_) (fun hb8 => ?_)
  ·replace h := h.1 hb8
   refine CW.seq ?_
   refine CW.region fun L hL => ?_
   obtain ⟨t20, t21, t22, t23, t23n, t23c, t24, t24n, t24c, hc7, h⟩ := h
   refine LW.rd hL rfl (Wants.free rfl) rfl (Rd.ldN (cs := [.int .i64 t20, .int .i64 t21, .int .i64 t22, .slice t23 t23n t23c, .slice t24 t24n t24c]) rfl (by kernel_rfl) (by kernel_rfl) (cellsS hc7)) ?_
   obtain ⟨ho2, hf2, h⟩ := h
   obtain ⟨w9, hw_w9⟩ : ∃ w9, w9 = setCells w6 (⟨b3, 0, none⟩ : Addr) 0 [.int .i64 t20, .int .i64 t21, .int .i64 t22, .slice t23 t23n t23c, .slice t24 t24n t24c] := ⟨_, rfl⟩
   replace h := h w9 hw_w9
   refine LW.eff hL rfl (Wants.free rfl) rfl (stNE hw_w9 (Ef.stN (cs := [.int .i64 t20, .int .i64 t21, .int .i64 t22, .slice t23 t23n t23c, .slice t24 t24n t24c]) rfl rfl (by kernel_rfl) (List.forall_mem_cons.2 ⟨rfl, (List.forall_mem_cons.2 ⟨rfl, (List.forall_mem_cons.2 ⟨rfl, (List.forall_mem_cons.2 ⟨rfl, (List.forall_mem_cons.2 ⟨rfl, (List.forall_mem_nil _)⟩)⟩)⟩)⟩)⟩) ho2 hf2)) ?_
   refine LW.rd hL rfl (Wants.free rfl) rfl (Rd.assign (v := .int .i64 4) rfl) ?_
   refine LW.nil hL rfl ?_
   refine NW.then ?_
   refine CW.ret ?_
   refine RW.then ?_
   obtain ⟨r14, r15, r16, r17, r17n, r17c, r18, r18n, r18c, hr2, h⟩ := h
   exact resN (vs := [.agg #[.int .i64 r14, .int .i64 r15, .int .i64 r16, .slice r17 r17n r17c, .slice r18 r18n r18c], .int .i64 4]) (ResOK.c rfl (lvN (cs := [.int .i64 r14, .int .i64 r15, .int .i64 r16, .slice r17 r17n r17c, .slice r18 r18n r18c]) (by kernel_rfl) (by kernel_rfl) (cellsAt_get hr2)) (ResOK.t rfl ResOK.nil)) rfl ⟨r14, r15, r16, r17, r17n, r17c, r18, r18n, r18c, 4, rfl, h⟩
  ·replace h := h.2 hb8
   refine CW.skip ?_
   refine NW.then ?_
   refine CW.seq ?_
   refine CW.region fun L hL => ?_
   refine LW.rd hL rfl (Wants.free rfl) rfl (Rd.fa (v := .pointer (some (⟨b1, 2, none⟩ : Addr))) rfl (fun _ => by kernel_rfl)) ?_
   obtain ⟨t25, t26, t26n, t26c, hc8, h⟩ := h
   refine LW.rd hL rfl (Wants.free rfl) rfl (Rd.ldN (cs := [.int .i64 t25, .slice t26 t26n t26c]) rfl (by kernel_rfl) (by kernel_rfl) (cellsS hc8)) ?_
   refine LW.rd hL rfl (Wants.free rfl) rfl (Rd.move (v := .int .u32 set1) rfl) ?_
   refine LW.call hL rfl (Wants.free rfl) rfl (Cl.fn (f := 41) rfl Tryz.func41 (by kernel_rfl) rfl) h (fun e w10 h_ => ?_)
   clear h
   obtain ⟨r19, r20, r20n, r20c, r21, r22, rfl, h⟩ := h_
   refine ⟨_, rfl, ?_⟩
   refine LW.rd hL rfl (Wants.free rfl) rfl (Rd.move (v := .tuple #[.agg #[.int .i64 r19, .slice r20 r20n r20c], .int .i64 r21, .int .i64 r22]) rfl) ?_
   refine LW.rd hL rfl (Wants.free rfl) rfl (Rd.extract (v := .agg #[.int .i64 r19, .slice r20 r20n r20c]) rfl rfl) ?_
   refine LW.rd hL rfl (Wants.free rfl) rfl (Rd.extract (v := .int .i64 r21) rfl rfl) ?_
   refine LW.rd hL rfl (Wants.free rfl) rfl (Rd.extract (v := .int .i64 r22) rfl rfl) ?_
   obtain ⟨b6, hb_b6⟩ : ∃ b6, b6 = World.size w10 := ⟨_, rfl⟩
   obtain ⟨w11, hw_w11⟩ : ∃ w11, w11 = World.alloc w10 (.cells #[.int .i64 0, .slice none 0 0] 61) := ⟨_, rfl⟩
   replace h := h b6 hb_b6 w11 hw_w11
   refine LW.val hL rfl (Wants.free rfl) rfl (boxE hb_b6 hw_w11 (Vl.alloc (z := .agg #[.int .i64 0, .slice none 0 0]) (by kernel_rfl))) ?_
   obtain ⟨ho3, hf3, h⟩ := h
   obtain ⟨w12, hw_w12⟩ : ∃ w12, w12 = setCells w11 (⟨b6, 0, none⟩ : Addr) 0 [.int .i64 r19, .slice r20 r20n r20c] := ⟨_, rfl⟩
   replace h := h w12 hw_w12
   refine LW.eff hL rfl (Wants.free rfl) rfl (stNE hw_w12 (Ef.stN (cs := [.int .i64 r19, .slice r20 r20n r20c]) rfl rfl (by kernel_rfl) (List.forall_mem_cons.2 ⟨rfl, (List.forall_mem_cons.2 ⟨rfl, (List.forall_mem_nil _)⟩)⟩) ho3 hf3)) ?_
   refine LW.rd hL rfl (Wants.free rfl) rfl (Rd.assign (v := .int .i64 r21) rfl) ?_
   refine LW.rd hL rfl (Wants.free rfl) rfl (Rd.assign (v := .int .i64 r22) rfl) ?_
   refine LW.nil hL rfl ?_
   refine NW.then ?_
   refine CW.seq ?_
   refine CW.seq ?_
   refine CW.region fun L hL => ?_
   refine LW.rd hL rfl (Wants.free rfl) rfl (Rd.move (v := .int .i64 r22) rfl) ?_
   refine LW.rd hL rfl (Wants.free rfl) rfl (Rd.bin (v := .bool (!(r22 == 0))) rfl rfl (fun w => by kernel_rfl)) ?_
   refine LW.nil hL rfl ?_
   refine NW.then ?_
   refine CW.cond rfl (fun hb9 => ?_) (fun hb9 => ?_)
   ·replace h := h.1 hb9
    refine CW.seq ?_
    refine CW.region fun L hL => ?_
    obtain ⟨t27, t28, t29, t30, t30n, t30c, t31, t31n, t31c, hc9, h⟩ := h
    refine LW.rd hL rfl (Wants.free rfl) rfl (Rd.ldN (cs := [.int .i64 t27, .int .i64 t28, .int .i64 t29, .slice t30 t30n t30c, .slice t31 t31n t31c]) rfl (by kernel_rfl) (by kernel_rfl) (cellsS hc9)) ?_
    refine LW.rd hL rfl (Wants.free rfl) rfl (Rd.move (v := .int .i64 r22) rfl) ?_
    obtain ⟨ho4, hf4, h⟩ := h
    obtain ⟨w13, hw_w13⟩ : ∃ w13, w13 = setCells w12 (⟨b3, 0, none⟩ : Addr) 0 [.int .i64 t27, .int .i64 t28, .int .i64 t29, .slice t30 t30n t30c, .slice t31 t31n t31c] := ⟨_, rfl⟩
    replace h := h w13 hw_w13
    refine LW.eff hL rfl (Wants.free rfl) rfl (stNE hw_w13 (Ef.stN (cs := [.int .i64 t27, .int .i64 t28, .int .i64 t29, .slice t30 t30n t30c, .slice t31 t31n t31c]) rfl rfl (by kernel_rfl) (List.forall_mem_cons.2 ⟨rfl, (List.forall_mem_cons.2 ⟨rfl, (List.forall_mem_cons.2 ⟨rfl, (List.forall_mem_cons.2 ⟨rfl, (List.forall_mem_cons.2 ⟨rfl, (List.forall_mem_nil _)⟩)⟩)⟩)⟩)⟩) ho4 hf4)) ?_
    refine LW.rd hL rfl (Wants.free rfl) rfl (Rd.assign (v := .int .i64 r22) rfl) ?_
    refine LW.nil hL rfl ?_
    refine NW.then ?_
    refine CW.ret ?_
    refine RW.then ?_
    obtain ⟨r23, r24, r25, r26, r26n, r26c, r27, r27n, r27c, hr3, h⟩ := h
    exact resN (vs := [.agg #[.int .i64 r23, .int .i64 r24, .int .i64 r25, .slice r26 r26n r26c, .slice r27 r27n r27c], .int .i64 r22]) (ResOK.c rfl (lvN (cs := [.int .i64 r23, .int .i64 r24, .int .i64 r25, .slice r26 r26n r26c, .slice r27 r27n r27c]) (by kernel_rfl) (by kernel_rfl) (cellsAt_get hr3)) (ResOK.t rfl ResOK.nil)) rfl ⟨r23, r24, r25, r26, r26n, r26c, r27, r27n, r27c, r22, rfl, h⟩
   ·replace h := h.2 hb9
    refine CW.skip ?_
    refine NW.then ?_
    refine CW.seq ?_
    refine CW.region fun L hL => ?_
    obtain ⟨t32, t33, t33n, t33c, hc10, h⟩ := h
    refine LW.rd hL rfl (Wants.free rfl) rfl (Rd.ldN (cs := [.int .i64 t32, .slice t33 t33n t33c]) rfl (by kernel_rfl) (by kernel_rfl) (cellsS hc10)) ?_
    refine LW.rd hL rfl (Wants.free rfl) rfl (Rd.fa (v := .pointer (some (⟨b1, 2, none⟩ : Addr))) rfl (fun _ => by kernel_rfl)) ?_
    obtain ⟨ho5, hf5, h⟩ := h
    obtain ⟨w14, hw_w14⟩ : ∃ w14, w14 = setCells w12 (⟨b1, 2, none⟩ : Addr) 0 [.int .i64 t32, .slice t33 t33n t33c] := ⟨_, rfl⟩
    replace h := h w14 hw_w14
    refine LW.eff hL rfl (Wants.free rfl) rfl (stNE hw_w14 (Ef.stN (cs := [.int .i64 t32, .slice t33 t33n t33c]) rfl rfl (by kernel_rfl) (List.forall_mem_cons.2 ⟨rfl, (List.forall_mem_cons.2 ⟨rfl, (List.forall_mem_nil _)⟩)⟩) ho5 hf5)) ?_
    refine LW.nil hL rfl ?_
    refine NW.then ?_
    refine CW.seq ?_
    refine CW.seq ?_
    refine CW.region fun L hL => ?_
    refine LW.rd hL rfl (Wants.free rfl) rfl (Rd.assign (v := .int .i64 0) rfl) ?_
    refine LW.nil hL rfl ?_
    refine NW.then ?_
    refine CW.block ?_
    obtain ⟨I1, m1, hI1, h⟩ := h
    refine CW.loop (S := Int) (fun s1 => [(2, .int .i64 n1), (3, .int .u32 set1), (4, .pointer (some (⟨b1, 0, none⟩ : Addr))), (5, .pointer (some (⟨b2, 0, none⟩ : Addr))), (8, .pointer (some (⟨b3, 0, none⟩ : Addr))), (9, .int .i64 0), (13, .int .i64 s1)]) I1 m1 0 (by exact ⟨rfl, rfl, rfl, rfl, rfl, rfl, rfl, trivial⟩) hI1 (fun s1 w15 hI1 => ?_)
    replace h := h s1 w15 hI1
    refine CW.seq ?_
    refine CW.seq ?_
    refine CW.region fun L hL => ?_
    refine LW.rd hL rfl (Wants.free rfl) rfl (Rd.move (v := .int .i64 s1) rfl) ?_
    refine LW.rd hL rfl (Wants.free rfl) rfl (Rd.move (v := .int .i64 n1) rfl) ?_
    refine LW.rd hL rfl (Wants.free rfl) rfl (Rd.bin (v := .bool (decide (s1 < n1))) rfl rfl (fun w => by kernel_rfl)) ?_
    refine LW.nil hL rfl ?_
    refine NW.then ?_
    refine CW.cond rfl (fun hb10 => ?_) (fun hb10 => ?_)
    ·replace h := h.1 hb10
     refine CW.skip ?_
     refine NW.then ?_
     refine CW.seq ?_
     refine CW.block ?_
     refine CW.region fun L hL => ?_
     obtain ⟨t34, t35, t36, t37, t37n, t37c, t38, t38n, t38c, hc11, h⟩ := h
     refine LW.rd hL rfl (Wants.free rfl) rfl (Rd.ldN (cs := [.int .i64 t34, .int .i64 t35, .int .i64 t36, .slice t37 t37n t37c, .slice t38 t38n t38c]) rfl (by kernel_rfl) (by kernel_rfl) (cellsS hc11)) ?_
     refine LW.rd hL rfl (Wants.free rfl) rfl (Rd.fa (v := .pointer (some (⟨b2, 0, none⟩ : Addr))) rfl (fun _ => by kernel_rfl)) ?_
     obtain ⟨t39, hc12, h⟩ := h
     refine LW.rd hL rfl (Wants.free rfl) rfl (Rd.ld (v := .int .i64 t39) rfl (by kernel_rfl) (eqs hc12)) ?_
     refine LW.rd hL rfl (Wants.free rfl) rfl (Rd.fa (v := .pointer (some (⟨b2, 1, none⟩ : Addr))) rfl (fun _ => by kernel_rfl)) ?_
     obtain ⟨t40, hc13, h⟩ := h
     refine LW.rd hL rfl (Wants.free rfl) rfl (Rd.ld (v := .int .i64 t40) rfl (by kernel_rfl) (eqs hc13)) ?_
     refine LW.rd hL rfl (Wants.free rfl) rfl (Rd.move (v := .int .i64 s1) rfl) ?_
     refine LW.rd hL rfl (Wants.free rfl) rfl (Rd.bin (v := .int .i64 (IntKind.wrap .i64 (t40 + s1))) rfl rfl (fun w => by kernel_rfl)) ?_
     refine LW.rd hL rfl (Wants.free rfl) rfl (Rd.build (v := .agg #[.int .i64 t39, .int .i64 (IntKind.wrap .i64 (t40 + s1))]) rfl (fun _ => by kernel_rfl)) ?_
     refine LW.rd hL rfl (Wants.free rfl) rfl (Rd.move (v := .int .u32 set1) rfl) ?_
     refine LW.call hL rfl (Wants.free rfl) rfl (Cl.fn (f := 42) rfl Tryz.func42 (by kernel_rfl) rfl) h (fun e w16 h_ => ?_)
     clear h
     obtain ⟨r28, r29, r30, r31, r31n, r31c, r32, r32n, r32c, rfl, h⟩ := h_
     refine ⟨_, rfl, ?_⟩
     obtain ⟨ho6, hf6, h⟩ := h
     obtain ⟨w17, hw_w17⟩ : ∃ w17, w17 = setCells w16 (⟨b1, 0, none⟩ : Addr) 0 [.int .i64 r28, .int .i64 r29, .int .i64 r30, .slice r31 r31n r31c, .slice r32 r32n r32c] := ⟨_, rfl⟩
     replace h := h w17 hw_w17
     refine LW.eff hL rfl (Wants.free rfl) rfl (stNE hw_w17 (Ef.stN (cs := [.int .i64 r28, .int .i64 r29, .int .i64 r30, .slice r31 r31n r31c, .slice r32 r32n r32c]) rfl rfl (by kernel_rfl) (List.forall_mem_cons.2 ⟨rfl, (List.forall_mem_cons.2 ⟨rfl, (List.forall_mem_cons.2 ⟨rfl, (List.forall_mem_cons.2 ⟨rfl, (List.forall_mem_cons.2 ⟨rfl, (List.forall_mem_nil _)⟩)⟩)⟩)⟩)⟩) ho6 hf6)) ?_
     refine LW.nil hL rfl ?_
     refine NW.block ?_
     refine NW.then ?_
     refine CW.region fun L hL => ?_
     refine LW.rd hL rfl (Wants.free rfl) rfl (Rd.move (v := .int .i64 s1) rfl) ?_
     refine LW.rd hL rfl (Wants.free rfl) rfl (Rd.bin (v := .int .i64 (IntKind.wrap .i64 (s1 + 1))) rfl rfl (fun w => by kernel_rfl)) ?_
     refine LW.rd hL rfl (Wants.free rfl) rfl (Rd.assign (v := .int .i64 (IntKind.wrap .i64 (s1 + 1))) rfl) ?_
     refine LW.nil hL rfl ?_
     exact NW.loop (S := Int) (Ek := fun s1 => [(2, .int .i64 n1), (3, .int .u32 set1), (4, .pointer (some (⟨b1, 0, none⟩ : Addr))), (5, .pointer (some (⟨b2, 0, none⟩ : Addr))), (8, .pointer (some (⟨b3, 0, none⟩ : Addr))), (9, .int .i64 0), (13, .int .i64 s1)]) (IntKind.wrap .i64 (s1 + 1)) (by exact ⟨rfl, rfl, rfl, rfl, rfl, rfl, rfl, trivial⟩) h
    ·replace h := h.2 hb10
     refine CW.exit ?_
     refine XW.then ?_
     refine XW.then ?_
     refine XW.hit ?_
     refine NW.then ?_
     refine CW.seq ?_
     refine CW.region fun L hL => ?_
     obtain ⟨t41, t42, t43, t44, t44n, t44c, t45, t45n, t45c, hc14, h⟩ := h
     refine LW.rd hL rfl (Wants.free rfl) rfl (Rd.ldN (cs := [.int .i64 t41, .int .i64 t42, .int .i64 t43, .slice t44 t44n t44c, .slice t45 t45n t45c]) rfl (by kernel_rfl) (by kernel_rfl) (cellsS hc14)) ?_
     obtain ⟨ho7, hf7, h⟩ := h
     obtain ⟨w18, hw_w18⟩ : ∃ w18, w18 = setCells w15 (⟨b3, 0, none⟩ : Addr) 0 [.int .i64 t41, .int .i64 t42, .int .i64 t43, .slice t44 t44n t44c, .slice t45 t45n t45c] := ⟨_, rfl⟩
     replace h := h w18 hw_w18
     refine LW.eff hL rfl (Wants.free rfl) rfl (stNE hw_w18 (Ef.stN (cs := [.int .i64 t41, .int .i64 t42, .int .i64 t43, .slice t44 t44n t44c, .slice t45 t45n t45c]) rfl rfl (by kernel_rfl) (List.forall_mem_cons.2 ⟨rfl, (List.forall_mem_cons.2 ⟨rfl, (List.forall_mem_cons.2 ⟨rfl, (List.forall_mem_cons.2 ⟨rfl, (List.forall_mem_cons.2 ⟨rfl, (List.forall_mem_nil _)⟩)⟩)⟩)⟩)⟩) ho7 hf7)) ?_
     refine LW.rd hL rfl (Wants.free rfl) rfl (Rd.assign (v := .int .i64 0) rfl) ?_
     refine LW.nil hL rfl ?_
     refine NW.then ?_
     refine CW.ret ?_
     obtain ⟨r33, r34, r35, r36, r36n, r36c, r37, r37n, r37c, hr4, h⟩ := h
     exact resN (vs := [.agg #[.int .i64 r33, .int .i64 r34, .int .i64 r35, .slice r36 r36n r36c, .slice r37 r37n r37c], .int .i64 0]) (ResOK.c rfl (lvN (cs := [.int .i64 r33, .int .i64 r34, .int .i64 r35, .slice r36 r36n r36c, .slice r37 r37n r37c]) (by kernel_rfl) (by kernel_rfl) (cellsAt_get hr4)) (ResOK.t rfl ResOK.nil)) rfl ⟨r33, r34, r35, r36, r36n, r36c, r37, r37n, r37c, 0, rfl, h⟩
/- pomander/labels.New -/
def V_labels_New (most1 : Int) (w : World) (R : (Option Addr) → Int → World → Prop) : Prop :=
 ((decide (most1 < 1) || decide (most1 > 65536)) = true → R none 2 w) ∧ ((decide (most1 < 1) || decide (most1 > 65536)) = false → ∀ b1 : Nat, b1 = World.size w → ∀ w1 : World, w1 = World.alloc w (.cells #[.int .u32 0] 43) → (∀ b2 : Nat, b2 = World.size w1 → ∀ w2 : World, w2 = World.alloc w1 (.map #[] 0) → (∃ w3 : World, (Instr.mapUpdate 127 (.map (some b2)) (.int .u32 0) (.int .i64 0)).run Tryz.prog w2 = .ok () w3 ∧ (∀ b3 : Nat, b3 = World.size w3 → ∀ w4 : World, w4 = World.alloc w3 (.map #[] 0) → (∀ b4 : Nat, b4 = World.size w4 → ∀ w5 : World, w5 = World.alloc w4 (.cells #[.int .i64 most1, .slice (some (⟨b1, 0, none⟩ : Addr)) 1 1, .map (some b2), .map (some b3)] 130) → (R (some (⟨b4, 0, none⟩ : Addr)) 0 w5))))))
set_option maxRecDepth 100000 in
theorem ok_labels_New (most1 : Int) (w : World) (R : (Option Addr) → Int → World → Prop) (h : V_labels_New most1 w R) : Calls Tryz.prog 33 #[.int .i64 most1] w (fun e w' => ∃ (r1 : Option Addr) (r2 : Int), e = .returned (.tuple #[.pointer r1, .int .i64 r2]) ∧ R r1 r2 w') := by
 unfold V_labels_New at h
 refine enter (N := 17) Tryz.func33 rfl rfl ?_
 refine CW.seq ?_
 refine CW.region fun L hL => ?_
 refine LW.rd hL rfl (Wants.free rfl) rfl (Rd.assign (v := .pointer none) rfl) ?_
 refine LW.rd hL rfl (Wants.free rfl) rfl (Rd.assign (v := .int .i64 0) rfl) ?_
 refine LW.nil hL rfl ?_
 refine NW.then ?_
 refine CW.seq ?_
 refine CW.seq ?_
 refine CW.region fun L hL => ?_
 refine LW.rd hL rfl (Wants.free rfl) rfl (Rd.move (v := .int .i64 most1) rfl) ?_
 refine LW.rd hL rfl (Wants.free rfl) rfl (Rd.bin (v := .bool (decide (most1 < 1))) rfl rfl (fun w => by kernel_rfl)) ?_
 refine LW.rd hL rfl (Wants.free rfl) rfl (Rd.move (v := .bool (decide (most1 < 1))) rfl) ?_
 suffices K1 : L 6 [(0, .int .i64 most1), (2, .pointer none), (3, .int .i64 0), (9, .bool (decide (most1 < 1) || decide (most1 > 65536)))] w by
  rcases Bool.eq_false_or_eq_true (decide (most1 < 1)) with hb2 | hb2
  ·skip
   refine LW.skip hL rfl (Skips.on rfl rfl rfl rfl rfl hb2) rfl ?_
   refine LW.skip hL rfl (Skips.on rfl rfl rfl rfl rfl hb2) rfl ?_
   refine LW.rd hL rfl (Wants.free rfl) rfl (Rd.pickT rfl hb2 rfl) ?_
   exact LW.sub hL (by exact ⟨rfl, rfl, rfl, (by rw [hb2]; rfl), trivial⟩) K1
  ·skip
   refine LW.rd hL rfl (Wants.on rfl rfl rfl rfl rfl hb2) rfl (Rd.move (v := .int .i64 most1) rfl) ?_
   refine LW.rd hL rfl (Wants.on rfl rfl rfl rfl rfl hb2) rfl (Rd.bin (v := .bool (decide (most1 > 65536))) rfl rfl (fun w => by kernel_rfl)) ?_
   refine LW.rd hL rfl (Wants.free rfl) rfl (Rd.pickF rfl hb2 rfl) ?_
   exact LW.sub hL (by exact ⟨rfl, rfl, rfl, (by rw [hb2]; rfl), trivial⟩) K1
 refine LW.nil hL rfl ?_
 refine NW.then ?_
 refine CW.cond rfl (fun hb3 => ?_) (fun hb3 => ?_)
 ·replace h := h.1 hb3
  refine CW.seq ?_
  refine CW.region fun L hL => ?_
  refine LW.rd hL rfl (Wants.free rfl) rfl (Rd.assign (v := .pointer none) rfl) ?_
  refine LW.rd hL rfl (Wants.free rfl) rfl (Rd.assign (v := .int .i64 2) rfl) ?_
  refine LW.nil hL rfl ?_
  refine NW.then ?_
  refine CW.ret ?_
  refine RW.then ?_
  exact res2 rfl rfl rfl ⟨none, 2, rfl, h⟩
 ·replace h := h.2 hb3
  refine CW.skip ?_
  refine NW.then ?_
  refine CW.seq ?_
  refine CW.region fun L hL => ?_
  refine LW.rd hL rfl (Wants.free rfl) rfl (Rd.move (v := .int .i64 most1) rfl) ?_
  obtain ⟨b1, hb_b1⟩ : ∃ b1, b1 = World.size w := ⟨_, rfl⟩
  obtain ⟨w1, hw_w1⟩ : ∃ w1, w1 = World.alloc w (.cells #[.int .u32 0] 43) := ⟨_, rfl⟩
  replace h := h b1 hb_b1 w1 hw_w1
  refine LW.val hL rfl (Wants.free rfl) rfl (sliceE (n := 1) hb_b1 hw_w1 (fun w => Vl.buildSlice (vs := [(0, .int .u32 0)]) rfl (by kernel_rfl))) ?_
  obtain ⟨b2, hb_b2⟩ : ∃ b2, b2 = World.size w1 := ⟨_, rfl⟩
  obtain ⟨w2, hw_w2⟩ : ∃ w2, w2 = World.alloc w1 (.map #[] 0) := ⟨_, rfl⟩
  replace h := h b2 hb_b2 w2 hw_w2
  refine LW.val hL rfl (Wants.free rfl) rfl (mapE hb_b2 hw_w2 Vl.makeMap) ?_
  obtain ⟨w3, hm1, h⟩ := h
  refine LW.eff hL rfl (Wants.free rfl) rfl (Ef.insert rfl rfl rfl hm1) ?_
  refine LW.rd hL rfl (Wants.free rfl) rfl (Rd.move (v := .map (some b2)) rfl) ?_
  obtain ⟨b3, hb_b3⟩ : ∃ b3, b3 = World.size w3 := ⟨_, rfl⟩
  obtain ⟨w4, hw_w4⟩ : ∃ w4, w4 = World.alloc w3 (.map #[] 0) := ⟨_, rfl⟩
  replace h := h b3 hb_b3 w4 hw_w4
  refine LW.val hL rfl (Wants.free rfl) rfl (mapE hb_b3 hw_w4 Vl.makeMap) ?_
  refine LW.rd hL rfl (Wants.free rfl) rfl (Rd.build (v := .agg #[.int .i64 most1, .slice (some (⟨b1, 0, none⟩ : Addr)) 1 1, .map (some b2), .map (some b3)]) rfl (fun _ => by kernel_rfl)) ?_
  obtain ⟨b4, hb_b4⟩ : ∃ b4, b4 = World.size w4 := ⟨_, rfl⟩
  obtain ⟨w5, hw_w5⟩ : ∃ w5, w5 = World.alloc w4 (.cells #[.int .i64 most1, .slice (some (⟨b1, 0, none⟩ : Addr)) 1 1, .map (some b2), .map (some b3)] 130) := ⟨_, rfl⟩
  replace h := h b4 hb_b4 w5 hw_w5
  refine LW.val hL rfl (Wants.free rfl) rfl (boxE hb_b4 hw_w5 (Vl.box (v := .agg #[.int .i64 most1, .slice (some (⟨b1, 0, none⟩ : Addr)) 1 1, .map (some b2), .map (some b3)]) rfl)) ?_
  refine LW.rd hL rfl (Wants.free rfl) rfl (Rd.assign (v := .pointer (some (⟨b4, 0, none⟩ : Addr))) rfl) ?_
  refine LW.rd hL rfl (Wants.free rfl) rfl (Rd.assign (v := .int .i64 0) rfl) ?_
  refine LW.nil hL rfl ?_
  refine NW.then ?_
  refine CW.ret ?_
  exact res2 rfl rfl rfl ⟨some (⟨b4, 0, none⟩ : Addr), 0, rfl, h⟩
/- pomander/pomanderref02.New -/
def V_pomanderref02_New (most1 : Int) (w : World) (R : Int → (Option Addr) → Nat → Nat → World → Prop) : Prop :=
 ∀ b1 : Nat, b1 = World.size w → ∀ w1 : World, w1 = World.alloc w (.cells #[.int .i64 0, .slice none 0 0] 61) → (∀ b2 : Nat, b2 = World.size w1 → ∀ w2 : World, w2 = World.alloc w1 (.cells #[.int .u32 0] 43) → (Has w2 (⟨b1, 0, none⟩ : Addr) 2 ∧ Free w2 (⟨b1, 0, none⟩ : Addr) 2 ∧ ∀ w3 : World, w3 = setCells w2 (⟨b1, 0, none⟩ : Addr) 0 [.int .i64 most1, .slice (some (⟨b2, 0, none⟩ : Addr)) 1 1] → (∃ (r3 : Int) (r4 : Option Addr) (r4n : Nat) (r4c : Nat), CellsAt w3 (⟨b1, 0, none⟩ : Addr) 0 [.int .i64 r3, .slice r4 r4n r4c] ∧ R r3 r4 r4n r4c w3)))
set_option maxRecDepth 100000 in
theorem ok_pomanderref02_New (most1 : Int) (w : World) (R : Int → (Option Addr) → Nat → Nat → World → Prop) (h : V_pomanderref02_New most1 w R) : Calls Tryz.prog 35 #[.int .i64 most1] w (fun e w' => ∃ (r1 : Int) (r2 : Option Addr) (r2n : Nat) (r2c : Nat), e = .returned (.agg #[.int .i64 r1, .slice r2 r2n r2c]) ∧ R r1 r2 r2n r2c w') := by
 unfold V_pomanderref02_New at h
 refine enter (N := 6) Tryz.func35 rfl rfl ?_
 refine CW.seq ?_
 refine CW.region fun L hL => ?_
 obtain ⟨b1, hb_b1⟩ : ∃ b1, b1 = World.size w := ⟨_, rfl⟩
 obtain ⟨w1, hw_w1⟩ : ∃ w1, w1 = World.alloc w (.cells #[.int .i64 0, .slice none 0 0] 61) := ⟨_, rfl⟩
 replace h := h b1 hb_b1 w1 hw_w1
 refine LW.val hL rfl (Wants.free rfl) rfl (boxE hb_b1 hw_w1 (Vl.alloc (z := .agg #[.int .i64 0, .slice none 0 0]) (by kernel_rfl))) ?_
 refine LW.nil hL rfl ?_
 refine NW.then ?_
 refine CW.seq ?_
 refine CW.region fun L hL => ?_
 refine LW.rd hL rfl (Wants.free rfl) rfl (Rd.move (v := .int .i64 most1) rfl) ?_
 obtain ⟨b2, hb_b2⟩ : ∃ b2, b2 = World.size w1 := ⟨_, rfl⟩
 obtain ⟨w2, hw_w2⟩ : ∃ w2, w2 = World.alloc w1 (.cells #[.int .u32 0] 43) := ⟨_, rfl⟩
 replace h := h b2 hb_b2 w2 hw_w2
 refine LW.val hL rfl (Wants.free rfl) rfl (sliceE (n := 1) hb_b2 hw_w2 (fun w => Vl.buildSlice (vs := [(0, .int .u32 0)]) rfl (by kernel_rfl))) ?_
 refine LW.rd hL rfl (Wants.free rfl) rfl (Rd.build (v := .agg #[.int .i64 most1, .slice (some (⟨b2, 0, none⟩ : Addr)) 1 1]) rfl (fun _ => by kernel_rfl)) ?_
 obtain ⟨ho1, hf1, h⟩ := h
 obtain ⟨w3, hw_w3⟩ : ∃ w3, w3 = setCells w2 (⟨b1, 0, none⟩ : Addr) 0 [.int .i64 most1, .slice (some (⟨b2, 0, none⟩ : Addr)) 1 1] := ⟨_, rfl⟩
 replace h := h w3 hw_w3
 refine LW.eff hL rfl (Wants.free rfl) rfl (stNE hw_w3 (Ef.stN (cs := [.int .i64 most1, .slice (some (⟨b2, 0, none⟩ : Addr)) 1 1]) rfl rfl (by kernel_rfl) (List.forall_mem_cons.2 ⟨rfl, (List.forall_mem_cons.2 ⟨rfl, (List.forall_mem_nil _)⟩)⟩) ho1 hf1)) ?_
 refine LW.nil hL rfl ?_
 refine NW.then ?_
 refine CW.ret ?_
 obtain ⟨r3, r4, r4n, r4c, hr1, h⟩ := h
 exact resN (vs := [.agg #[.int .i64 r3, .slice r4 r4n r4c]]) (ResOK.c rfl (lvN (cs := [.int .i64 r3, .slice r4 r4n r4c]) (by kernel_rfl) (by kernel_rfl) (cellsAt_get hr1)) ResOK.nil) rfl ⟨r3, r4, r4n, r4c, rfl, h⟩
/- (*pomander/flow.Flow).none -/
def V_flow_Flow_none (f1 : Option Addr) (w : World) (R : Bool → World → Prop) : Prop :=
 ∃ J1 : Bool → World → Prop, (∀ (b1 : Bool) (w1 : World), J1 b1 w1 → R b1 w1) ∧ (((Option.isNone f1) = false → ∃ a1 : Addr, f1 = some a1 ∧ (∃ (t1 : Option Addr), w.cell? (a1.add 2) = some (.pointer t1) ∧ (J1 (Option.isNone t1) w))) ∧ ((Option.isNone f1) = true → J1 true w))
set_option maxRecDepth 100000 in
theorem ok_flow_Flow_none (f1 : Option Addr) (w : World) (R : Bool → World → Prop) (h : V_flow_Flow_none f1 w R) : Calls Tryz.prog 36 #[.pointer f1] w (fun e w' => ∃ (r1 : Bool), e = .returned (.bool r1) ∧ R r1 w') := by
 unfold V_flow_Flow_none at h
 refine enter (N := 12) Tryz.func36 rfl rfl ?_
 refine CW.seq ?_
 refine CW.region fun L hL => ?_
 refine LW.rd hL rfl (Wants.free rfl) rfl (Rd.assign (v := .bool false) rfl) ?_
 refine LW.nil hL rfl ?_
 refine NW.then ?_
 refine CW.seq ?_
 refine CW.region fun L hL => ?_
 refine LW.rd hL rfl (Wants.free rfl) rfl (Rd.move (v := .pointer f1) rfl) ?_
 refine LW.rd hL rfl (Wants.free rfl) rfl (Rd.bin (v := .bool (Option.isNone f1)) rfl rfl (fun w => ptr_nil_eq (by kernel_rfl) f1 w)) ?_
 refine LW.rd hL rfl (Wants.free rfl) rfl (Rd.move (v := .bool (Option.isNone f1)) rfl) ?_
 obtain ⟨J1, hJ1, h1_J1, h0_J1⟩ := h
 suffices K1 : ∀ (b1 : Bool) (w1 : World), J1 b1 w1 → L 9 [(2, .bool false), (11, .bool b1)] w1 by
  rcases Bool.eq_false_or_eq_true (Option.isNone f1) with hb1 | hb1
  ·have h := h0_J1 hb1
   refine LW.skip hL rfl (Skips.on rfl rfl rfl rfl rfl hb1) rfl ?_
   refine LW.skip hL rfl (Skips.on rfl rfl rfl rfl rfl hb1) rfl ?_
   refine LW.skip hL rfl (Skips.on rfl rfl rfl rfl rfl hb1) rfl ?_
   refine LW.skip hL rfl (Skips.on rfl rfl rfl rfl rfl hb1) rfl ?_
   refine LW.skip hL rfl (Skips.on rfl rfl rfl rfl rfl hb1) rfl ?_
   refine LW.rd hL rfl (Wants.free rfl) rfl (Rd.pickT rfl hb1 rfl) ?_
   exact LW.sub hL (by exact ⟨rfl, rfl, trivial⟩) (K1 true w h)
  ·have h := h1_J1 hb1
   refine LW.rd hL rfl (Wants.on rfl rfl rfl rfl rfl hb1) rfl (Rd.move (v := .pointer f1) rfl) ?_
   obtain ⟨a1, ha1, h⟩ := h
   refine LW.rd hL rfl (Wants.on rfl rfl rfl rfl rfl hb1) rfl (Rd.nil (q := a1) (by rw [← ha1]; rfl)) ?_
   refine LW.rd hL rfl (Wants.on rfl rfl rfl rfl rfl hb1) rfl (Rd.fa (v := .pointer (some (a1.add 2))) rfl (fun _ => by kernel_rfl)) ?_
   obtain ⟨t1, hc1, h⟩ := h
   refine LW.rd hL rfl (Wants.on rfl rfl rfl rfl rfl hb1) rfl (Rd.ld (v := .pointer t1) rfl (by kernel_rfl) (eqs hc1)) ?_
   refine LW.rd hL rfl (Wants.on rfl rfl rfl rfl rfl hb1) rfl (Rd.bin (v := .bool (Option.isNone t1)) rfl rfl (fun w => ptr_nil_eq (by kernel_rfl) t1 w)) ?_
   refine LW.rd hL rfl (Wants.free rfl) rfl (Rd.pickF rfl hb1 rfl) ?_
   exact LW.sub hL (by exact ⟨rfl, rfl, trivial⟩) (K1 (Option.isNone t1) w h)
 intro b1 w1 h_
 have h := hJ1 b1 w1 h_; clear h_
 refine LW.rd hL rfl (Wants.free rfl) rfl (Rd.assign (v := .bool b1) rfl) ?_
 refine LW.nil hL rfl ?_
 refine NW.then ?_
 refine CW.ret ?_
 exact res1 rfl rfl ⟨b1, rfl, h⟩
/- (*pomander/flow.Flow).may -/
def V_flow_Flow_may (f1 : Option Addr) (p1 : Int) (p2 : Int) (w : World) (R : Bool → World → Prop) : Prop :=
 ∀ b1 : Nat, b1 = World.size w → ∀ w1 : World, w1 = World.alloc w (.cells #[.int .i64 p1, .int .i64 p2] 25) → (∀ w2 : World, w2 = World.drew w1 → ∃ (t1 : Int), w2.cell? (⟨b1, 0, none⟩ : Addr) = some (.int .i64 t1) ∧ (∃ (t2 : Int), w2.cell? (⟨b1, 1, none⟩ : Addr) = some (.int .i64 t2) ∧ (∃ J1 : Bool → World → Prop, (∀ (b2 : Bool) (w3 : World), J1 b2 w3 → ∃ J2 : Bool → World → Prop, (∀ (b3 : Bool) (w4 : World), J2 b3 w4 → ∃ J3 : Bool → World → Prop, (∀ (b4 : Bool) (w5 : World), J3 b4 w5 → R b4 w5) ∧ ((b3 = true → Calls Tryz.prog 59 #[.pointer f1] w4 fun e w6 => ∃ (r2 : Value) (r3 : Value) (r4 : Value) (r5 : Value) (r6 : Value) (r7 : Value) (r8 : Value) (r9 : Value) (r10 : Value) (r11 : Value) (r12 : Value) (r13 : Value) (r14 : Value) (r15 : Value) (r16 : Value) (r17 : Value) (r18 : Value) (r19 : Value), e = .returned (.agg #[r2, r3, r4, r5, r6, r7, r8, r9, r10, r11, r12, r13, r14, r15, r16, r17, r18, r19]) ∧ ((w6.cell? (⟨b1, 0, none⟩ : Addr) = some (.int .i64 t1) ∧ w6.cell? (⟨b1, 1, none⟩ : Addr) = some (.int .i64 t2) ∧ True) ∧ (∃ (x1 : Value), (∀ w : World, (Instr.index 134 (.agg #[r2, r3, r4, r5, r6, r7, r8, r9, r10, r11, r12, r13, r14, r15, r16, r17, r18, r19]) (.int .i64 t1)).run Tryz.prog w = .ok (x1) w) ∧ (CallsV Tryz.prog x1 #[] w6 fun e w7 => ∃ (r20 : Int), e = .returned (.int .i64 r20) ∧ ((w7.cell? (⟨b1, 0, none⟩ : Addr) = some (.int .i64 t1) ∧ w7.cell? (⟨b1, 1, none⟩ : Addr) = some (.int .i64 t2) ∧ True) ∧ (J3 (decide (t2 < r20)) w7)))))) ∧ (b3 = false → J3 false w4))) ∧ ((b2 = true → J2 (decide (t2 ≥ 0)) w3) ∧ (b2 = false → J2 false w3))) ∧ (((decide (t1 ≥ 1)) = true → J1 (decide (t1 ≤ 17)) w2) ∧ ((decide (t1 ≥ 1)) = false → J1 false w2)))))
set_option maxRecDepth 100000 in
theorem ok_flow_Flow_may (f1 : Option Addr) (p1 : Int) (p2 : Int) (w : World) (R : Bool → World → Prop) (h : V_flow_Flow_may f1 p1 p2 w R) : Calls Tryz.prog 37 #[.pointer f1, .agg #[.int .i64 p1, .int .i64 p2]] w (fun e w' => ∃ (r1 : Bool), e = .returned (.bool r1) ∧ R r1 w') := by
 unfold V_flow_Flow_may at h
 refine enter (N := 29) Tryz.func37 rfl rfl ?_
 refine CW.seq ?_
 refine CW.region fun L hL => ?_
 obtain ⟨b1, hb_b1⟩ : ∃ b1, b1 = World.size w := ⟨_, rfl⟩
 obtain ⟨w1, hw_w1⟩ : ∃ w1, w1 = World.alloc w (.cells #[.int .i64 p1, .int .i64 p2] 25) := ⟨_, rfl⟩
 replace h := h b1 hb_b1 w1 hw_w1
 refine LW.val hL rfl (Wants.free rfl) rfl (boxE hb_b1 hw_w1 (Vl.box (v := .agg #[.int .i64 p1, .int .i64 p2]) rfl)) ?_
 refine LW.rd hL rfl (Wants.free rfl) rfl (Rd.assign (v := .bool false) rfl) ?_
 refine LW.nil hL rfl ?_
 refine NW.then ?_
 refine CW.seq ?_
 replace h := h _ rfl
 obtain ⟨t1, hc1, h⟩ := h
 obtain ⟨t2, hc2, h⟩ := h
 refine CW.drawn (fun w => w.cell? (⟨b1, 0, none⟩ : Addr) = some (.int .i64 t1) ∧ w.cell? (⟨b1, 1, none⟩ : Addr) = some (.int .i64 t2) ∧ True) 25 (by kernel_rfl) fun H hH => ?_
 generalize World.drew _ = w2 at *
 have hS1 : w2.cell? (⟨b1, 0, none⟩ : Addr) = some (.int .i64 t1) ∧ w2.cell? (⟨b1, 1, none⟩ : Addr) = some (.int .i64 t2) ∧ True := ⟨hc1, hc2, trivial⟩
 refine HW.pure (i := 0) hH rfl (by kernel_rfl) (Wants.free rfl) rfl (fun _ => hS1) (Rd.fa (v := .pointer (some (⟨b1, 0, none⟩ : Addr))) rfl (fun _ => by kernel_rfl)) ?_
 refine HW.take (i := 1) hH rfl (by kernel_rfl) (by kernel_rfl) (Wants.free rfl) rfl (fun _ => hS1) (Rd.ld (v := .int .i64 t1) rfl (by kernel_rfl) (fun w h => h.1)) ?_
 refine HW.pure (i := 2) hH rfl (by kernel_rfl) (Wants.free rfl) rfl (fun _ => hS1) (Rd.bin (v := .bool (decide (t1 ≥ 1))) rfl rfl (fun w => by kernel_rfl)) ?_
 refine HW.pure (i := 3) hH rfl (by kernel_rfl) (Wants.free rfl) rfl (fun _ => hS1) (Rd.move (v := .bool (decide (t1 ≥ 1))) rfl) ?_
 obtain ⟨J1, hJ1, h1_J1, h0_J1⟩ := h
 suffices K1 : ∀ (b2 : Bool) (w3 : World), (w3.cell? (⟨b1, 0, none⟩ : Addr) = some (.int .i64 t1) ∧ w3.cell? (⟨b1, 1, none⟩ : Addr) = some (.int .i64 t2) ∧ True) → J1 b2 w3 → H 17 #[true, true, true, true, true, true, true, true, false, false, false, false, false, false, false, false, false, false, false, false, false, false, false, false, false] [(0, .pointer f1), (3, .pointer (some (⟨b1, 0, none⟩ : Addr))), (4, .bool false), (12, .bool b2)] w3 by
  rcases Bool.eq_false_or_eq_true (decide (t1 ≥ 1)) with hb1 | hb1
  ·have h := h1_J1 hb1
   refine HW.pure (i := 4) hH rfl (by kernel_rfl) (Wants.on rfl rfl rfl rfl rfl hb1) rfl (fun _ => hS1) (Rd.fa (v := .pointer (some (⟨b1, 0, none⟩ : Addr))) rfl (fun _ => by kernel_rfl)) ?_
   refine HW.take (i := 5) hH rfl (by kernel_rfl) (by kernel_rfl) (Wants.on rfl rfl rfl rfl rfl hb1) rfl (fun _ => hS1) (Rd.ld (v := .int .i64 t1) rfl (by kernel_rfl) (fun w h => h.1)) ?_
   refine HW.pure (i := 6) hH rfl (by kernel_rfl) (Wants.on rfl rfl rfl rfl rfl hb1) rfl (fun _ => hS1) (Rd.bin (v := .bool (decide (t1 ≤ 17))) rfl rfl (fun w => by kernel_rfl)) ?_
   refine HW.pure (i := 7) hH rfl (by kernel_rfl) (Wants.free rfl) rfl (fun _ => hS1) (Rd.pickT rfl hb1 rfl) ?_
   exact HW.sub hH (by exact ⟨rfl, rfl, rfl, rfl, trivial⟩) (K1 (decide (t1 ≤ 17)) w2 hS1 h)
  ·have h := h0_J1 hb1
   refine HW.skip (i := 4) hH rfl (by kernel_rfl) (Skips.on rfl rfl rfl rfl rfl hb1) rfl (fun _ => hS1) ?_
   refine HW.skip (i := 5) hH rfl (by kernel_rfl) (Skips.on rfl rfl rfl rfl rfl hb1) rfl (fun _ => hS1) ?_
   refine HW.skip (i := 6) hH rfl (by kernel_rfl) (Skips.on rfl rfl rfl rfl rfl hb1) rfl (fun _ => hS1) ?_
   refine HW.pure (i := 7) hH rfl (by kernel_rfl) (Wants.free rfl) rfl (fun _ => hS1) (Rd.pickF rfl hb1 rfl) ?_
   exact HW.sub hH (by exact ⟨rfl, rfl, rfl, rfl, trivial⟩) (K1 false w2 hS1 h)
 intro b2 w3 hS2 h_
 have h := hJ1 b2 w3 h_; clear h_
 refine HW.pure (i := 8) hH rfl (by kernel_rfl) (Wants.free rfl) rfl (fun _ => hS2) (Rd.move (v := .bool b2) rfl) ?_
 obtain ⟨J2, hJ2, h1_J2, h0_J2⟩ := h
 suffices K2 : ∀ (b3 : Bool) (w4 : World), (w4.cell? (⟨b1, 0, none⟩ : Addr) = some (.int .i64 t1) ∧ w4.cell? (⟨b1, 1, none⟩ : Addr) = some (.int .i64 t2) ∧ True) → J2 b3 w4 → H 12 #[true, true, true, true, true, true, true, true, true, true, true, true, true, false, false, false, false, false, false, false, false, false, false, false, false] [(0, .pointer f1), (3, .pointer (some (⟨b1, 0, none⟩ : Addr))), (4, .bool false), (17, .bool b3)] w4 by
  rcases Bool.eq_false_or_eq_true b2 with hb2 | hb2
  ·have h := h1_J2 hb2
   refine HW.pure (i := 9) hH rfl (by kernel_rfl) (Wants.on rfl rfl rfl rfl rfl hb2) rfl (fun _ => hS2) (Rd.fa (v := .pointer (some (⟨b1, 1, none⟩ : Addr))) rfl (fun _ => by kernel_rfl)) ?_
   refine HW.take (i := 10) hH rfl (by kernel_rfl) (by kernel_rfl) (Wants.on rfl rfl rfl rfl rfl hb2) rfl (fun _ => hS2) (Rd.ld (v := .int .i64 t2) rfl (by kernel_rfl) (fun w h => h.2.1)) ?_
   refine HW.pure (i := 11) hH rfl (by kernel_rfl) (Wants.on rfl rfl rfl rfl rfl hb2) rfl (fun _ => hS2) (Rd.bin (v := .bool (decide (t2 ≥ 0))) rfl rfl (fun w => by kernel_rfl)) ?_
   refine HW.pure (i := 12) hH rfl (by kernel_rfl) (Wants.free rfl) rfl (fun _ => hS2) (Rd.pickT rfl hb2 rfl) ?_
   exact HW.sub hH (by exact ⟨rfl, rfl, rfl, rfl, trivial⟩) (K2 (decide (t2 ≥ 0)) w3 hS2 h)
  ·have h := h0_J2 hb2
   refine HW.skip (i := 9) hH rfl (by kernel_rfl) (Skips.on rfl rfl rfl rfl rfl hb2) rfl (fun _ => hS2) ?_
   refine HW.skip (i := 10) hH rfl (by kernel_rfl) (Skips.on rfl rfl rfl rfl rfl hb2) rfl (fun _ => hS2) ?_
   refine HW.skip (i := 11) hH rfl (by kernel_rfl) (Skips.on rfl rfl rfl rfl rfl hb2) rfl (fun _ => hS2) ?_
   refine HW.pure (i := 12) hH rfl (by kernel_rfl) (Wants.free rfl) rfl (fun _ => hS2) (Rd.pickF rfl hb2 rfl) ?_
   exact HW.sub hH (by exact ⟨rfl, rfl, rfl, rfl, trivial⟩) (K2 false w3 hS2 h)
 intro b3 w4 hS3 h_
 have h := hJ2 b3 w4 h_; clear h_
 refine HW.pure (i := 13) hH rfl (by kernel_rfl) (Wants.free rfl) rfl (fun _ => hS3) (Rd.move (v := .bool b3) rfl) ?_
 obtain ⟨J3, hJ3, h1_J3, h0_J3⟩ := h
 suffices K3 : ∀ (b4 : Bool) (w5 : World), (w5.cell? (⟨b1, 0, none⟩ : Addr) = some (.int .i64 t1) ∧ w5.cell? (⟨b1, 1, none⟩ : Addr) = some (.int .i64 t2) ∧ True) → J3 b4 w5 → H 1 #[true, true, true, true, true, true, true, true, true, true, true, true, true, true, true, true, true, true, true, true, true, true, true, true, false] [(4, .bool false), (28, .bool b4)] w5 by
  rcases Bool.eq_false_or_eq_true b3 with hb3 | hb3
  ·have h := h1_J3 hb3
   refine HW.pure (i := 14) hH rfl (by kernel_rfl) (Wants.on rfl rfl rfl rfl rfl hb3) rfl (fun _ => hS3) (Rd.fa (v := .pointer (some (⟨b1, 1, none⟩ : Addr))) rfl (fun _ => by kernel_rfl)) ?_
   refine HW.take (i := 15) hH rfl (by kernel_rfl) (by kernel_rfl) (Wants.on rfl rfl rfl rfl rfl hb3) rfl (fun _ => hS3) (Rd.ld (v := .int .i64 t2) rfl (by kernel_rfl) (fun w h => h.2.1)) ?_
   refine HW.pure (i := 16) hH rfl (by kernel_rfl) (Wants.on rfl rfl rfl rfl rfl hb3) rfl (fun _ => hS3) (Rd.move (v := .pointer f1) rfl) ?_
   refine HW.pure (i := 18) hH rfl (by kernel_rfl) (Wants.on rfl rfl rfl rfl rfl hb3) rfl (fun _ => hS3) (Rd.fa (v := .pointer (some (⟨b1, 0, none⟩ : Addr))) rfl (fun _ => by kernel_rfl)) ?_
   refine HW.take (i := 19) hH rfl (by kernel_rfl) (by kernel_rfl) (Wants.on rfl rfl rfl rfl rfl hb3) rfl (fun _ => hS3) (Rd.ld (v := .int .i64 t1) rfl (by kernel_rfl) (fun w h => h.1)) ?_
   refine HW.call (i := 17) hH (by kernel_rfl) rfl (Wants.on rfl rfl rfl rfl rfl hb3) rfl (Cl.fn (f := 59) rfl Tryz.func59 (by kernel_rfl) rfl) h (fun e w6 h_ => ?_)
   clear h
   obtain ⟨r2, r3, r4, r5, r6, r7, r8, r9, r10, r11, r12, r13, r14, r15, r16, r17, r18, r19, rfl, hS4, h⟩ := h_
   refine ⟨_, rfl, (fun _ => hS4), ?_⟩
   obtain ⟨x1, hx1, h⟩ := h
   refine HW.pure (i := 20) hH rfl (by kernel_rfl) (Wants.on rfl rfl rfl rfl rfl hb3) rfl (fun _ => hS4) (Rd.index (v := x1) rfl rfl hx1) ?_
   obtain ⟨f2, cap_f2, fn_f2, he_f2, hf_f2, hn_f2, hb_f2, h⟩ := h
   refine HW.call (i := 21) hH (by kernel_rfl) rfl (Wants.on rfl rfl rfl rfl rfl hb3) rfl (Cl.fv (f := f2) (cap := cap_f2) (by rw [← he_f2]; rfl) rfl hf_f2 hn_f2 hb_f2) h (fun e w7 h_ => ?_)
   clear h
   obtain ⟨r20, rfl, hS5, h⟩ := h_
   refine ⟨_, rfl, (fun _ => hS5), ?_⟩
   refine HW.pure (i := 22) hH rfl (by kernel_rfl) (Wants.on rfl rfl rfl rfl rfl hb3) rfl (fun _ => hS5) (Rd.bin (v := .bool (decide (t2 < r20))) rfl rfl (fun w => by kernel_rfl)) ?_
   refine HW.pure (i := 23) hH rfl (by kernel_rfl) (Wants.free rfl) rfl (fun _ => hS5) (Rd.pickT rfl hb3 rfl) ?_
   exact HW.sub hH (by exact ⟨rfl, rfl, trivial⟩) (K3 (decide (t2 < r20)) w7 hS5 h)
  ·have h := h0_J3 hb3
   refine HW.skip (i := 14) hH rfl (by kernel_rfl) (Skips.on rfl rfl rfl rfl rfl hb3) rfl (fun _ => hS3) ?_
   refine HW.skip (i := 15) hH rfl (by kernel_rfl) (Skips.on rfl rfl rfl rfl rfl hb3) rfl (fun _ => hS3) ?_
   refine HW.skip (i := 16) hH rfl (by kernel_rfl) (Skips.on rfl rfl rfl rfl rfl hb3) rfl (fun _ => hS3) ?_
   refine HW.skip (i := 17) hH rfl (by kernel_rfl) (Skips.on rfl rfl rfl rfl rfl hb3) rfl (fun _ => hS3) ?_
   refine HW.skip (i := 18) hH rfl (by kernel_rfl) (Skips.on rfl rfl rfl rfl rfl hb3) rfl (fun _ => hS3) ?_
   refine HW.skip (i := 19) hH rfl (by kernel_rfl) (Skips.on rfl rfl rfl rfl rfl hb3) rfl (fun _ => hS3) ?_
   refine HW.skip (i := 20) hH rfl (by kernel_rfl) (Skips.on rfl rfl rfl rfl rfl hb3) rfl (fun _ => hS3) ?_
   refine HW.skip (i := 21) hH rfl (by kernel_rfl) (Skips.on rfl rfl rfl rfl rfl hb3) rfl (fun _ => hS3) ?_
   refine HW.skip (i := 22) hH rfl (by kernel_rfl) (Skips.on rfl rfl rfl rfl rfl hb3) rfl (fun _ => hS3) ?_
   refine HW.pure (i := 23) hH rfl (by kernel_rfl) (Wants.free rfl) rfl (fun _ => hS3) (Rd.pickF rfl hb3 rfl) ?_
   exact HW.sub hH (by exact ⟨rfl, rfl, trivial⟩) (K3 false w4 hS3 h)
 intro b4 w5 hS6 h_
 have h := hJ3 b4 w5 h_; clear h_
 refine HW.pure (i := 24) hH rfl (by kernel_rfl) (Wants.free rfl) rfl (fun _ => hS6) (Rd.assign (v := .bool b4) rfl) ?_
 refine HW.done hH (by kernel_rfl) ?_
 refine NW.then ?_
 refine CW.ret ?_
 exact res1 rfl rfl ⟨b4, rfl, h⟩
/- (*pomander/flow.Flow).keep -/
def V_flow_Flow_keep (f1 : Option Addr) (set1 : Int) (w : World) (R : Int → World → Prop) : Prop :=
 ∃ a1 : Addr, f1 = some a1 ∧ (∃ (t1 : Option Addr), w.cell? (a1.add 2) = some (.pointer t1) ∧ (Calls Tryz.prog 60 #[.pointer t1, .int .u32 set1] w fun e w1 => ∃ (r2 : Int) (r3 : Int), e = .returned (.tuple #[.int .i64 r2, .int .i64 r3]) ∧ (R r3 w1)))
set_option maxRecDepth 100000 in
theorem ok_flow_Flow_keep (f1 : Option Addr) (set1 : Int) (w : World) (R : Int → World → Prop) (h : V_flow_Flow_keep f1 set1 w R) : Calls Tryz.prog 38 #[.pointer f1, .int .u32 set1] w (fun e w' => ∃ (r1 : Int), e = .returned (.int .i64 r1) ∧ R r1 w') := by
 unfold V_flow_Flow_keep at h
 refine enter (N := 17) Tryz.func38 rfl rfl ?_
 refine CW.seq ?_
 refine CW.region fun L hL => ?_
 refine LW.rd hL rfl (Wants.free rfl) rfl (Rd.assign (v := .int .i64 0) rfl) ?_
 refine LW.nil hL rfl ?_
 refine NW.then ?_
 refine CW.seq ?_
 refine CW.region fun L hL => ?_
 refine LW.rd hL rfl (Wants.free rfl) rfl (Rd.move (v := .pointer f1) rfl) ?_
 obtain ⟨a1, ha1, h⟩ := h
 refine LW.rd hL rfl (Wants.free rfl) rfl (Rd.nil (q := a1) (by rw [← ha1]; rfl)) ?_
 refine LW.rd hL rfl (Wants.free rfl) rfl (Rd.fa (v := .pointer (some (a1.add 2))) rfl (fun _ => by kernel_rfl)) ?_
 obtain ⟨t1, hc1, h⟩ := h
 refine LW.rd hL rfl (Wants.free rfl) rfl (Rd.ld (v := .pointer t1) rfl (by kernel_rfl) (eqs hc1)) ?_
 refine LW.rd hL rfl (Wants.free rfl) rfl (Rd.move (v := .int .u32 set1) rfl) ?_
 refine LW.call hL rfl (Wants.free rfl) rfl (Cl.fn (f := 60) rfl Tryz.func60 (by kernel_rfl) rfl) h (fun e w1 h_ => ?_)
 clear h
 obtain ⟨r2, r3, rfl, h⟩ := h_
 refine ⟨_, rfl, ?_⟩
 refine LW.rd hL rfl (Wants.free rfl) rfl (Rd.move (v := .tuple #[.int .i64 r2, .int .i64 r3]) rfl) ?_
 refine LW.rd hL rfl (Wants.free rfl) rfl (Rd.extract (v := .int .i64 r2) rfl rfl) ?_
 refine LW.rd hL rfl (Wants.free rfl) rfl (Rd.extract (v := .int .i64 r3) rfl rfl) ?_
 refine LW.rd hL rfl (Wants.free rfl) rfl (Rd.assign (v := .int .i64 r2) rfl) ?_
 refine LW.rd hL rfl (Wants.free rfl) rfl (Rd.assign (v := .int .i64 r3) rfl) ?_
 refine LW.nil hL rfl ?_
 refine NW.then ?_
 refine CW.seq ?_
 refine CW.region fun L hL => ?_
 refine LW.rd hL rfl (Wants.free rfl) rfl (Rd.move (v := .int .i64 r3) rfl) ?_
 refine LW.rd hL rfl (Wants.free rfl) rfl (Rd.assign (v := .int .i64 r3) rfl) ?_
 refine LW.nil hL rfl ?_
 refine NW.then ?_
 refine CW.ret ?_
 exact res1 rfl rfl ⟨r3, rfl, h⟩
/- (*pomander/flow.Flow).put -/
def V_flow_Flow_put (f1 : Option Addr) (p1 : Int) (p2 : Int) (set1 : Int) (w : World) (R : World → Prop) : Prop :=
 ∀ b1 : Nat, b1 = World.size w → ∀ w1 : World, w1 = World.alloc w (.cells #[.int .i64 p1, .int .i64 p2] 25) → (∃ (t1 : Int), w1.cell? (⟨b1, 0, none⟩ : Addr) = some (.int .i64 t1) ∧ (((t1 == 10) = true → ∀ w2 : World, w2 = World.drew w1 → ∃ a1 : Addr, f1 = some a1 ∧ (∃ (t2 : Option Addr), w2.cell? (a1.add 3) = some (.pointer t2) ∧ (∃ (t3 : Int), w2.cell? (⟨b1, 1, none⟩ : Addr) = some (.int .i64 t3) ∧ (Calls Tryz.prog 61 #[.pointer t2, .int .i64 t3, .int .u32 set1] w2 fun e w3 => ∃ (r1 : Int), e = .returned (.int .i64 r1) ∧ (R w3))))) ∧ ((t1 == 10) = false → ∃ (t4 : Int), w1.cell? (⟨b1, 0, none⟩ : Addr) = some (.int .i64 t4) ∧ (((t4 == 12) = true → ∀ w4 : World, w4 = World.drew w1 → ∃ a2 : Addr, f1 = some a2 ∧ (∃ (t5 : Option Addr), w4.cell? (a2.add 4) = some (.pointer t5) ∧ (∃ (t6 : Int), w4.cell? (⟨b1, 1, none⟩ : Addr) = some (.int .i64 t6) ∧ (Calls Tryz.prog 61 #[.pointer t5, .int .i64 t6, .int .u32 set1] w4 fun e w5 => ∃ (r2 : Int), e = .returned (.int .i64 r2) ∧ (R w5))))) ∧ ((t4 == 12) = false → ((set1 == 0) = true → ∀ w6 : World, w6 = World.drew w1 → ∃ a3 : Addr, f1 = some a3 ∧ (∃ (t7 : Option Nat), w6.cell? (a3.add 5) = some (.map t7) ∧ (∃ (t8 : Int) (t9 : Int), CellsAt w6 (⟨b1, 0, none⟩ : Addr) 0 [.int .i64 t8, .int .i64 t9] ∧ (∃ w7 : World, (Builtin.delete_ #[99, 25] 0 #[.map t7, .agg #[.int .i64 t8, .int .i64 t9]]).run Tryz.prog w6 = .ok (.tuple #[]) w7 ∧ (R w7))))) ∧ ((set1 == 0) = false → ∀ w8 : World, w8 = World.drew w1 → ∃ a4 : Addr, f1 = some a4 ∧ (∃ (t10 : Option Nat), w8.cell? (a4.add 5) = some (.map t10) ∧ (∃ (t11 : Int) (t12 : Int), CellsAt w8 (⟨b1, 0, none⟩ : Addr) 0 [.int .i64 t11, .int .i64 t12] ∧ (∃ w9 : World, (Instr.mapUpdate 99 (.map t10) (.agg #[.int .i64 t11, .int .i64 t12]) (.int .u32 set1)).run Tryz.prog w8 = .ok () w9 ∧ (R w9))))))))))
set_option maxRecDepth 100000 in
theorem ok_flow_Flow_put (f1 : Option Addr) (p1 : Int) (p2 : Int) (set1 : Int) (w : World) (R : World → Prop) (h : V_flow_Flow_put f1 p1 p2 set1 w R) : Calls Tryz.prog 39 #[.pointer f1, .agg #[.int .i64 p1, .int .i64 p2], .int .u32 set1] w (fun e w' => e = .returned (.tuple #[]) ∧ R w') := by
 unfold V_flow_Flow_put at h
 refine enter (N := 44) Tryz.func39 rfl rfl ?_
 refine CW.seq ?_
 refine CW.region fun L hL => ?_
 obtain ⟨b1, hb_b1⟩ : ∃ b1, b1 = World.size w := ⟨_, rfl⟩
 obtain ⟨w1, hw_w1⟩ : ∃ w1, w1 = World.alloc w (.cells #[.int .i64 p1, .int .i64 p2] 25) := ⟨_, rfl⟩
 replace h := h b1 hb_b1 w1 hw_w1
 refine LW.val hL rfl (Wants.free rfl) rfl (boxE hb_b1 hw_w1 (Vl.box (v := .agg #[.int .i64 p1, .int .i64 p2]) rfl)) ?_
 refine LW.nil hL rfl ?_
 refine NW.then ?_
 refine CW.block ?_
 refine CW.seq ?_
 refine CW.region fun L hL => ?_
 refine LW.rd hL rfl (Wants.free rfl) rfl (Rd.fa (v := .pointer (some (⟨b1, 0, none⟩ : Addr))) rfl (fun _ => by kernel_rfl)) ?_
 obtain ⟨t1, hc1, h⟩ := h
 refine LW.rd hL rfl (Wants.free rfl) rfl (Rd.ld (v := .int .i64 t1) rfl (by kernel_rfl) (eqs hc1)) ?_
 refine LW.rd hL rfl (Wants.free rfl) rfl (Rd.bin (v := .bool (t1 == 10)) rfl rfl (fun w => by kernel_rfl)) ?_
 refine LW.rd hL rfl (Wants.free rfl) rfl (Rd.assign (v := .bool (t1 == 10)) rfl) ?_
 refine LW.nil hL rfl ?_
 refine NW.then ?_
 refine CW.cond rfl (fun hb1 => ?_) (fun hb1 => ?_)
 ·replace h := h.1 hb1
  replace h := h _ rfl
  refine CW.drawn (fun w => w = World.drew w1) 7 (by kernel_rfl) fun H hH => ?_
  generalize World.drew w1 = w2 at h hH ⊢
  refine HW.pure (i := 0) hH rfl (by kernel_rfl) (Wants.free rfl) rfl (fun _ => rfl) (Rd.move (v := .pointer f1) rfl) ?_
  obtain ⟨a1, ha1, h⟩ := h
  refine HW.pure (i := 1) hH rfl (by kernel_rfl) (Wants.free rfl) rfl (fun _ => rfl) (Rd.nil (q := a1) (by rw [← ha1]; rfl)) ?_
  refine HW.pure (i := 2) hH rfl (by kernel_rfl) (Wants.free rfl) rfl (fun _ => rfl) (Rd.fa (v := .pointer (some (a1.add 3))) rfl (fun _ => by kernel_rfl)) ?_
  obtain ⟨t2, hc2, h⟩ := h
  refine HW.take (i := 3) hH rfl (by kernel_rfl) (by kernel_rfl) (Wants.free rfl) rfl (fun _ => rfl) (Rd.ld (v := .pointer t2) rfl (by kernel_rfl) (eqs hc2)) ?_
  refine HW.pure (i := 4) hH rfl (by kernel_rfl) (Wants.free rfl) rfl (fun _ => rfl) (Rd.fa (v := .pointer (some (⟨b1, 1, none⟩ : Addr))) rfl (fun _ => by kernel_rfl)) ?_
  obtain ⟨t3, hc3, h⟩ := h
  refine HW.take (i := 5) hH rfl (by kernel_rfl) (by kernel_rfl) (Wants.free rfl) rfl (fun _ => rfl) (Rd.ld (v := .int .i64 t3) rfl (by kernel_rfl) (eqs hc3)) ?_
  refine HW.pure (i := 6) hH rfl (by kernel_rfl) (Wants.free rfl) rfl (fun _ => rfl) (Rd.move (v := .int .u32 set1) rfl) ?_
  refine HW.call (i := 7) hH (by kernel_rfl) rfl (Wants.free rfl) rfl (Cl.fn (f := 61) rfl Tryz.func61 (by kernel_rfl) rfl) h (fun e w3 h_ => ?_)
  clear h
  obtain ⟨r1, rfl, h⟩ := h_
  refine ⟨_, rfl, (fun hc => by cases hc), ?_⟩
  refine HW.done hH (by kernel_rfl) ?_
  refine NW.block ?_
  exact res0n rfl (by exact ⟨rfl, h⟩)
 ·replace h := h.2 hb1
  refine CW.seq ?_
  refine CW.region fun L hL => ?_
  refine LW.rd hL rfl (Wants.free rfl) rfl (Rd.fa (v := .pointer (some (⟨b1, 0, none⟩ : Addr))) rfl (fun _ => by kernel_rfl)) ?_
  obtain ⟨t4, hc4, h⟩ := h
  refine LW.rd hL rfl (Wants.free rfl) rfl (Rd.ld (v := .int .i64 t4) rfl (by kernel_rfl) (eqs hc4)) ?_
  refine LW.rd hL rfl (Wants.free rfl) rfl (Rd.bin (v := .bool (t4 == 12)) rfl rfl (fun w => by kernel_rfl)) ?_
  refine LW.rd hL rfl (Wants.free rfl) rfl (Rd.assign (v := .bool (t4 == 12)) rfl) ?_
  refine LW.nil hL rfl ?_
  refine NW.then ?_
  refine CW.cond rfl (fun hb2 => ?_) (fun hb2 => ?_)
  ·replace h := h.1 hb2
   replace h := h _ rfl
   refine CW.drawn (fun w => w = World.drew w1) 7 (by kernel_rfl) fun H hH => ?_
   generalize World.drew w1 = w4 at h hH ⊢
   refine HW.pure (i := 0) hH rfl (by kernel_rfl) (Wants.free rfl) rfl (fun _ => rfl) (Rd.move (v := .pointer f1) rfl) ?_
   obtain ⟨a2, ha2, h⟩ := h
   refine HW.pure (i := 1) hH rfl (by kernel_rfl) (Wants.free rfl) rfl (fun _ => rfl) (Rd.nil (q := a2) (by rw [← ha2]; rfl)) ?_
   refine HW.pure (i := 2) hH rfl (by kernel_rfl) (Wants.free rfl) rfl (fun _ => rfl) (Rd.fa (v := .pointer (some (a2.add 4))) rfl (fun _ => by kernel_rfl)) ?_
   obtain ⟨t5, hc5, h⟩ := h
   refine HW.take (i := 3) hH rfl (by kernel_rfl) (by kernel_rfl) (Wants.free rfl) rfl (fun _ => rfl) (Rd.ld (v := .pointer t5) rfl (by kernel_rfl) (eqs hc5)) ?_
   refine HW.pure (i := 4) hH rfl (by kernel_rfl) (Wants.free rfl) rfl (fun _ => rfl) (Rd.fa (v := .pointer (some (⟨b1, 1, none⟩ : Addr))) rfl (fun _ => by kernel_rfl)) ?_
   obtain ⟨t6, hc6, h⟩ := h
   refine HW.take (i := 5) hH rfl (by kernel_rfl) (by kernel_rfl) (Wants.free rfl) rfl (fun _ => rfl) (Rd.ld (v := .int .i64 t6) rfl (by kernel_rfl) (eqs hc6)) ?_
   refine HW.pure (i := 6) hH rfl (by kernel_rfl) (Wants.free rfl) rfl (fun _ => rfl) (Rd.move (v := .int .u32 set1) rfl) ?_
   refine HW.call (i := 7) hH (by kernel_rfl) rfl (Wants.free rfl) rfl (Cl.fn (f := 61) rfl Tryz.func61 (by kernel_rfl) rfl) h (fun e w5 h_ => ?_)
   clear h
   obtain ⟨r2, rfl, h⟩ := h_
   refine ⟨_, rfl, (fun hc => by cases hc), ?_⟩
   refine HW.done hH (by kernel_rfl) ?_
   refine NW.block ?_
   exact res0n rfl (by exact ⟨rfl, h⟩)
  ·replace h := h.2 hb2
   refine CW.seq ?_
   refine CW.region fun L hL => ?_
   refine LW.rd hL rfl (Wants.free rfl) rfl (Rd.move (v := .int .u32 set1) rfl) ?_
   refine LW.rd hL rfl (Wants.free rfl) rfl (Rd.bin (v := .bool (set1 == 0)) rfl rfl (fun w => by kernel_rfl)) ?_
   refine LW.rd hL rfl (Wants.free rfl) rfl (Rd.assign (v := .bool (set1 == 0)) rfl) ?_
   refine LW.nil hL rfl ?_
   refine NW.then ?_
   refine CW.cond rfl (fun hb3 => ?_) (fun hb3 => ?_)
   ·replace h := h.1 hb3
    replace h := h _ rfl
    refine CW.drawn (fun w => w = World.drew w1) 5 (by kernel_rfl) fun H hH => ?_
    generalize World.drew w1 = w6 at h hH ⊢
    refine HW.pure (i := 0) hH rfl (by kernel_rfl) (Wants.free rfl) rfl (fun _ => rfl) (Rd.move (v := .pointer f1) rfl) ?_
    obtain ⟨a3, ha3, h⟩ := h
    refine HW.pure (i := 1) hH rfl (by kernel_rfl) (Wants.free rfl) rfl (fun _ => rfl) (Rd.nil (q := a3) (by rw [← ha3]; rfl)) ?_
    refine HW.pure (i := 2) hH rfl (by kernel_rfl) (Wants.free rfl) rfl (fun _ => rfl) (Rd.fa (v := .pointer (some (a3.add 5))) rfl (fun _ => by kernel_rfl)) ?_
    obtain ⟨t7, hc7, h⟩ := h
    refine HW.take (i := 3) hH rfl (by kernel_rfl) (by kernel_rfl) (Wants.free rfl) rfl (fun _ => rfl) (Rd.ld (v := .map t7) rfl (by kernel_rfl) (eqs hc7)) ?_
    obtain ⟨t8, t9, hc8, h⟩ := h
    refine HW.take (i := 4) hH rfl (by kernel_rfl) (by kernel_rfl) (Wants.free rfl) rfl (fun _ => rfl) (Rd.ldN (cs := [.int .i64 t8, .int .i64 t9]) rfl (by kernel_rfl) (by kernel_rfl) (cellsS hc8)) ?_
    obtain ⟨w7, hd1, h⟩ := h
    refine HW.val (i := 5) hH (by kernel_rfl) rfl (Wants.free rfl) rfl (Vl.builtin (v := .tuple #[]) rfl (valB hd1)) (fun hc => by cases hc) ?_
    refine HW.done hH (by kernel_rfl) ?_
    refine NW.block ?_
    exact res0n rfl (by exact ⟨rfl, h⟩)
   ·replace h := h.2 hb3
    replace h := h _ rfl
    refine CW.drawn (fun w => w = World.drew w1) 6 (by kernel_rfl) fun H hH => ?_
    generalize World.drew w1 = w8 at h hH ⊢
    refine HW.pure (i := 0) hH rfl (by kernel_rfl) (Wants.free rfl) rfl (fun _ => rfl) (Rd.move (v := .pointer f1) rfl) ?_
    obtain ⟨a4, ha4, h⟩ := h
    refine HW.pure (i := 1) hH rfl (by kernel_rfl) (Wants.free rfl) rfl (fun _ => rfl) (Rd.nil (q := a4) (by rw [← ha4]; rfl)) ?_
    refine HW.pure (i := 2) hH rfl (by kernel_rfl) (Wants.free rfl) rfl (fun _ => rfl) (Rd.fa (v := .pointer (some (a4.add 5))) rfl (fun _ => by kernel_rfl)) ?_
    obtain ⟨t10, hc9, h⟩ := h
    refine HW.take (i := 3) hH rfl (by kernel_rfl) (by kernel_rfl) (Wants.free rfl) rfl (fun _ => rfl) (Rd.ld (v := .map t10) rfl (by kernel_rfl) (eqs hc9)) ?_
    obtain ⟨t11, t12, hc10, h⟩ := h
    refine HW.take (i := 4) hH rfl (by kernel_rfl) (by kernel_rfl) (Wants.free rfl) rfl (fun _ => rfl) (Rd.ldN (cs := [.int .i64 t11, .int .i64 t12]) rfl (by kernel_rfl) (by kernel_rfl) (cellsS hc10)) ?_
    refine HW.pure (i := 5) hH rfl (by kernel_rfl) (Wants.free rfl) rfl (fun _ => rfl) (Rd.move (v := .int .u32 set1) rfl) ?_
    obtain ⟨w9, hm1, h⟩ := h
    refine HW.eff (i := 6) hH (by kernel_rfl) rfl (Wants.free rfl) rfl (Ef.mapUpdate rfl rfl rfl hm1) (fun hc => by cases hc) ?_
    refine HW.done hH (by kernel_rfl) ?_
    refine NW.block ?_
    exact res0n rfl (by exact ⟨rfl, h⟩)
end Go.Proofs.YtfcfkhbkkfpehaaGreatDoor
end
