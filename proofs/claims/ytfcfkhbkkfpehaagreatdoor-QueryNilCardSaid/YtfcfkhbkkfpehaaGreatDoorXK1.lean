/- Texts of the claim, merged: XBase XOps XRun XHeap XEntry XRow XEq XTypes XFt2 XFt3 XTable XFshadow XShadow XShadow2 XFlow1 XFt1 XFlow2 XFlow3 XIter XLoc XRange XG3 XMapIter XG10 XOrder XPSort XPCollect XQ5 XQSort. -/
import Derived.WalkKit
import Derived.OrdersHeld
import Derived.ScopeJumps
import Derived.KernelRfl
import Derived.WalkSmall
import Derived.MapKept
import Derived.WideKeyRuns
import Derived.Laws.StructEq
import Derived.Laws.AppendOwn
import Derived.Test.YtfcfkhbkkfpehaaGreatDoorProg
import Derived.DeepKeys3
import Derived.Laws.BitsAllLaws
import Derived.Maps.RangeRun
import Derived.RangeFuncSeq
import Derived.RangeFuncRecord
import Derived.RangeFuncLeaves
import Derived.TacticsIn
import Derived.Shelf.SlSortCmp.WholeK
import Derived.Sort.OwnSortedInts
import Derived.Shelf.SlSortCmp.NoneTotal
set_option linter.unusedSectionVars false
set_option linter.unusedSimpArgs false
set_option linter.unusedVariables false
section
/- The engine's base, over any program: what is known of a frame's slots is a list ('Env'); rules for codes, regions, operations over it. -/
namespace Go.X
open Go
abbrev Env := List (Nat × Value)
def get : Env → Nat → Option Value
 | [], _ => none
 | (t, v) :: E, u => bif Nat.beq u t then some v else get E u
def opd (E : Env) : Operand → Option Value
 | .tmp t => get E t
 | .const v => some v
 | .global g => some (.pointer (some ⟨g, 0, none⟩))
 | .func f => some (.func (.func f) #[] #[])
def Sub : Env → Env → Prop
 | [], _ => True
 | (t, v) :: E, F => get F t = some v ∧ Sub E F
theorem Sub.get : ∀ {E F : Env}, Sub E F → ∀ {t : Nat} {v : Value}, get E t = some v → get F t = some v
 | [], _, _, _, _, h => by cases h
 | (t, v) :: E, F, ⟨h1, h2⟩, u, x, h => by
  simp only [X.get] at h
  cases hb : Nat.beq u t with
  | true => rw [hb] at h; simp at h; rw [Nat.eq_of_beq_eq_true hb, h1, h]
  | false => rw [hb] at h; exact h2.get h
structure Sat (N : Nat) (D : List Deferred) (E : Env) (a : Act) : Prop where
 size : N ≤ a.tmps.size
 defers : a.defers = D
 get : ∀ t v, get E t = some v → a.tmps.getD t undef = v
theorem Sat.sub {N : Nat} {D : List Deferred} {E F : Env} {a : Act} (h : Sat N D F a) (s : Sub E F) : Sat N D E a :=
 ⟨h.size, h.defers, fun _ _ hg => h.get _ _ (s.get hg)⟩
theorem Sat.eval {N : Nat} {D : List Deferred} {E : Env} {a : Act} (h : Sat N D E a) {x : Operand} {v : Value} (hx : opd E x = some v) : a.eval x = v := by
 cases x with
 | tmp t => exact h.get t v hx
 | const c => simpa [opd, Act.eval] using hx
 | global g => simpa [opd, Act.eval] using hx
 | func f => simpa [opd, Act.eval] using hx
def putE : Option Nat → Value → Env → Env
 | some d, v, E => (d, v) :: E
 | none, _, E => E
def okd (N : Nat) : Option Nat → Bool
 | some d => Nat.blt d N
 | none => true
theorem Sat.put {N : Nat} {D : List Deferred} {E : Env} {a : Act} (h : Sat N D E a) {d : Option Nat} {v : Value} (hd : okd N d = true) : Sat N D (putE d v E) (a.put d v) := by
 cases d with
 | none => exact h
 | some d =>
  have hlt : d < a.tmps.size := Nat.lt_of_lt_of_le (by simpa [okd] using hd) h.size
  refine ⟨by simpa [Act.put] using h.size, h.defers, fun t x hg => ?_⟩
  simp only [putE, X.get] at hg
  cases hb : Nat.beq t d with
  | true =>
   rw [hb] at hg; simp at hg; subst hg
   rw [Nat.eq_of_beq_eq_true hb]
   simp [Act.put, hlt]
  | false =>
   rw [hb] at hg
   have hne : d ≠ t := fun e => by subst e; simp at hb
   have := h.get t x hg
   simp only [Act.put]
   rw [← this]
   simp [Array.getElem?_setIfInBounds_ne hne]
def envOf : Nat → List Value → Env
 | _, [] => []
 | i, v :: vs => (i, v) :: envOf (i + 1) vs
theorem envOf_get : ∀ (vs : List Value) (i t : Nat) (v : Value), get (envOf i vs) t = some v → i ≤ t ∧ vs[t - i]? = some v
 | [], _, _, _, h => by cases h
 | x :: vs, i, t, v, h => by
  simp only [envOf, X.get] at h
  cases hb : Nat.beq t i with
  | true =>
   rw [hb] at h; simp at h; subst h
   have := Nat.eq_of_beq_eq_true hb; subst this
   exact ⟨Nat.le_refl _, by simp⟩
  | false =>
   rw [hb] at h
   obtain ⟨h1, h2⟩ := envOf_get vs (i + 1) t v h
   refine ⟨by omega, ?_⟩
   have : t - i = (t - (i + 1)) + 1 := by omega
   rw [this]; simpa using h2
/-! ### What is wanted of an operation -/
def Wants (N : Nat) (ops : Array Oper) (E : Env) (o : Oper) : Prop := ∀ D a, Sat N D E a → Region.wanted o (yielded ops a.tmps) = true
def Skips (N : Nat) (ops : Array Oper) (E : Env) (o : Oper) : Prop := ∀ D a, Sat N D E a → Region.wanted o (yielded ops a.tmps) = false
theorem Wants.free {N : Nat} {ops : Array Oper} {E : Env} {o : Oper} (h : o.guard = none) : Wants N ops E o := fun _ _ _ => by simp [Region.wanted, h]
theorem yielded_at {N : Nat} {D : List Deferred} {ops : Array Oper} {E : Env} {a : Act} {j t : Nat} {oj : Oper} {v : Value} (hs : Sat N D E a) (hj : ops[j]? = some oj) (hd : oj.dst = some t)
  (hN : Nat.blt t N = true) (hE : get E t = some v) : yielded ops a.tmps j = match v with | .bool b => some b | _ => none := by
 have hlt : t < a.tmps.size := Nat.lt_of_lt_of_le (by simpa using hN) hs.size
 have h1 := hs.get t v hE
 have h2 : a.tmps[t]? = some v := by rw [Array.getElem?_eq_getElem hlt]; congr 1; simpa [hlt] using h1
 simp only [yielded, hj, Option.bind_some, hd, h2]
 cases v <;> rfl
theorem Wants.on {N : Nat} {ops : Array Oper} {E : Env} {o oj : Oper} {j t : Nat} {b c : Bool} (h : o.guard = some (j, b)) (hj : ops[j]? = some oj) (hd : oj.dst = some t) (hN : Nat.blt t N = true)
  (hE : get E t = some (.bool c)) (hc : c = b) : Wants N ops E o := fun _ _ hs => by
 simp [Region.wanted, h, yielded_at hs hj hd hN hE, hc]
theorem Skips.on {N : Nat} {ops : Array Oper} {E : Env} {o oj : Oper} {j t : Nat} {b c : Bool} (h : o.guard = some (j, b)) (hj : ops[j]? = some oj) (hd : oj.dst = some t) (hN : Nat.blt t N = true)
  (hE : get E t = some (.bool c)) (hc : c = !b) : Skips N ops E o := fun _ _ hs => by
 simp [Region.wanted, h, yielded_at hs hj hd hN hE, hc]
theorem Skips.un {N : Nat} {ops : Array Oper} {E : Env} {o oj : Oper} {j t : Nat} {b : Bool} (h : o.guard = some (j, b)) (hj : ops[j]? = some oj) (hd : oj.dst = some t) (hN : Nat.blt t N = true)
  (hE : get E t = some undef) : Skips N ops E o := fun _ _ hs => by
 simp [Region.wanted, h, yielded_at hs hj hd hN hE, undef]
/-! ### Codes -/
section
variable {P : Program} {N : Nat} {D : List Deferred} {Q : Exit → Act → World → Prop} {E : Env} {w : World}
def CW (P : Program) (N : Nat) (D : List Deferred) (c : Code) (Q : Exit → Act → World → Prop) (E : Env) (w : World) : Prop := ∀ a, Sat N D E a → c.wp P Q a w
def NW (N : Nat) (D : List Deferred) (Q : Exit → Act → World → Prop) (E : Env) (w : World) : Prop := ∀ a, Sat N D E a → Q .normal a w
def XW (N : Nat) (D : List Deferred) (id : Nat) (Q : Exit → Act → World → Prop) (E : Env) (w : World) : Prop := ∀ a, Sat N D E a → Q (.exit id) a w
def GW (N : Nat) (D : List Deferred) (l : Nat) (Q : Exit → Act → World → Prop) (E : Env) (w : World) : Prop := ∀ a, Sat N D E a → Q (.goto l) a w
theorem CW.sub {c : Code} {F : Env} (s : Sub E F) (h : CW P N D c Q E w) : CW P N D c Q F w := fun a ha => h a (ha.sub s)
theorem CW.seq {x y : Code} (h : CW P N D x (Exit.then (y.wp P Q) Q) E w) : CW P N D (.seq x y) Q E w := fun a ha => wp_seq (h a ha)
theorem NW.then {y : Code} (h : CW P N D y Q E w) : NW N D (Exit.then (y.wp P Q) Q) E w := fun a ha => h a ha
theorem CW.skip (h : NW N D Q E w) : CW P N D .skip Q E w := fun a ha => wp_skip (h a ha)
theorem CW.label {l : Nat} (h : NW N D Q E w) : CW P N D (.label l) Q E w := fun a ha => wp_label (h a ha)
theorem CW.cond {c : Operand} {x y : Code} {b : Bool} (hc : opd E c = some (.bool b)) (h1 : b = true → CW P N D x Q E w) (h2 : b = false → CW P N D y Q E w) : CW P N D (.cond c x y) Q E w :=
 fun a ha => wp_cond_split (ha.eval hc) (fun hb => h1 hb a ha) (fun hb => h2 hb a ha)
theorem CW.block {id : Nat} {c : Code} (h : CW P N D c (Exit.inBlock id Q) E w) : CW P N D (.block id c) Q E w := fun a ha => wp_block (h a ha)
theorem NW.block {id : Nat} (h : NW N D Q E w) : NW N D (Exit.inBlock id Q) E w := fun a ha => h a ha
theorem CW.exit {id : Nat} (h : XW N D id Q E w) : CW P N D (.exit id) Q E w := fun a ha => wp_exit (h a ha)
theorem XW.then {id : Nat} {K : Act → World → Prop} (h : XW N D id Q E w) : XW N D id (Exit.then K Q) E w := fun a ha => h a ha
theorem XW.hit {id : Nat} (h : NW N D Q E w) : XW N D id (Exit.inBlock id Q) E w := fun a ha => by
 show (if id = id then Q .normal a w else Q (.exit id) a w); rw [if_pos rfl]; exact h a ha
def RW (N : Nat) (D : List Deferred) (Q : Exit → Act → World → Prop) (E : Env) (w : World) : Prop := ∀ a, Sat N D E a → Q .ret a w
theorem CW.ret (h : RW N D Q E w) : CW P N D .ret Q E w := fun a ha => wp_ret (h a ha)
theorem RW.then {K : Act → World → Prop} (h : RW N D Q E w) : RW N D (Exit.then K Q) E w := fun a ha => h a ha
theorem RW.block {id : Nat} (h : RW N D Q E w) : RW N D (Exit.inBlock id Q) E w := fun a ha => h a ha
theorem CW.goto {l : Nat} (h : GW N D l Q E w) : CW P N D (.goto l) Q E w := fun a ha => wp_goto (h a ha)
theorem GW.then {l : Nat} {K : Act → World → Prop} (h : GW N D l Q E w) : GW N D l (Exit.then K Q) E w := fun a ha => h a ha
theorem GW.block {l id : Nat} (h : GW N D l Q E w) : GW N D l (Exit.inBlock id Q) E w := fun a ha => h a ha
theorem CW.cut {S : Type} {x y : Code} (Ek : S → Env) (I : S → World → Prop) (hk : ∀ s w, I s w → CW P N D y Q (Ek s) w)
  (h : CW P N D x (Exit.then (fun a w => ∃ s, Sat N D (Ek s) a ∧ I s w) Q) E w) : CW P N D (.seq x y) Q E w := fun a ha =>
 wp_seq (wp_mono (h a ha) fun e a' w' hq => by
  cases e with
  | normal => obtain ⟨s, hs, hI⟩ := hq; exact hk s w' hI a' hs
  | _ => exact hq)
theorem NW.cut {S : Type} {Ek : S → Env} {I : S → World → Prop} {Q' : Exit → Act → World → Prop} (s : S) (hs : Sub (Ek s) E) (hI : I s w) : NW N D (Exit.then (fun a w => ∃ s, Sat N D (Ek s) a ∧ I s w) Q') E w :=
 fun a ha => ⟨s, ha.sub hs, hI⟩
theorem CW.meet {S : Type} {x : Code} (Ek : S → Env) (I : S → World → Prop) (hk : ∀ s w, I s w → NW N D Q (Ek s) w)
  (h : CW P N D x (Exit.then (fun a w => ∃ s, Sat N D (Ek s) a ∧ I s w) Q) E w) : CW P N D x Q E w := fun a ha =>
 wp_mono (h a ha) fun e a' w' hq => by
  cases e with
  | normal => obtain ⟨s, hs, hI⟩ := hq; exact hk s w' hI a' hs
  | _ => exact hq
theorem CW.loop {S : Type} {c : Code} (El : S → Env) (I : S → World → Prop) (μ : S → World → Nat) (s₀ : S) (hs : Sub (El s₀) E) (hI : I s₀ w)
  (round : ∀ s w, I s w → CW P N D c (Exit.then (fun a' w' => ∃ s', Sat N D (El s') a' ∧ (I s' w' ∧ μ s' w' < μ s w)) Q) (El s) w) : CW P N D (.loop c) Q E w := by
 intro a ha b k cs
 have key : ∀ n s a w, μ s w = n → Sat N D (El s) a → I s w →
   ∃ e a' w', Q e a' w' ∧ Arrives P (lone (b.at a (.code c :: .inLoop c :: k)) cs w) b k cs e a' w' := by
  intro n
  induction n using Nat.strongRecOn with
  | _ n ih =>
   intro s a w hn ha hI
   obtain ⟨e, a₁, w₁, hq, harr⟩ := round s w hI a ha b (.inLoop c :: k) cs
   cases e with
   | normal =>
    obtain ⟨s', hs', hI', hlt⟩ := hq
    obtain ⟨e₂, a₂, w₂, hq₂, harr₂⟩ := ih (μ s' w₁) (hn ▸ hlt) s' a₁ w₁ rfl hs' hI'
    exact ⟨e₂, a₂, w₂, hq₂, .of_steps (Steps.trans harr (.one step_inLoop)) harr₂⟩
   | exit id => exact ⟨_, a₁, w₁, hq, .pass (x := .inLoop c) rfl (fun _ _ => .inl (by simp)) harr⟩
   | goto l => exact ⟨_, a₁, w₁, hq, .pass (x := .inLoop c) rfl (fun _ _ => .inl (by simp)) harr⟩
   | ret => exact ⟨_, a₁, w₁, hq, .pass (x := .inLoop c) rfl (fun _ _ => .inl (by simp)) harr⟩
   | panic ch => exact ⟨_, a₁, w₁, hq, .pass (x := .inLoop c) rfl (fun _ _ => .inl (by simp)) harr⟩
   | outgrown => exact ⟨_, a₁, w₁, hq, .pass (x := .inLoop c) rfl (fun _ _ => .inl (by simp)) harr⟩
 obtain ⟨e, a', w', hq, harr⟩ := key _ s₀ a w rfl (ha.sub hs) hI
 exact ⟨e, a', w', hq, .of_steps (.one step_loop) harr⟩
theorem NW.loop {S : Type} {Ek : S → Env} {I : S → World → Prop} {μ : S → World → Nat} {n : Nat} {Q' : Exit → Act → World → Prop} (s : S) (hs : Sub (Ek s) E) (hI : I s w ∧ μ s w < n) :
  NW N D (Exit.then (fun a w => ∃ s, Sat N D (Ek s) a ∧ (I s w ∧ μ s w < n)) Q') E w :=
 fun a ha => ⟨s, ha.sub hs, hI⟩
theorem CW.scope {S : Type} {c rest : Code} (l : Nat) (Ek : S → Env) (I : S → World → Prop) (hf : findLabel c l = some rest)
  (hk : ∀ s w, I s w → CW P N D rest (Exit.jump l (fun _ _ => False) Q) (Ek s) w)
  (h : CW P N D c (Exit.jump l (fun a w => ∃ s, Sat N D (Ek s) a ∧ I s w) Q) E w) : CW P N D (.scope c) Q E w := fun a ha =>
 wp_scope_jumps l (fun a w => ∃ s, Sat N D (Ek s) a ∧ I s w) (fun _ _ => 0) hf (h a ha) fun a w ⟨s, hs, hI⟩ =>
  wp_mono (hk s w hI a hs) fun e a' w' hq => by
   cases e with
   | goto l' => exact hq.2.elim
   | _ => exact hq
theorem NW.jump {l : Nat} {J : Act → World → Prop} (h : NW N D Q E w) : NW N D (Exit.jump l J Q) E w := fun a ha => h a ha
theorem XW.jump {l id : Nat} {J : Act → World → Prop} (h : XW N D id Q E w) : XW N D id (Exit.jump l J Q) E w := fun a ha => h a ha
theorem RW.jump {l : Nat} {J : Act → World → Prop} (h : RW N D Q E w) : RW N D (Exit.jump l J Q) E w := fun a ha => h a ha
theorem GW.hit {S : Type} {l : Nat} {Ek : S → Env} {I : S → World → Prop} (s : S) (hs : Sub (Ek s) E) (hI : I s w) : GW N D l (Exit.jump l (fun a w => ∃ s, Sat N D (Ek s) a ∧ I s w) Q) E w :=
 fun a ha => ⟨rfl, s, ha.sub hs, hI⟩
end
/-! ### A region in the text's order -/
section
variable {P : Program} {N : Nat} {D : List Deferred} {ops : Array Oper} {Q : Exit → Act → World → Prop} {E : Env} {w w' : World} {L : Nat → Env → World → Prop} {i : Nat} {o : Oper} {v : Value}
def LW (P : Program) (N : Nat) (D : List Deferred) (ops : Array Oper) (Q : Exit → Act → World → Prop) (i : Nat) (E : Env) (w : World) : Prop :=
 ∀ a, Sat N D E a → wpList P ops Q (ops.toList.drop i) a w
theorem CW.region {id : Nat} (h : ∀ L, L = LW P N D ops Q → L 0 E w) : CW P N D (.region id ops false) Q E w :=
 fun a ha => wp_region_list (by have := h _ rfl a ha; simpa using this)
theorem drop_at (ho : ops[i]? = some o) : ops.toList.drop i = o :: ops.toList.drop (i + 1) := by
 obtain ⟨hi, rfl⟩ := Array.getElem?_eq_some_iff.1 ho
 rw [List.drop_eq_getElem_cons (by simpa using hi)]
 simp
theorem LW.step (hL : L = LW P N D ops Q) (ho : ops[i]? = some o) (hw : Wants N ops E o)
  (h : ∀ a, Sat N D E a → o.wp P a w (wpList P ops Q (ops.toList.drop (i + 1))) Q) : L i E w := by
 subst hL
 intro a ha
 rw [drop_at ho]
 unfold wpList
 rw [if_pos (hw _ _ ha)]
 exact .inl (h a ha)
theorem LW.val (hL : L = LW P N D ops Q) (ho : ops[i]? = some o) (hw : Wants N ops E o) (hd : okd N o.dst = true)
  (hv : ∀ a, Sat N D E a → (execOp a.eval o).run P w = .ok (.value v) w') (k : L (i + 1) (putE o.dst v E) w') : L i E w :=
 LW.step hL ho hw fun a ha => by
  unfold Oper.wp; rw [hv a ha, Oper.upon_value]
  rw [hL] at k; exact k _ (ha.put hd)
theorem LW.eff (hL : L = LW P N D ops Q) (ho : ops[i]? = some o) (hw : Wants N ops E o) (hd : okd N o.dst = true)
  (hv : ∀ a, Sat N D E a → (execOp a.eval o).run P w = .ok .skip w') (k : L (i + 1) (putE o.dst undef E) w') : L i E w :=
 LW.step hL ho hw fun a ha => by
  unfold Oper.wp; rw [hv a ha, Oper.upon_skip]
  rw [hL] at k; exact k _ (ha.put hd)
theorem LW.call {f : Nat} {args : Array Value} {R : Ending → World → Prop} (hL : L = LW P N D ops Q) (ho : ops[i]? = some o) (hw : Wants N ops E o) (hd : okd N o.dst = true)
  (hv : ∀ a, Sat N D E a → (execOp a.eval o).run P w = .ok (.enter f args) w') (hc : Calls P f args w' R)
  (k : ∀ e w'', R e w'' → ∃ v, e = .returned v ∧ L (i + 1) (putE o.dst v E) w'') : L i E w :=
 LW.step hL ho hw fun a ha => by
  unfold Oper.wp; rw [hv a ha, Oper.upon_enter]
  refine hc.mono fun e w'' hR => ?_
  obtain ⟨v, rfl, hk⟩ := k e w'' hR
  rw [hL] at hk; exact hk _ (ha.put hd)
theorem LW.skip (hL : L = LW P N D ops Q) (ho : ops[i]? = some o) (hs : Skips N ops E o) (hd : okd N o.dst = true) (k : L (i + 1) (putE o.dst undef E) w) : L i E w := by
 subst hL
 intro a ha
 rw [drop_at ho]
 unfold wpList
 rw [if_neg (by rw [hs _ _ ha]; simp)]
 exact k _ (ha.put hd)
theorem LW.nil (hL : L = LW P N D ops Q) (hi : ops[i]? = none) (k : NW N D Q E w) : L i E w := by
 subst hL
 intro a ha
 have : ops.toList.drop i = [] := List.drop_eq_nil_of_le (by simpa using hi)
 rw [this]; exact k a ha
theorem LW.sub (hL : L = LW P N D ops Q) {F : Env} (s : Sub E F) (k : L i E w) : L i F w := by
 subst hL; exact fun a ha => k a (ha.sub s)
end
/-! ### A region that draws its order -/
section
variable {P : Program} {ops : Array Oper} {Q : Exit → Act → World → Prop} {S : World → Prop} {z : Nat}
def AH (P : Program) (ops : Array Oper) (Q : Exit → Act → World → Prop) (S : World → Prop) (z : Nat) : Nat → Array Bool → Act → World → Prop
 | 0, l, a, w => Region.ready .any ops l = [] ∧ Q .normal a w
 | n + 1, l, a, w => (Region.ready .any ops l = [] → Q .normal a w) ∧
  ∀ i ∈ Region.ready .any ops l, wpOp P ops Q i (fun a' w' => ((l.setIfInBounds i true).getD z false = false → S w') ∧ AH P ops Q S z n (l.setIfInBounds i true) a' w') a w
theorem AH.any : ∀ (n : Nat) (l : Array Bool) (a : Act) (w : World), AH P ops Q S z n l a w → wpAny P .any ops Q n l a w
 | 0, _, _, _, h => h
 | n + 1, _, _, _, h => ⟨h.1, fun i hi => wpOp_mono (fun a' w' h' => AH.any n _ a' w' h'.2) (h.2 i hi)⟩
structure Shut (ops : Array Oper) (l : Array Bool) : Prop where
 size : l.size = ops.size
 up : ∀ j oj, ops[j]? = some oj → l.getD j false = true → ∀ e ∈ oj.after, Region.binds .any e = true → l.getD e.on false = true
theorem Shut.none : Shut ops (Array.replicate ops.size false) := ⟨by simp, fun j oj hj h => by
 have hlt : j < ops.size := (Array.getElem?_eq_some_iff.1 hj).1
 simp [hlt] at h⟩
theorem getD_both {l : Array Bool} {i : Nat} (h : l.getD i true = false) : l.getD i false = false := by
 rcases Nat.lt_or_ge i l.size with h' | h' <;> simp_all
theorem Shut.set {l : Array Bool} {i : Nat} (h : Shut ops l) (hi : i ∈ Region.ready .any ops l) : Shut ops (l.setIfInBounds i true) := by
 refine ⟨by simpa using h.size, fun j oj hj hl e he hb => getD_set_true ?_⟩
 by_cases hji : i = j
 ·subst hji
  obtain ⟨_, o, ho, hall⟩ := mem_ready.1 hi
  rw [hj] at ho; cases ho
  exact hall e he hb
 ·rw [getD_set_ne false hji] at hl
  exact h.up j oj hj hl e he hb
def waits (ops : Array Oper) : Nat → Nat → Nat → Bool
 | 0, _, _ => false
 | f + 1, z, i => match ops[z]? with
  | none => false
  | some o => o.after.toList.any (fun e => Region.binds .any e && e.on == i) || o.after.toList.any (fun e => Region.binds .any e && waits ops f e.on i)
theorem Shut.waits {l : Array Bool} (h : Shut ops l) {i : Nat} : ∀ (f z : Nat), X.waits ops f z i = true → l.getD z false = true → l.getD i false = true := by
 intro f
 induction f with
 | zero => intro z hw; cases hw
 | succ f ih =>
  intro z hw hz
  simp only [X.waits] at hw
  cases ho : ops[z]? with
  | none => rw [ho] at hw; cases hw
  | some o =>
   rw [ho] at hw
   simp only [Bool.or_eq_true, List.any_eq_true, Bool.and_eq_true] at hw
   rcases hw with ⟨e, he, hb, hi⟩ | ⟨e, he, hb, hi⟩
   ·have := h.up z o ho hz e (by simpa using he) hb
    rwa [show e.on = i from by simpa using hi] at this
   ·exact ih _ hi (h.up z o ho hz e (by simpa using he) hb)
theorem AH.first {S₀ : World → Prop} {i : Nat} {oi : Oper} {v : Value} (hi : ops[i]? = some oi) (hsel : ∀ (j : Nat) (o : Oper) cs b, ops[j]? = some o → o.op ≠ .select cs b)
  (hQ : ∀ c a w, Q (.panic c) (a.put oi.dst v) w → Q (.panic c) a w) (hz : i ≠ z)
  (hS₀ : ∀ l w, Shut ops l → l.getD i true = false → (l.getD z false = false → S w) → S₀ w) :
  ∀ (n : Nat) (l : Array Bool) (a : Act) (w : World),
   (∀ j oj, ops[j]? = some oj → j ≠ i → l.getD j true = false → (∀ e ∈ oj.after, Region.binds .any e = true → e.on ≠ i) → oi.apart ops oj = true) →
   Shut ops l → i ∈ Region.ready .any ops l → YieldsIf P ops S₀ oi v a → (l.getD z false = false → S w) → AH P ops Q S z n (l.setIfInBounds i true) (a.put oi.dst v) w → AH P ops Q S z (n + 1) l a w := by
 intro n
 induction n with
 | zero =>
  intro l a w _ hsh hr hy hS H
  have hpend : l.getD i true = false := (mem_ready.1 hr).1
  refine ⟨fun h => (by rw [h] at hr; cases hr), fun j hj => ?_⟩
  by_cases hji : j = i
  ·subst hji; exact hy.wpOp hi (hS₀ l w hsh hpend hS) ⟨fun h => hS (by rwa [getD_set_ne false hz] at h), H⟩
  ·have hm := ready_mono hj hji
   rw [H.1] at hm; cases hm
 | succ n ih =>
  intro l a w hfree hsh hr hy hS H
  have hpend : l.getD i true = false := (mem_ready.1 hr).1
  refine ⟨fun h => (by rw [h] at hr; cases hr), fun j hj => ?_⟩
  by_cases hji : j = i
  ·subst hji; exact hy.wpOp hi (hS₀ l w hsh hpend hS) ⟨fun h => hS (by rwa [getD_set_ne false hz] at h), H⟩
  ·have h1 := H.2 j (ready_mono hj hji)
   obtain ⟨hjun, oj, hoj, hall⟩ := mem_ready.1 hj
   have hnot : ∀ e ∈ oj.after, Region.binds .any e = true → e.on ≠ i := fun e he hb heq => by
    have h2 := hall e he hb
    rw [heq, getD_both hpend] at h2; cases h2
   have h2 := wpOp_putIf hoj (hfree j oj hoj hji hjun hnot) (fun cs b => hsel i oi cs b hi) (fun cs b => hsel j oj cs b hoj) hQ hy h1
   refine wpOp_mono (fun a' w' h3 => ?_) h2
   obtain ⟨hy', hS', hA'⟩ := h3
   have hS'' : (l.setIfInBounds j true).getD z false = false → S w' := fun h => hS' (by rw [Array.setIfInBounds_comm _ _ (Ne.symm hji), getD_set_ne false hz]; exact h)
   refine ⟨hS'', ih (l.setIfInBounds j true) a' w' (fun k ok hk hki hun hno => hfree k ok hk hki ?_ hno) (hsh.set hj) (ready_mono hr (Ne.symm hji)) hy' hS'' ?_⟩
   ·by_cases hjk : j = k
    ·subst hjk; exact hjun
    ·rw [getD_set_ne true hjk] at hun; exact hun
   ·rw [Array.setIfInBounds_comm _ _ hji]; exact hA'
def chk (ops : Array Oper) (z : Nat) (l : Array Bool) (i : Nat) : Bool :=
 Region.noSelect ops && (Region.free .any ops l i && ((Region.ready .any ops l).contains i && !Nat.beq i z))
def chkR (ops : Array Oper) (z : Nat) (i : Nat) : Bool := Nat.ble ops.size z || waits ops 12 z i
theorem chkR_spec {i : Nat} (h : chkR ops z i = true) : ∀ l w, Shut ops l → l.getD i true = false → (l.getD z false = false → S w) → S w := fun l w hsh hi hS => by
 refine hS ?_
 cases hz : l.getD z false with
 | false => rfl
 | true =>
  simp only [chkR, Bool.or_eq_true] at h
  rcases h with h | h
  ·have h1 : ops.size ≤ z := by simpa using h
   rw [← hsh.size] at h1
   simp [h1] at hz
  ·have := hsh.waits _ _ h hz
   rw [getD_both hi] at this; cases this
def NP (Q : Exit → Act → World → Prop) : Exit → Act → World → Prop
 | .normal, a, w => Q .normal a w
 | _, _, _ => False
variable {N : Nat} {D : List Deferred} {E : Env} {w w' : World} {H : Nat → Array Bool → Env → World → Prop} {n : Nat} {l : Array Bool} {i : Nat} {o : Oper} {v : Value}
def HW (P : Program) (N : Nat) (D : List Deferred) (ops : Array Oper) (Q : Exit → Act → World → Prop) (S : World → Prop) (z : Nat) (n : Nat) (l : Array Bool) (E : Env) (w : World) : Prop :=
 ∀ a, Sat N D E a → Shut ops l → AH P ops (NP Q) S z n l a w
theorem CW.drawn {id : Nat} (S : World → Prop) (z : Nat) (hm : P.follows .mixedOrders = true) (h : ∀ H, H = HW P N D ops Q S z → H ops.size (Array.replicate ops.size false) E w.drew) :
  CW P N D (.region id ops true) Q E w := fun a ha =>
 wp_mono (wp_region_any hm (AH.any _ _ _ _ (h _ rfl a ha Shut.none))) fun e a w hq => by
  cases e with
  | normal => exact hq
  | _ => exact hq.elim
theorem HW.first {S₀ : World → Prop} (hH : H = HW P N D ops Q S z) (ho : ops[i]? = some o) (hc : chk ops z l i = true) (hd : okd N o.dst = true) (hS : l.getD z false = false → S w)
  (hS₀ : ∀ l w, Shut ops l → l.getD i true = false → (l.getD z false = false → S w) → S₀ w)
  (hy : ∀ a, Sat N D E a → YieldsIf P ops S₀ o v a) (k : H n (l.setIfInBounds i true) (putE o.dst v E) w) : H (n + 1) l E w := by
 subst hH
 intro a ha hsh
 simp only [chk, Bool.and_eq_true] at hc
 have hr : i ∈ Region.ready .any ops l := by simpa using hc.2.2.1
 have hz : i ≠ z := fun e => by have := hc.2.2.2; subst e; simp at this
 exact AH.first ho (Region.noSelect_spec hc.1) (fun _ _ _ h => h) hz hS₀ n l a w (Region.free_spec ho hc.2.1) hsh hr (hy a ha) hS (k _ (ha.put hd) (hsh.set hr))
theorem HW.take (hH : H = HW P N D ops Q S z) (ho : ops[i]? = some o) (hc : chk ops z l i = true) (hcr : chkR ops z i = true) (hw : Wants N ops E o) (hd : okd N o.dst = true) (hS : l.getD z false = false → S w)
  (hv : ∀ a, Sat N D E a → ∀ w, S w → (execOp a.eval o).run P w = .ok (.value v) w) (k : H n (l.setIfInBounds i true) (putE o.dst v E) w) : H (n + 1) l E w :=
 HW.first hH ho hc hd hS (chkR_spec hcr) (fun a ha => .inl ⟨hw _ _ ha, hv a ha⟩) k
theorem HW.pure (hH : H = HW P N D ops Q S z) (ho : ops[i]? = some o) (hc : chk ops z l i = true) (hw : Wants N ops E o) (hd : okd N o.dst = true) (hS : l.getD z false = false → S w)
  (hv : ∀ a, Sat N D E a → ∀ w, True → (execOp a.eval o).run P w = .ok (.value v) w) (k : H n (l.setIfInBounds i true) (putE o.dst v E) w) : H (n + 1) l E w :=
 HW.first (S₀ := fun _ => True) hH ho hc hd hS (fun _ _ _ _ _ => trivial) (fun a ha => .inl ⟨hw _ _ ha, hv a ha⟩) k
theorem HW.skip (hH : H = HW P N D ops Q S z) (ho : ops[i]? = some o) (hc : chk ops z l i = true) (hs : Skips N ops E o) (hd : okd N o.dst = true) (hS : l.getD z false = false → S w)
  (k : H n (l.setIfInBounds i true) (putE o.dst undef E) w) : H (n + 1) l E w :=
 HW.first (S₀ := fun _ => True) hH ho hc hd hS (fun _ _ _ _ _ => trivial) (fun a ha => .inr ⟨hs _ _ ha, rfl⟩) k
theorem HW.one (hH : H = HW P N D ops Q S z) (hr : Region.ready .any ops l = [i]) (ho : ops[i]? = some o) (hw : Wants N ops E o)
  (h : ∀ a, Sat N D E a → Shut ops l → o.wp P a w (fun a' w' => ((l.setIfInBounds i true).getD z false = false → S w') ∧ AH P ops (NP Q) S z n (l.setIfInBounds i true) a' w') (NP Q)) : H (n + 1) l E w := by
 subst hH
 intro a ha hsh
 refine ⟨fun h0 => (by rw [hr] at h0; cases h0), fun j hj => ?_⟩
 rw [hr] at hj
 have hji : j = i := by simpa using hj
 subst hji
 unfold wpOp
 simp only [ho, hw _ _ ha, if_true]
 exact .inl (h a ha hsh)
theorem HW.val (hH : H = HW P N D ops Q S z) (hr : Region.ready .any ops l = [i]) (ho : ops[i]? = some o) (hw : Wants N ops E o) (hd : okd N o.dst = true)
  (hv : ∀ a, Sat N D E a → (execOp a.eval o).run P w = .ok (.value v) w') (hS : (l.setIfInBounds i true).getD z false = false → S w') (k : H n (l.setIfInBounds i true) (putE o.dst v E) w') : H (n + 1) l E w :=
 HW.one hH hr ho hw fun a ha hsh => by
  unfold Oper.wp; rw [hv a ha, Oper.upon_value]
  rw [hH] at k; exact ⟨hS, k _ (ha.put hd) (hsh.set (by rw [hr]; simp))⟩
theorem HW.eff (hH : H = HW P N D ops Q S z) (hr : Region.ready .any ops l = [i]) (ho : ops[i]? = some o) (hw : Wants N ops E o) (hd : okd N o.dst = true)
  (hv : ∀ a, Sat N D E a → (execOp a.eval o).run P w = .ok .skip w') (hS : (l.setIfInBounds i true).getD z false = false → S w') (k : H n (l.setIfInBounds i true) (putE o.dst undef E) w') : H (n + 1) l E w :=
 HW.one hH hr ho hw fun a ha hsh => by
  unfold Oper.wp; rw [hv a ha, Oper.upon_skip]
  rw [hH] at k; exact ⟨hS, k _ (ha.put hd) (hsh.set (by rw [hr]; simp))⟩
theorem HW.call {f : Nat} {args : Array Value} {R : Ending → World → Prop} (hH : H = HW P N D ops Q S z) (hr : Region.ready .any ops l = [i]) (ho : ops[i]? = some o) (hw : Wants N ops E o) (hd : okd N o.dst = true)
  (hv : ∀ a, Sat N D E a → (execOp a.eval o).run P w = .ok (.enter f args) w') (hc : Calls P f args w' R)
  (k : ∀ e w'', R e w'' → ∃ v, e = .returned v ∧ ((l.setIfInBounds i true).getD z false = false → S w'') ∧ H n (l.setIfInBounds i true) (putE o.dst v E) w'') : H (n + 1) l E w :=
 HW.one hH hr ho hw fun a ha hsh => by
  unfold Oper.wp; rw [hv a ha, Oper.upon_enter]
  refine hc.mono fun e w'' hR => ?_
  obtain ⟨v, rfl, hS, hk⟩ := k e w'' hR
  rw [hH] at hk; exact ⟨hS, hk _ (ha.put hd) (hsh.set (by rw [hr]; simp))⟩
theorem HW.skip1 (hH : H = HW P N D ops Q S z) (hr : Region.ready .any ops l = [i]) (ho : ops[i]? = some o) (hs : Skips N ops E o) (hd : okd N o.dst = true) (hS : (l.setIfInBounds i true).getD z false = false → S w)
  (k : H n (l.setIfInBounds i true) (putE o.dst undef E) w) : H (n + 1) l E w := by
 subst hH
 intro a ha hsh
 refine ⟨fun h0 => (by rw [hr] at h0; cases h0), fun j hj => ?_⟩
 have hj' := hj
 rw [hr] at hj
 have hji : j = i := by simpa using hj
 subst hji
 unfold wpOp
 simp only [ho, hs _ _ ha, Bool.false_eq_true, if_false]
 exact ⟨hS, k _ (ha.put hd) (hsh.set hj')⟩
def H1 (P : Program) (N : Nat) (D : List Deferred) (ops : Array Oper) (Q : Exit → Act → World → Prop) (S : World → Prop) (z : Nat) (n : Nat) (l : Array Bool) (i : Nat) (E : Env) (w : World) : Prop :=
 i ∈ Region.ready .any ops l → ∀ a, Sat N D E a → Shut ops l → wpOp P ops (NP Q) i (fun a' w' => ((l.setIfInBounds i true).getD z false = false → S w') ∧ AH P ops (NP Q) S z n (l.setIfInBounds i true) a' w') a w
theorem HW.two {j : Nat} (hH : H = HW P N D ops Q S z) (hr : Region.ready .any ops l = [i, j]) (h1 : H1 P N D ops Q S z n l i E w) (h2 : H1 P N D ops Q S z n l j E w) : H (n + 1) l E w := by
 subst hH
 intro a ha hsh
 refine ⟨fun h0 => (by rw [hr] at h0; cases h0), fun k hk => ?_⟩
 have hk' := hk
 rw [hr] at hk
 rcases List.mem_cons.1 hk with rfl | hk
 ·exact h1 hk' a ha hsh
 ·have : k = j := by simpa using hk
  subst this
  exact h2 hk' a ha hsh
theorem H1.val (hH : H = HW P N D ops Q S z) (ho : ops[i]? = some o) (hw : Wants N ops E o) (hd : okd N o.dst = true)
  (hv : ∀ a, Sat N D E a → (execOp a.eval o).run P w = .ok (.value v) w') (hS : (l.setIfInBounds i true).getD z false = false → S w') (k : H n (l.setIfInBounds i true) (putE o.dst v E) w') : H1 P N D ops Q S z n l i E w := by
 intro hr a ha hsh
 unfold wpOp
 simp only [ho, hw _ _ ha, if_true]
 refine .inl ?_
 unfold Oper.wp; rw [hv a ha, Oper.upon_value]
 rw [hH] at k; exact ⟨hS, k _ (ha.put hd) (hsh.set hr)⟩
theorem H1.call {f : Nat} {args : Array Value} {R : Ending → World → Prop} (hH : H = HW P N D ops Q S z) (ho : ops[i]? = some o) (hw : Wants N ops E o) (hd : okd N o.dst = true)
  (hv : ∀ a, Sat N D E a → (execOp a.eval o).run P w = .ok (.enter f args) w') (hc : Calls P f args w' R)
  (k : ∀ e w'', R e w'' → ∃ v, e = .returned v ∧ ((l.setIfInBounds i true).getD z false = false → S w'') ∧ H n (l.setIfInBounds i true) (putE o.dst v E) w'') : H1 P N D ops Q S z n l i E w := by
 intro hr a ha hsh
 unfold wpOp
 simp only [ho, hw _ _ ha, if_true]
 refine .inl ?_
 unfold Oper.wp; rw [hv a ha, Oper.upon_enter]
 refine hc.mono fun e w'' hR => ?_
 obtain ⟨v, rfl, hS, hk⟩ := k e w'' hR
 rw [hH] at hk; exact ⟨hS, hk _ (ha.put hd) (hsh.set hr)⟩
theorem HW.done (hH : H = HW P N D ops Q S z) (hr : Region.ready .any ops l = []) (k : NW N D Q E w) : H n l E w := by
 subst hH
 intro a ha _
 cases n with
 | zero => exact ⟨hr, k a ha⟩
 | succ n => exact ⟨fun _ => k a ha, by rw [hr]; simp⟩
theorem HW.sub (hH : H = HW P N D ops Q S z) {F : Env} (s : Sub E F) (k : H n l E w) : H n l F w := by
 subst hH; exact fun a ha => k a (ha.sub s)
end
/-! ### A function -/
section
variable {P : Program} {N : Nat} {E : Env} {w : World} {fn : Func} {R : Ending → World → Prop}
theorem enter {f : Nat} {c : Code} {args : Array Value} (hf : P.funcs[f]? = some fn) (hb : fn.body = some c) (hN : fn.ntmps = N)
  (h : CW P N [] c (bodyPost P fn R) (envOf 0 args.toList) w) : Calls P f args w R := by
 refine calls_of_wp hf hb (h _ ⟨?_, rfl, fun t v hg => ?_⟩)
 ·rw [← hN]; simp; omega
 ·obtain ⟨_, h2⟩ := envOf_get _ _ _ _ hg
  have h3 : args[t]? = some v := by simpa using h2
  obtain ⟨hlt, h4⟩ := Array.getElem?_eq_some_iff.1 h3
  show (args ++ _).getD t undef = v
  simp [Array.getElem?_append_left hlt, h3]
theorem res0 (hr : fn.results = #[]) (h : R (.returned (.tuple #[])) w) (a : Act) (ha : Sat N [] E a) : bodyPost P fn R .ret a w :=
 bodyPost_ret (results_none hr _ _ _) ha.defers h
theorem res0n (hr : fn.results = #[]) (h : R (.returned (.tuple #[])) w) : NW N [] (bodyPost P fn R) E w := fun a ha =>
 bodyPost_end (results_none hr _ _ _) ha.defers h
theorem res1 {t : Nat} {v : Value} (hr : fn.results = #[.tmp t]) (hg : get E t = some v) (h : R (.returned v) w) (a : Act) (ha : Sat N [] E a) : bodyPost P fn R .ret a w :=
 bodyPost_ret (results_tmp hr _ _ _) ha.defers (by rw [ha.get _ _ hg]; exact h)
theorem res3 {t u s : Nat} {v x y : Value} (hr : fn.results = #[.tmp t, .tmp u, .tmp s]) (hg : get E t = some v) (hu : get E u = some x) (hs : get E s = some y) (h : R (.returned (.tuple #[v, x, y])) w) (a : Act) (ha : Sat N [] E a) : bodyPost P fn R .ret a w :=
 bodyPost_ret (v := .tuple #[v, x, y]) (by have h1 := ha.get _ _ hg; have h2 := ha.get _ _ hu; have h3 := ha.get _ _ hs; simp only [results, hr]; simp at h1 h2 h3 ⊢; simp [h1, h2, h3]) ha.defers h
def ResOK (P : Program) (E : Env) (w : World) : List ResultVar → List Value → Prop
 | [], vs => vs = []
 | .tmp t :: rs, vs => ∃ v us, vs = v :: us ∧ get E t = some v ∧ ResOK P E w rs us
 | .cell a T :: rs, vs => ∃ v us q, vs = v :: us ∧ get E a = some (.pointer (some q)) ∧ (loadVar T q).run P w = .ok v w ∧ ResOK P E w rs us
def resF (a : Act) : ResultVar → Sem Value
 | .tmp t => pure (a.tmps.getD t undef)
 | .cell c T => do loadVar T (← asAddr (a.tmps.getD c undef))
theorem ResOK.run {D : List Deferred} {a : Act} (ha : Sat N D E a) : ∀ (rs : List ResultVar) (vs : List Value), ResOK P E w rs vs →
  (rs.mapM (resF a)).run P w = .ok vs w
 | [], vs, h => by simp only [ResOK] at h; subst h; rfl
 | .tmp t :: rs, vs, h => by
  obtain ⟨v, us, rfl, hg, hr⟩ := h
  have ih := ResOK.run ha rs us hr
  rw [List.mapM_cons]
  simp only [resF, Sem.run_bind, Sem.run_pure, Result.andThen_ok, ha.get _ _ hg]
  rw [ih]; rfl
 | .cell c T :: rs, vs, h => by
  obtain ⟨v, us, q, rfl, hg, hl, hr⟩ := h
  have ih := ResOK.run ha rs us hr
  rw [List.mapM_cons]
  have hA : (asAddr (a.tmps.getD c undef)).run P w = .ok q w := by rw [ha.get _ _ hg]; rfl
  simp only [resF, Sem.run_bind, Sem.run_pure, Result.andThen_ok, hA, hl]
  rw [ih]; rfl
theorem resN {fn : Func} {vs : List Value} {x : Value} (h : ResOK P E w fn.results.toList vs) (hx : x = match vs with | [v] => v | _ => .tuple vs.toArray) (hR : R (.returned x) w) (a : Act) (ha : Sat N [] E a) : bodyPost P fn R .ret a w := by
 refine bodyPost_ret (v := x) ?_ ha.defers hR
 have h1 := ResOK.run ha _ _ h
 change (do let vs ← fn.results.mapM (resF a); pure (if h : vs.size = 1 then vs[0] else .tuple vs) : Sem Value).run P w = .ok x w
 rw [Array.mapM_eq_mapM_toList]
 simp only [Sem.run_bind, Sem.run_map, h1, Result.andThen_ok, Sem.run_pure]
 subst hx
 match vs with
 | [] => simp
 | [v] => simp
 | v :: u :: r => simp
theorem lv1 {t : TypeId} {q : Addr} {v : Value} (ht : (match P.underlying t with | some (.struct _) | some (.array _ _) | none => false | _ => true) = true) (hc : w.cell? q = some v) : (loadVar t q).run P w = .ok v w := by
 have h1 : (isAgg t).run P w = .ok false w := by
  unfold isAgg
  cases hu : P.underlying t with
  | none => rw [hu] at ht; cases ht
  | some u => rw [hu] at ht; simp only [Sem.run_bind, run_underlying hu, Result.andThen_ok]; cases u <;> first | rfl | (cases ht)
 simp [loadVar, h1, hc]
theorem lvN {t : TypeId} {q : Addr} {cs : List Value} (ht : (match P.underlying t with | some (.struct _) | some (.array _ _) => true | _ => false) = true)
  (hz : (P.info? t).map (·.size) = some cs.length) (hc : ∀ j v, cs[j]? = some v → w.cell? (q.add j) = some v) : (loadVar t q).run P w = .ok (.agg cs.toArray) w := by
 have h1 : (isAgg t).run P w = .ok true w := by
  unfold isAgg
  cases hu : P.underlying t with
  | none => rw [hu] at ht; cases ht
  | some u => rw [hu] at ht; simp only [Sem.run_bind, run_underlying hu, Result.andThen_ok]; cases u <;> first | rfl | (cases ht)
 have h2 : (sizeOf t).run P w = .ok cs.length w := by
  cases hi : P.info? t with
  | none => rw [hi] at hz; cases hz
  | some i => rw [hi] at hz; simp at hz; simp [sizeOf, typeInfo, hi, hz]
 simp [loadVar, h1, h2, run_loadCells_list w q cs hc]
theorem ResOK.nil : ResOK P E w [] [] := rfl
theorem ResOK.t {t : Nat} {v : Value} {rs : List ResultVar} {us : List Value} (h : get E t = some v) (r : ResOK P E w rs us) : ResOK P E w (.tmp t :: rs) (v :: us) := ⟨v, us, rfl, h, r⟩
theorem ResOK.c {a : Nat} {T : TypeId} {q : Addr} {v : Value} {rs : List ResultVar} {us : List Value} (h : get E a = some (.pointer (some q))) (hl : (loadVar T q).run P w = .ok v w) (r : ResOK P E w rs us) : ResOK P E w (.cell a T :: rs) (v :: us) :=
 ⟨v, us, q, rfl, h, hl, r⟩
end
end Go.X
end
section
/- The engine's rules for single operations, over any program. -/
namespace Go.X
open Go
section
variable {P : Program} {N : Nat} {D : List Deferred} {E : Env} {w w' : World} {d : Option Nat} {T : TypeId} {p : String} {af : Array Edge} {g : Option (Nat × Bool)} {S : World → Prop} {v : Value}
def Rd (P : Program) (N : Nat) (D : List Deferred) (E : Env) (o : Oper) (v : Value) (S : World → Prop) : Prop := ∀ a, Sat N D E a → ∀ w, S w → (execOp a.eval o).run P w = .ok (.value v) w
def Vl (P : Program) (N : Nat) (D : List Deferred) (E : Env) (o : Oper) (w : World) (v : Value) (w' : World) : Prop := ∀ a, Sat N D E a → (execOp a.eval o).run P w = .ok (.value v) w'
def Ef (P : Program) (N : Nat) (D : List Deferred) (E : Env) (o : Oper) (w : World) (w' : World) : Prop := ∀ a, Sat N D E a → (execOp a.eval o).run P w = .ok .skip w'
def Cl (P : Program) (N : Nat) (D : List Deferred) (E : Env) (o : Oper) (w : World) (f : Nat) (args : Array Value) : Prop := ∀ a, Sat N D E a → (execOp a.eval o).run P w = .ok (.enter f args) w
theorem LW.rd {ops : Array Oper} {Q : Exit → Act → World → Prop} {L : Nat → Env → World → Prop} {i : Nat} {o : Oper} (hL : L = LW P N D ops Q) (ho : ops[i]? = some o) (hw : Wants N ops E o) (hd : okd N o.dst = true)
  (hv : Rd P N D E o v (· = w)) (k : L (i + 1) (putE o.dst v E) w) : L i E w := LW.val hL ho hw hd (fun a ha => hv a ha w rfl) k
def opdP (E : Env) : List (Nat × Operand) → Option (List (Nat × Value))
 | [] => some []
 | (i, x) :: r => match opd E x with
  | none => none
  | some v => match opdP E r with
   | none => none
   | some vs => some ((i, v) :: vs)
theorem opdP_map {a : Act} (ha : Sat N D E a) {ps : Array (Nat × Operand)} {vs : List (Nat × Value)} (h : opdP E ps.toList = some vs) : (ps.map fun (i, x) => (i, a.eval x)) = vs.toArray := by
 have key : ∀ (l : List (Nat × Operand)) (vs : List (Nat × Value)), opdP E l = some vs → l.map (fun (i, x) => (i, a.eval x)) = vs := by
  intro l
  induction l with
  | nil => intro vs h; simp [opdP] at h; simp [h]
  | cons q r ih =>
   intro vs h
   obtain ⟨i, x⟩ := q
   simp only [opdP] at h
   split at h
   ·cases h
   ·rename_i v hv
    split at h
    ·cases h
    ·rename_i us hus
     simp at h; subst h
     simp [ha.eval hv, ih _ hus]
 rw [← Array.toList_inj]
 simpa using key _ _ h
def opdL (E : Env) : List Operand → Option (List Value)
 | [] => some []
 | x :: r => match opd E x with
  | none => none
  | some v => match opdL E r with
   | none => none
   | some vs => some (v :: vs)
theorem opdL_map {a : Act} (ha : Sat N D E a) {xs : Array Operand} {vs : List Value} (h : opdL E xs.toList = some vs) : xs.map a.eval = vs.toArray := by
 have key : ∀ (l : List Operand) (vs : List Value), opdL E l = some vs → l.map a.eval = vs := by
  intro l
  induction l with
  | nil => intro vs h; simp [opdL] at h; simp [h]
  | cons x r ih =>
   intro vs h
   simp only [opdL] at h
   split at h
   ·cases h
   ·rename_i v hv
    split at h
    ·cases h
    ·rename_i us hus
     simp at h; subst h
     simp [ha.eval hv, ih _ hus]
 rw [← Array.toList_inj]
 simpa using key _ _ h
def optV (E : Env) : Option Operand → Option (Option Value)
 | none => some none
 | some x => match opd E x with
  | none => none
  | some v => some (some v)
theorem optV_map {a : Act} (ha : Sat N D E a) {x : Option Operand} {v : Option Value} (h : optV E x = some v) : x.map a.eval = v := by
 cases x with
 | none => simp [optV] at h; simp [← h]
 | some x =>
  simp only [optV] at h
  split at h
  ·cases h
  ·rename_i u hu
   simp at h; subst h
   simp [ha.eval hu]
theorem eqs {q : Addr} (h : w.cell? q = some v) : ∀ w', w' = w → w'.cell? q = some v := fun _ e => e ▸ h
theorem Rd.move {x : Operand} (h : opd E x = some v) : Rd P N D E ⟨d, .move x, T, p, af, g⟩ v S := fun a ha w _ => by simp [execOp, ha.eval h]
theorem Rd.assign {x : Operand} (h : opd E x = some v) : Rd P N D E ⟨d, .assign x, T, p, af, g⟩ v S := fun a ha w _ => by simp [execOp, ha.eval h]
theorem Rd.pickT {c x y : Operand} {b : Bool} (hc : opd E c = some (.bool b)) (hb : b = true) (h : opd E x = some v) : Rd P N D E ⟨d, .pick c x y, T, p, af, g⟩ v S := fun a ha w _ => by
 simp [execOp, ha.eval hc, ha.eval h, hb, asBool]
theorem Rd.pickF {c x y : Operand} {b : Bool} (hc : opd E c = some (.bool b)) (hb : b = false) (h : opd E y = some v) : Rd P N D E ⟨d, .pick c x y, T, p, af, g⟩ v S := fun a ha w _ => by
 simp [execOp, ha.eval hc, ha.eval h, hb, asBool]
theorem Rd.bin {op : BinOp} {T1 T2 : TypeId} {x y : Operand} {vx vy : Value} (hx : opd E x = some vx) (hy : opd E y = some vy)
  (hr : ∀ w, ((do eqGuard op T1 x y vx vy; binOp op T1 vx vy : Sem Value)).run P w = .ok v w) : Rd P N D E ⟨d, .binOp op T1 x y T2, T, p, af, g⟩ v S := fun a ha w _ => by
 have := hr w
 simp only [Sem.run_bind] at this
 cases hg : (eqGuard op T1 x y vx vy).run P w with
 | ok u w1 => rw [hg] at this; simp only [Result.andThen_ok] at this; simp [execOp, ha.eval hx, ha.eval hy, hg, this]
 | halt h w1 => rw [hg] at this; cases this
theorem Rd.un {op : UnOp} {T1 : TypeId} {x : Operand} {vx : Value} (hx : opd E x = some vx) (hr : ∀ w, (Op.unary op vx).run P w = .ok v w) : Rd P N D E ⟨d, .unOp op T1 x, T, p, af, g⟩ v S := fun a ha w _ => by
 simp [execOp, ha.eval hx, hr w]
theorem Rd.conv {s t : TypeId} {x : Operand} {vx : Value} (hx : opd E x = some vx) (hr : ∀ w, (convert s t vx).run P w = .ok v w) : Rd P N D E ⟨d, .convert s t x, T, p, af, g⟩ v S := fun a ha w _ => by
 simp [execOp, ha.eval hx, hr w]
theorem Rd.nil {x : Operand} {q : Addr} (hx : opd E x = some (.pointer (some q))) : Rd P N D E ⟨d, .nilCheck x, T, p, af, g⟩ (.pointer (some q)) S := fun a ha w _ => by
 simp [execOp, ha.eval hx]
theorem Rd.fa {s : TypeId} {x : Operand} {f : Nat} {q : Addr} (hx : opd E x = some (.pointer (some q))) (hr : ∀ w, (Instr.fieldAt s (.pointer (some q)) f).run P w = .ok v w) :
  Rd P N D E ⟨d, .fieldAddr s x f, T, p, af, g⟩ v S := fun a ha w _ => by
 simp [execOp, ha.eval hx, hr w]
theorem Rd.extract {x : Operand} {i : Nat} {vs : Array Value} (hx : opd E x = some (.tuple vs)) (hi : vs[i]? = some v) : Rd P N D E ⟨d, .extract x i, T, p, af, g⟩ v S := fun a ha w _ => by
 simp [execOp, ha.eval hx, Instr.extract, hi]
theorem Rd.build {t : TypeId} {ps : Array (Nat × Operand)} {vs : List (Nat × Value)} (hx : opdP E ps.toList = some vs) (hr : ∀ w, (Instr.build t vs.toArray).run P w = .ok v w) :
  Rd P N D E ⟨d, .build t ps, T, p, af, g⟩ v S := fun a ha w _ => by
 simp [execOp, opdP_map ha hx, hr w]
theorem Rd.makeFunc {f : Nat} {cap : Array Operand} {vs : List Value} (hx : opdL E cap.toList = some vs) : Rd P N D E ⟨d, .makeFunc (.func f) #[] cap, T, p, af, g⟩ (.func (.func f) #[] vs.toArray) S := fun a ha w _ => by
 simp [execOp, opdL_map ha hx, Instr.makeFunc]
theorem Rd.ld {t : TypeId} {x : Operand} {q : Addr} (hx : opd E x = some (.pointer (some q))) (ht : (match P.underlying t with | some (.struct _) | some (.array _ _) | none => false | _ => true) = true)
  (hc : ∀ w, S w → w.cell? q = some v) : Rd P N D E ⟨d, .load t x, T, p, af, g⟩ v S := fun a ha w hS => by
 have h1 : (isAgg t).run P w = .ok false w := by
  unfold isAgg
  cases hu : P.underlying t with
  | none => rw [hu] at ht; cases ht
  | some u => rw [hu] at ht; simp only [Sem.run_bind, run_underlying hu, Result.andThen_ok]; cases u <;> first | rfl | (cases ht)
 simp [execOp, ha.eval hx, Instr.loadAt, Instr.sureAddr, loadVar, h1, hc w hS]
theorem Rd.ldN {t : TypeId} {x : Operand} {q : Addr} {cs : List Value} (hx : opd E x = some (.pointer (some q))) (ht : (match P.underlying t with | some (.struct _) | some (.array _ _) => true | _ => false) = true)
  (hz : (P.info? t).map (·.size) = some cs.length) (hc : ∀ w, S w → ∀ j v, cs[j]? = some v → w.cell? (q.add j) = some v) : Rd P N D E ⟨d, .load t x, T, p, af, g⟩ (.agg cs.toArray) S := fun a ha w hS => by
 have h1 : (isAgg t).run P w = .ok true w := by
  unfold isAgg
  cases hu : P.underlying t with
  | none => rw [hu] at ht; cases ht
  | some u => rw [hu] at ht; simp only [Sem.run_bind, run_underlying hu, Result.andThen_ok]; cases u <;> first | rfl | (cases ht)
 have h2 : (sizeOf t).run P w = .ok cs.length w := by
  cases hi : P.info? t with
  | none => rw [hi] at hz; cases hz
  | some i => rw [hi] at hz; simp at hz; simp [sizeOf, typeInfo, hi, hz]
 simp [execOp, ha.eval hx, Instr.loadAt, Instr.sureAddr, loadVar, h1, h2, run_loadCells_list w q cs (hc w hS)]
theorem Rd.lookup {t : TypeId} {x k : Operand} {ok : Bool} {vx vk : Value} (hx : opd E x = some vx) (hk : opd E k = some vk) (hl : ∀ w, S w → (Instr.lookup t vx vk ok).run P w = .ok v w) :
  Rd P N D E ⟨d, .lookup t x k ok, T, p, af, g⟩ v S := fun a ha w hS => by
 simp [execOp, ha.eval hx, ha.eval hk, hl w hS]
theorem Rd.index {t : TypeId} {x k : Operand} {vx vk : Value} (hx : opd E x = some vx) (hk : opd E k = some vk) (hl : ∀ w, (Instr.index t vx vk).run P w = .ok v w) :
  Rd P N D E ⟨d, .index t x k, T, p, af, g⟩ v S := fun a ha w hS => by
 simp [execOp, ha.eval hx, ha.eval hk, hl w]
theorem Rd.slice {t : TypeId} {x : Operand} {lo hi mx : Option Operand} {vx : Value} {vlo vhi vmx : Option Value} (hx : opd E x = some vx) (h1 : optV E lo = some vlo) (h2 : optV E hi = some vhi) (h3 : optV E mx = some vmx)
  (hl : ∀ w, (Instr.sliceAt t vx vlo vhi vmx).run P w = .ok v w) : Rd P N D E ⟨d, .slice t x lo hi mx, T, p, af, g⟩ v S := fun a ha w hS => by
 simp [execOp, ha.eval hx, optV_map ha h1, optV_map ha h2, optV_map ha h3, hl w]
theorem Rd.builtin {b : Builtin} {args : Array Operand} {ts : Array TypeId} {vs : List Value} (hx : opdL E args.toList = some vs)
  (hl : ∀ w, S w → (builtin b ts T (args.map fun | .const _ => true | _ => false) vs.toArray).run P w = .ok (.value v) w) : Rd P N D E ⟨d, .call ⟨.builtin b, args, ts⟩, T, p, af, g⟩ v S := fun a ha w hS => by
 have h1 : args.map a.eval = vs.toArray := opdL_map ha hx
 simp [execOp, resolve, invoke, h1]
 exact hl w hS
theorem Rd.iaA {t e : TypeId} {x k : Operand} {q : Addr} {n sz : Nat} {ik : IntKind} {i : Int} (hx : opd E x = some (.pointer (some q))) (hk : opd E k = some (.int ik i)) (ht : P.underlying t = some (.array n e))
  (hz : (P.info? e).map (·.size) = some sz) (h0 : 0 ≤ i) (h1 : i < n) : Rd P N D E ⟨d, .indexAddr t x k, T, p, af, g⟩ (.pointer (some (q.add (i.toNat * sz)))) S := fun a ha w _ => by
 have h2 : (sizeOf e).run P w = .ok sz w := by
  cases hi : P.info? e with
  | none => rw [hi] at hz; cases hz
  | some i => rw [hi] at hz; simp at hz; simp [sizeOf, typeInfo, hi, hz]
 simp [execOp, ha.eval hx, ha.eval hk, Instr.indexAt, asIntOf, run_underlying ht, Instr.sureAddr, h0, h1, h2]
theorem Rd.iaS {t e : TypeId} {x k : Operand} {q : Addr} {n c sz : Nat} {ik : IntKind} {i : Int} (hx : opd E x = some (.slice (some q) n c)) (hk : opd E k = some (.int ik i)) (ht : P.underlying t = some (.slice e))
  (hz : (P.info? e).map (·.size) = some sz) (h0 : 0 ≤ i) (h1 : i < n) : Rd P N D E ⟨d, .indexAddr t x k, T, p, af, g⟩ (.pointer (some (q.add (i.toNat * sz)))) S := fun a ha w _ => by
 have h2 : (sizeOf e).run P w = .ok sz w := by
  cases hi : P.info? e with
  | none => rw [hi] at hz; cases hz
  | some i => rw [hi] at hz; simp at hz; simp [sizeOf, typeInfo, hi, hz]
 simp [execOp, ha.eval hx, ha.eval hk, Instr.indexAt, asIntOf, run_underlying ht, h0, h1, h2]
/-! ### Operations that change the world -/
theorem Vl.box {t : TypeId} {x : Operand} (hx : opd E x = some v) : Vl P N D E ⟨d, .box t x, T, p, af, g⟩ w (.pointer (some ⟨w.heap.size, 0, none⟩)) (w.alloc (.cells v.cells t)) := fun a ha => by
 simp [execOp, ha.eval hx, Instr.box, newVar, newRow]
theorem Vl.alloc {t : TypeId} {z : Value} (hz : (zeroValue t).run P w = .ok z w) : Vl P N D E ⟨d, .alloc t, T, p, af, g⟩ w (.pointer (some ⟨w.heap.size, 0, none⟩)) (w.alloc (.cells z.cells t)) := fun a ha => by
 simp [execOp, Instr.alloc, hz, newVar, newRow]
theorem Vl.makeMap {t : TypeId} : Vl P N D E ⟨d, .makeMap t none, T, p, af, g⟩ w (.map (some w.heap.size)) (w.alloc (.map #[] 0)) := fun a ha => by
 simp [execOp, Instr.makeMap]
theorem Vl.buildSlice {t : TypeId} {n : Nat} {ps : Array (Nat × Operand)} {vs : List (Nat × Value)} (hx : opdP E ps.toList = some vs) (hr : (Instr.buildSlice t n vs.toArray).run P w = .ok v w') :
  Vl P N D E ⟨d, .buildSlice t n ps, T, p, af, g⟩ w v w' := fun a ha => by
 simp [execOp, opdP_map ha hx, hr]
theorem Vl.builtin {b : Builtin} {args : Array Operand} {ts : Array TypeId} {vs : List Value} (hx : opdL E args.toList = some vs)
  (hl : (builtin b ts T (args.map fun | .const _ => true | _ => false) vs.toArray).run P w = .ok (.value v) w') : Vl P N D E ⟨d, .call ⟨.builtin b, args, ts⟩, T, p, af, g⟩ w v w' := fun a ha => by
 have h1 : args.map a.eval = vs.toArray := opdL_map ha hx
 simp [execOp, resolve, invoke, h1]
 exact hl
theorem Vl.range {t : TypeId} {x : Operand} {vx : Value} (hx : opd E x = some vx) (hr : (Instr.range t vx).run P w = .ok v w') : Vl P N D E ⟨d, .range t x, T, p, af, g⟩ w v w' := fun a ha => by
 simp [execOp, ha.eval hx, hr]
theorem Vl.next {x : Operand} {s : Bool} {vx : Value} (hx : opd E x = some vx) (hr : (Instr.next vx s T).run P w = .ok v w') : Vl P N D E ⟨d, .next x s, T, p, af, g⟩ w v w' := fun a ha => by
 simp [execOp, ha.eval hx, hr]
theorem Vl.entry {x : Operand} {vx : Value} (hx : opd E x = some vx) (hr : (Instr.entry vx).run P w = .ok v w') : Vl P N D E ⟨d, .entry x, T, p, af, g⟩ w v w' := fun a ha => by
 simp [execOp, ha.eval hx, hr]
theorem Ef.mapUpdate {t : TypeId} {m k x : Operand} {vm vk vx : Value} (hm : opd E m = some vm) (hk : opd E k = some vk) (hx : opd E x = some vx) (hr : (Instr.mapUpdate t vm vk vx).run P w = .ok () w') :
  Ef P N D E ⟨d, .mapUpdate t m k x, T, p, af, g⟩ w w' := fun a ha => by
 simp [execOp, ha.eval hm, ha.eval hk, ha.eval hx, hr]
theorem Vl.mapEntry {t : TypeId} {m k : Operand} {vm vk : Value} (hm : opd E m = some vm) (hk : opd E k = some vk) (hr : (Instr.mapEntry t vm vk).run P w = .ok v w') :
  Vl P N D E ⟨d, .mapEntry t m k, T, p, af, g⟩ w v w' := fun a ha => by
 simp [execOp, ha.eval hm, ha.eval hk, hr]
theorem Ef.entryStore {t : TypeId} {m s x : Operand} {vm vs vx : Value} (hm : opd E m = some vm) (hs : opd E s = some vs) (hx : opd E x = some vx) (hr : (Instr.entryStore t vm vs vx).run P w = .ok () w') :
  Ef P N D E ⟨d, .entryStore t m s x, T, p, af, g⟩ w w' := fun a ha => by
 simp [execOp, ha.eval hm, ha.eval hs, ha.eval hx, hr]
theorem Ef.st {t : TypeId} {x y : Operand} {q : Addr} {old : Value} (hx : opd E x = some (.pointer (some q))) (hy : opd E y = some v) (hv : v.oneCell' = true) (hz : (P.info? t).map (·.size) = some 1)
  (hc : w.cell? q = some old) (hf : w.frozen? q = false) : Ef P N D E ⟨d, .store t x y, T, p, af, g⟩ w (w.setCell q v) := fun a ha => by
 have h2 : (sizeOf t).run P w = .ok 1 w := by
  cases hi : P.info? t with
  | none => rw [hi] at hz; cases hz
  | some i => rw [hi] at hz; simp at hz; simp [sizeOf, typeInfo, hi, hz]
 have hcs : v.cells = #[v] := by cases v <;> first | rfl | (cases hv)
 have h0 : q.add 0 = q := rfl
 simp [execOp, ha.eval hx, ha.eval hy, Instr.storeAt, Instr.sureAddr, storeVar, h2, hcs, storeCells, h0, run_store P w q v .plain hv, hc, hf]
def setCells (w : World) (q : Addr) : Nat → List Value → World
 | _, [] => w
 | i, v :: vs => setCells (w.setCell (q.add i) v) q (i + 1) vs
theorem isSome_setCell {w : World} {q q' : Addr} {v : Value} (h : (w.cell? q').isSome = true) : ((w.setCell q v).cell? q').isSome = true := by
 by_cases e : q = q'
 ·subst e
  obtain ⟨x, hx⟩ := Option.isSome_iff_exists.1 h
  rw [World.cell?_setCell_same _ _ _ hx]; rfl
 ·rw [World.cell?_setCell_other _ _ _ _ e]; exact h
theorem run_storeCells' (q : Addr) : ∀ (vs : List Value) (i : Nat) (w : World), (∀ v ∈ vs, v.oneCell' = true) → (∀ j, j < vs.length → (w.cell? (q.add (i + j))).isSome = true) →
  (∀ j, j < vs.length → w.frozen? (q.add (i + j)) = false) → (storeCells q vs i).run P w = .ok () (setCells w q i vs)
 | [], i, w, _, _, _ => rfl
 | v :: vs, i, w, h1, hc, hf => by
  obtain ⟨old, ho⟩ := Option.isSome_iff_exists.1 (hc 0 (by simp))
  have hf0 := hf 0 (by simp)
  simp only [Nat.add_zero] at ho hf0
  simp only [storeCells, Sem.run_bind, run_store P w (q.add i) v .plain (h1 v (by simp)), ho, hf0, setCells]
  exact run_storeCells' q vs (i + 1) _ (fun x hx => h1 x (by simp [hx])) (fun j hj => isSome_setCell (by have := hc (j + 1) (by simp; omega); rwa [show i + (j + 1) = i + 1 + j from by omega] at this))
   (fun j hj => by rw [World.frozen?_setCell]; have := hf (j + 1) (by simp; omega); rwa [show i + (j + 1) = i + 1 + j from by omega] at this)
theorem Ef.stN {t : TypeId} {x y : Operand} {q : Addr} {cs : List Value} (hx : opd E x = some (.pointer (some q))) (hy : opd E y = some (.agg cs.toArray)) (hz : (P.info? t).map (·.size) = some cs.length)
  (h1 : ∀ v ∈ cs, v.oneCell' = true) (hc : ∀ j, j < cs.length → (w.cell? (q.add j)).isSome = true) (hf : ∀ j, j < cs.length → w.frozen? (q.add j) = false) :
  Ef P N D E ⟨d, .store t x y, T, p, af, g⟩ w (setCells w q 0 cs) := fun a ha => by
 have h2 : (sizeOf t).run P w = .ok cs.length w := by
  cases hi : P.info? t with
  | none => rw [hi] at hz; cases hz
  | some i => rw [hi] at hz; simp at hz; simp [sizeOf, typeInfo, hi, hz]
 simp [execOp, ha.eval hx, ha.eval hy, Instr.storeAt, Instr.sureAddr, storeVar, h2, Value.cells, run_storeCells' (P := P) q cs 0 w h1 (by simpa using hc) (by simpa using hf)]
/-! ### Calls -/
theorem run_call {f : Nat} {fn : Func} {args : Array Value} (hf : P.funcs[f]? = some fn) (hn : (fn.name == "runtime.NumGoroutine") = false) (hb : fn.body.isNone = false) : (callFunc f args).run P w = .ok (.enter f args) w := by
 simp only [callFunc, Sem.run_bind, run_program, Result.andThen_ok, hf, hn, hb, Bool.false_eq_true, if_false, Sem.run_pure]
theorem Cl.fn {f : Nat} {fn : Func} {args : Array Operand} {ts : Array TypeId} {vs : List Value} (hx : opdL E args.toList = some vs) (hf : P.funcs[f]? = some fn) (hn : (fn.name == "runtime.NumGoroutine") = false)
  (hb : fn.body.isNone = false) : Cl P N D E ⟨d, .call ⟨.value (.func f), args, ts⟩, T, p, af, g⟩ w f vs.toArray := fun a ha => by
 have h1 : args.map a.eval = vs.toArray := opdL_map ha hx
 simp [execOp, resolve, Act.eval, Deferred.ofValue, invoke, h1, run_call hf hn hb]
theorem Cl.fv {x : Operand} {f : Nat} {fn : Func} {cap : Array Value} {args : Array Operand} {ts : Array TypeId} {vs : List Value} (hv : opd E x = some (.func (.func f) #[] cap)) (hx : opdL E args.toList = some vs)
  (hf : P.funcs[f]? = some fn) (hn : (fn.name == "runtime.NumGoroutine") = false) (hb : fn.body.isNone = false) : Cl P N D E ⟨d, .call ⟨.value x, args, ts⟩, T, p, af, g⟩ w f (vs.toArray ++ cap) := fun a ha => by
 have h1 : args.map a.eval = vs.toArray := opdL_map ha hx
 simp [execOp, resolve, ha.eval hv, Deferred.ofValue, invoke, h1, run_call hf hn hb]
def CallsV (P : Program) (fv : Value) (args : Array Value) (w : World) (R : Ending → World → Prop) : Prop :=
 ∃ f cap fn, fv = .func (.func f) #[] cap ∧ P.funcs[f]? = some fn ∧ (fn.name == "runtime.NumGoroutine") = false ∧ fn.body.isNone = false ∧ Calls P f (args ++ cap) w R
end
end Go.X
end
section
/- Small lemmas that the printed texts use. -/
namespace Go.X
open Go
def CellsAt (w : World) (q : Addr) : Nat → List Value → Prop
 | _, [] => True
 | i, v :: vs => w.cell? (q.add i) = some v ∧ CellsAt w q (i + 1) vs
theorem cellsAt_get' {w : World} {q : Addr} : ∀ {vs : List Value} {i : Nat}, CellsAt w q i vs → ∀ j v, vs[j]? = some v → w.cell? (q.add (i + j)) = some v
 | [], _, _, j, v, h => by simp at h
 | x :: vs, i, ⟨h1, h2⟩, 0, v, h => by simp at h; subst h; exact h1
 | x :: vs, i, ⟨h1, h2⟩, j + 1, v, h => by
  have := cellsAt_get' h2 j v (by simpa using h)
  rwa [show i + 1 + j = i + (j + 1) from by omega] at this
theorem cellsAt_get {w : World} {q : Addr} {vs : List Value} (h : CellsAt w q 0 vs) : ∀ j v, vs[j]? = some v → w.cell? (q.add j) = some v := fun j v hj => by
 have := cellsAt_get' h j v hj; rwa [Nat.zero_add] at this
theorem cellsS {w : World} {q : Addr} {vs : List Value} (h : CellsAt w q 0 vs) : ∀ w', w' = w → ∀ j v, vs[j]? = some v → w'.cell? (q.add j) = some v := fun _ e => e ▸ cellsAt_get h
def Has (w : World) (q : Addr) (n : Nat) : Prop := ∀ j, j < n → (w.cell? (q.add j)).isSome = true
def Free (w : World) (q : Addr) (n : Nat) : Prop := ∀ j, j < n → w.frozen? (q.add j) = false
def _root_.Go.World.size (w : World) : Nat := w.heap.size
section
variable {P : Program} {N : Nat} {D : List Deferred} {E : Env} {w w' : World} {o : Oper} {v : Value}
theorem boxE {b : Nat} {x : Obj} (hb : b = w.size) (hw : w' = w.alloc x) (h : Vl P N D E o w (.pointer (some ⟨w.heap.size, 0, none⟩)) (w.alloc x)) : Vl P N D E o w (.pointer (some ⟨b, 0, none⟩)) w' := by subst hb; subst hw; exact h
theorem mapE {b : Nat} {x : Obj} (hb : b = w.size) (hw : w' = w.alloc x) (h : Vl P N D E o w (.map (some w.heap.size)) (w.alloc x)) : Vl P N D E o w (.map (some b)) w' := by subst hb; subst hw; exact h
theorem sliceE {b n : Nat} {x : Obj} (hb : b = w.size) (hw : w' = w.alloc x) (h : ∀ w, Vl P N D E o w (.slice (some ⟨w.heap.size, 0, none⟩) n n) (w.alloc x)) : Vl P N D E o w (.slice (some ⟨b, 0, none⟩) n n) w' := by subst hb; subst hw; exact h w
theorem stE {q : Addr} (hw : w' = w.setCell q v) (h : Ef P N D E o w (w.setCell q v)) : Ef P N D E o w w' := by subst hw; exact h
theorem stNE {q : Addr} {cs : List Value} (hw : w' = setCells w q 0 cs) (h : Ef P N D E o w (setCells w q 0 cs)) : Ef P N D E o w w' := by subst hw; exact h
theorem valB {ts : Array TypeId} {T : TypeId} {c : Array Bool} {vs : Array Value} {b : Builtin} {f : Array TypeId → TypeId → Array Value → Sem Value} (h : (f ts T vs).run P w = .ok v w')
  (hb : builtin b ts T c vs = (do pure (.value (← f ts T vs))) := by rfl) : (builtin b ts T c vs).run P w = .ok (.value v) w' := by
 rw [hb]; simp [h]
theorem ptr_nil_eq {T : TypeId} {x y : Operand} (hT : P.underlying T = some (.pointer (P.pointee T))) (a : Option Addr) (w : World) :
  ((do eqGuard .eql T x y (.pointer a) (.pointer none); binOp .eql T (.pointer a) (.pointer none) : Sem Value)).run P w = .ok (.bool (Option.isNone a)) w := by
 have h1 : (eqGuard .eql T x y (.pointer a) (.pointer none)).run P w = .ok () w := by simp [eqGuard]
 simp only [Sem.run_bind, h1, Result.andThen_ok]
 exact run_eql_pointer_nil w T a hT
theorem cellAlloc {x : Obj} {q : Addr} (hw : w' = w.alloc x) (h : w.cell? q = some v) : w'.cell? q = some v := by
 subst hw; rw [World.cell?_alloc_lt]; exact h; exact World.block_lt_of_cell? w q h
end
end Go.X
end
section
/- Worlds that differ in some blocks alone; cells; maps as lists of keys and values. -/
namespace Go.X
open Go Go.RowKit Go.MapKept
structure Chg (fp : List Nat) (w w' : World) : Prop where
 os : w'.os = w.os
 tape : w'.tape = w.tape
 output : w'.output = w.output
 size : w.heap.size ≤ w'.heap.size
 block : ∀ i, i < w.heap.size → i ∉ fp → w'.heap[i]? = w.heap[i]?
theorem Chg.refl (fp : List Nat) (w : World) : Chg fp w w := ⟨rfl, rfl, rfl, Nat.le_refl _, fun _ _ _ => rfl⟩
theorem Chg.trans {f g : List Nat} {a b c : World} (h : Chg f a b) (k : Chg g b c) (hg : ∀ i ∈ g, i < a.heap.size → i ∈ f) : Chg f a c :=
 ⟨k.os.trans h.os, k.tape.trans h.tape, k.output.trans h.output, Nat.le_trans h.size k.size,
  fun i hi hf => (k.block i (Nat.lt_of_lt_of_le hi h.size) (fun hm => hf (hg i hm hi))).trans (h.block i hi hf)⟩
theorem Chg.mono {f g : List Nat} {a b : World} (h : Chg f a b) (hg : ∀ i ∈ f, i < a.heap.size → i ∈ g) : Chg g a b :=
 ⟨h.os, h.tape, h.output, h.size, fun i hi hf => h.block i hi (fun hm => hf (hg i hm hi))⟩
theorem Chg.trans0 {a b c : World} (h : Chg [] a b) (k : Chg [] b c) : Chg [] a c := h.trans k (by simp)
theorem Chg.nil {f : List Nat} {a b : World} (h : Chg [] a b) : Chg f a b := h.mono (by simp)
theorem Chg.drew (w : World) : Chg [] w w.drew := ⟨rfl, rfl, rfl, Nat.le_refl _, fun _ _ _ => rfl⟩
theorem Chg.alloc (w : World) (o : Obj) : Chg [] w (w.alloc o) := ⟨rfl, rfl, rfl, by simp, fun i hi _ => Below.heap_alloc w o i hi⟩
theorem Chg.setCell (w : World) (q : Addr) (v : Value) : Chg [q.block] w (w.setCell q v) := by
 refine ⟨rfl, rfl, rfl, by simp [World.setCell], fun i hi hf => ?_⟩
 have hne : q.block ≠ i := fun e => hf (by simp [e])
 simp [World.setCell, Array.getElem?_modify, hne]
theorem Chg.setCells (q : Addr) : ∀ (vs : List Value) (i : Nat) (w : World), Chg [q.block] w (setCells w q i vs)
 | [], _, w => Chg.refl _ w
 | v :: vs, i, w => by
  have h1 := Chg.setCell w (q.add i) v
  have hb : (q.add i).block = q.block := by unfold Addr.add; split <;> rfl
  rw [hb] at h1
  exact h1.trans (Chg.setCells q vs (i + 1) _) (fun _ h _ => h)
theorem Chg.put {w : World} {r : Nat} {o : Obj} : Chg [r] w { w with heap := w.heap.setIfInBounds r o } := by
 refine ⟨rfl, rfl, rfl, by simp, fun i hi hf => ?_⟩
 have hne : r ≠ i := fun e => hf (by simp [e])
 simp [hne]
theorem Chg.below {w w' : World} (h : Chg [] w w') : Below w.heap.size w w' := ⟨h.os, h.tape, h.output, h.size, fun k hk => h.block k hk (by simp)⟩
theorem lt_of_heap {w : World} {b : Nat} {o : Obj} (h : w.heap[b]? = some o) : b < w.heap.size := (Array.getElem?_eq_some_iff.1 h).1
theorem Chg.obj {f : List Nat} {w w' : World} (h : Chg f w w') {b : Nat} {o : Obj} (hf : b ∉ f) (hb : w.heap[b]? = some o) : w'.heap[b]? = some o := (h.block b (lt_of_heap hb) hf).trans hb
theorem Chg.cell {f : List Nat} {w w' : World} (h : Chg f w w') {q : Addr} {v : Value} (hf : q.block ∉ f) (hq : w.cell? q = some v) : w'.cell? q = some v := by
 have hb := h.block q.block (World.block_lt_of_cell? w q hq) hf
 unfold World.cell? at hq ⊢
 rw [hb]; exact hq
theorem add_block (q : Addr) (i : Nat) : (q.add i).block = q.block := by unfold Addr.add; split <;> rfl
theorem Chg.cells {f : List Nat} {w w' : World} (h : Chg f w w') {q : Addr} (hf : q.block ∉ f) : ∀ {i : Nat} {vs : List Value}, CellsAt w q i vs → CellsAt w' q i vs
 | _, [], _ => trivial
 | i, v :: vs, ⟨h1, h2⟩ => ⟨h.cell (fun hm => hf (add_block q i ▸ hm)) h1, h.cells hf h2⟩
/-! ### Cells of a known block -/
theorem add_at (b o n : Nat) : (⟨b, o, none⟩ : Addr).add n = ⟨b, o + n, none⟩ := by unfold Addr.add; split <;> simp_all
theorem cell_of {w : World} {b : Nat} {c : Array Value} {t : TypeId} {fr : Nat × Nat} (h : w.heap[b]? = some (.cells c t fr)) (i : Nat) : w.cell? ⟨b, i, none⟩ = c[i]? := by simp [World.cell?, h]
theorem free_of {w : World} {b : Nat} {c : Array Value} {t : TypeId} (h : w.heap[b]? = some (.cells c t (0, 0))) (i : Nat) : w.frozen? ⟨b, i, none⟩ = false := by simp [World.frozen?, h]
theorem heap_new (w : World) (o : Obj) : (w.alloc o).heap[w.size]? = some o := (MapKept.heap_alloc w o).1
theorem set_heap {w : World} {b i : Nat} {c : Array Value} {t : TypeId} {fr : Nat × Nat} (h : w.heap[b]? = some (.cells c t fr)) (v : Value) : (w.setCell ⟨b, i, none⟩ v).heap[b]? = some (.cells (c.setIfInBounds i v) t fr) := by
 simp [World.setCell, Array.getElem?_modify, h]
theorem setCells_heap {b o : Nat} {t : TypeId} {fr : Nat × Nat} : ∀ (vs : List Value) (i : Nat) (w : World) (c : Array Value), w.heap[b]? = some (.cells c t fr) →
  (setCells w ⟨b, o, none⟩ i vs).heap[b]? = some (.cells (vs.zipIdx.foldl (fun c (v, j) => c.setIfInBounds (o + i + j) v) c) t fr)
 | [], i, w, c, h => by simpa [setCells] using h
 | v :: vs, i, w, c, h => by
  simp only [setCells, add_at]
  rw [setCells_heap vs (i + 1) _ _ (set_heap h v)]
  simp only [List.zipIdx_cons, List.foldl_cons, Nat.add_zero, Nat.zero_add]
  congr 2
  have : ∀ (l : List Value) (k : Nat) (c : Array Value), (l.zipIdx (k + 1)).foldl (fun c (x : Value × Nat) => c.setIfInBounds (o + i + x.2) x.1) c = (l.zipIdx k).foldl (fun c (x : Value × Nat) => c.setIfInBounds (o + (i + 1) + x.2) x.1) c := by
   intro l
   induction l with
   | nil => intro k c; rfl
   | cons x l ih =>
    intro k c
    simp only [List.zipIdx_cons, List.foldl_cons]
    rw [ih (k + 1)]
    congr 2
    omega
  exact (this vs 0 _).symm
/-! ### Maps -/
structure KeyT (P : Program) (kt : TypeId) {K : Type} [DecidableEq K] (enc : K → Value) : Prop where
 inj : ∀ a b, enc a = enc b → a = b
 check : ∀ e w k, (Instr.checkKey e 10000 kt (enc k)).run P w = .ok () w
 find : ∀ w k (es : List MapEntry), (∀ x ∈ es, ∃ a, x.key = enc a) →
  ((∀ x ∈ es, x.key ≠ enc k) ∧ (Instr.findKey kt (enc k) es).run P w = .ok none w) ∨
  (∃ j e, es[j]? = some e ∧ e.key = enc k ∧ (Instr.findKey kt (enc k) es).run P w = .ok (some (j, e.val)) w)
 stays : ∀ k, Instr.sameBits 10000 (enc k) (enc k) = true
def MapIs (w : World) (r : Nat) {K V : Type} (ke : K → Value) (ve : V → Value) (l : List (K × V)) : Prop :=
 ∃ es clk, w.heap[r]? = some (.map es clk) ∧ es.toList.map (fun (e : MapEntry) => (e.key, e.val)) = l.map (fun (p : K × V) => (ke p.1, ve p.2)) ∧ (l.map Prod.fst).Nodup ∧
  (∀ e ∈ es.toList, e.born < clk) ∧ (es.toList.map (·.born)).Nodup
section
variable {P : Program} {K V : Type} [DecidableEq K] {ke : K → Value} {ve : V → Value} {kt et T : TypeId} {w : World} {r : Nat} {l : List (K × V)}
theorem MapIs.chg {f : List Nat} {w' : World} (h : MapIs w r ke ve l) (hc : Chg f w w') (hf : r ∉ f) : MapIs w' r ke ve l := by
 obtain ⟨es, clk, h1, h2⟩ := h
 exact ⟨es, clk, hc.obj hf h1, h2⟩
theorem MapIs.lt (h : MapIs w r ke ve l) : r < w.heap.size := by obtain ⟨es, clk, h1, _⟩ := h; exact lt_of_heap h1
theorem MapIs.new (w : World) : MapIs (w.alloc (.map #[] 0)) w.size ke ve ([] : List (K × V)) := ⟨#[], 0, heap_new w _, rfl, by simp, by simp, by simp⟩
def lookK (k : K) (l : List (K × V)) : Option V := (l.find? (fun p => p.1 = k)).map Prod.snd
theorem lookK_at {l : List (K × V)} (hn : (l.map Prod.fst).Nodup) {j : Nat} {k : K} {v : V} (h : l[j]? = some (k, v)) : lookK k l = some v := by
 induction l generalizing j with
 | nil => simp at h
 | cons p l ih =>
  simp only [List.map_cons, List.nodup_cons] at hn
  cases j with
  | zero => simp at h; subst h; simp [lookK]
  | succ j =>
   simp at h
   have hm : k ∈ l.map Prod.fst := List.mem_map.2 ⟨(k, v), List.mem_of_getElem? h, rfl⟩
   have hne : p.1 ≠ k := fun e => hn.1 (e ▸ hm)
   have := ih hn.2 h
   unfold lookK at this ⊢
   rw [List.find?_cons_of_neg (by simpa using hne)]; exact this
theorem find_at (hK : KeyT P kt ke) {es : Array MapEntry} (hn : (l.map Prod.fst).Nodup) (he : es.toList.map (fun (e : MapEntry) => (e.key, e.val)) = l.map (fun (p : K × V) => (ke p.1, ve p.2))) (k : K) :
  (lookK k l = none ∧ (∀ p ∈ l, p.1 ≠ k) ∧ (Instr.findKey kt (ke k) es.toList).run P w = .ok none w) ∨
  (∃ j v, lookK k l = some v ∧ l[j]? = some (k, v) ∧ (∃ e, es.toList[j]? = some e ∧ e.key = ke k) ∧ (Instr.findKey kt (ke k) es.toList).run P w = .ok (some (j, ve v)) w) := by
 have hkeys : ∀ x ∈ es.toList, ∃ a, x.key = ke a := fun x hx => by
  have hm : (x.key, x.val) ∈ l.map (fun (p : K × V) => (ke p.1, ve p.2)) := he ▸ List.mem_map.2 ⟨x, hx, rfl⟩
  obtain ⟨p, _, hp⟩ := List.mem_map.1 hm
  exact ⟨p.1, (congrArg Prod.fst hp).symm⟩
 have hget : ∀ (j : Nat) (e : MapEntry), es.toList[j]? = some e → ∃ p : K × V, l[j]? = some p ∧ e.key = ke p.1 ∧ e.val = ve p.2 := fun j e hj => by
  have h1 : (es.toList.map (fun (e : MapEntry) => (e.key, e.val)))[j]? = some (e.key, e.val) := by rw [List.getElem?_map, hj]; rfl
  rw [he, List.getElem?_map] at h1
  cases hl : l[j]? with
  | none => rw [hl] at h1; cases h1
  | some p => rw [hl] at h1; simp at h1; exact ⟨p, rfl, h1.1.symm, h1.2.symm⟩
 rcases hK.find w k es.toList hkeys with ⟨h1, h2⟩ | ⟨j, e, hj, hek, h2⟩
 ·left
  have hno : ∀ p ∈ l, p.1 ≠ k := fun p hp e => by
   have hm : (ke p.1, ve p.2) ∈ es.toList.map (fun (e : MapEntry) => (e.key, e.val)) := he ▸ List.mem_map.2 ⟨p, hp, rfl⟩
   obtain ⟨x, hx, hxe⟩ := List.mem_map.1 hm
   exact h1 x hx ((congrArg Prod.fst hxe).trans (by rw [e]))
  refine ⟨?_, hno, h2⟩
  unfold lookK
  rw [List.find?_eq_none.2 (by simpa using hno)]; rfl
 ·right
  obtain ⟨p, hp, hpk, hpv⟩ := hget j e hj
  have hk : p.1 = k := hK.inj _ _ (by rw [← hpk, hek])
  have h2' : (Instr.findKey kt (ke k) es.toList).run P w = .ok (some (j, ve p.2)) w := by rw [h2, hpv]
  have hl : l[j]? = some (k, p.2) := by rw [hp, ← hk]
  exact ⟨j, p.2, lookK_at hn hl, hl, ⟨e, hj, hek⟩, h2'⟩
theorem MapIs.lookup (h : MapIs w r ke ve l) (hm : P.underlying T = some (.map kt et)) (hK : KeyT P kt ke) {z : Value} (hz : ∀ w, (zeroValue et).run P w = .ok z w) (k : K) (ok : Bool) :
  (Instr.lookup T (.map (some r)) (ke k) ok).run P w = .ok (if ok then .tuple #[((lookK k l).map ve).getD z, .bool (lookK k l).isSome] else ((lookK k l).map ve).getD z) w := by
 obtain ⟨es, clk, hb, he, hn, _⟩ := h
 rcases find_at (w := w) hK hn he k with ⟨h1, _, h2⟩ | ⟨j, v, h1, _, _, h2⟩
 ·simp [Instr.lookup, run_underlying hm, MapKept.run_getObj_map hb, hK.check, h2, hz, h1, Result.andThen]
 ·simp [Instr.lookup, run_underlying hm, MapKept.run_getObj_map hb, hK.check, h2, h1, Result.andThen]
def upd (k : K) (v : V) (l : List (K × V)) : List (K × V) := if (lookK k l).isSome then l.map (fun p => if p.1 = k then (k, v) else p) else l ++ [(k, v)]
theorem lookK_none {l : List (K × V)} {k : K} : lookK k l = none ↔ ∀ p ∈ l, p.1 ≠ k := by simp [lookK]
theorem lookK_mem {l : List (K × V)} {k : K} {v : V} (h : lookK k l = some v) : (k, v) ∈ l := by
 unfold lookK at h
 cases hf : l.find? (fun p => decide (p.1 = k)) with
 | none => rw [hf] at h; cases h
 | some p =>
  rw [hf] at h
  have h1 := List.find?_some hf
  have h2 := List.mem_of_find?_eq_some hf
  simp at h h1
  obtain ⟨a, b⟩ := p
  simp at h h1; subst h h1; exact h2
theorem lookK_iff {l : List (K × V)} (hn : (l.map Prod.fst).Nodup) {k : K} {v : V} : lookK k l = some v ↔ (k, v) ∈ l := by
 refine ⟨lookK_mem, fun h => ?_⟩
 obtain ⟨j, hj⟩ := List.getElem?_of_mem h
 exact lookK_at hn hj
theorem lookK_nil (k : K) : lookK k ([] : List (K × V)) = none := rfl
theorem lookK_cons (k : K) (p : K × V) (l : List (K × V)) : lookK k (p :: l) = if p.1 = k then some p.2 else lookK k l := by
 unfold lookK; simp only [List.find?_cons]; by_cases h : p.1 = k <;> simp [h]
theorem lookK_append (k : K) (l m : List (K × V)) : lookK k (l ++ m) = (lookK k l).or (lookK k m) := by
 induction l with
 | nil => simp [lookK_nil]
 | cons p l ih => simp only [List.cons_append, lookK_cons, ih]; split <;> simp
theorem lookK_upd (k k' : K) (v : V) (l : List (K × V)) : lookK k' (upd k v l) = if k' = k then some v else lookK k' l := by
 unfold upd
 by_cases hs : (lookK k l).isSome
 ·simp only [hs, if_true]
  have : ∀ (l : List (K × V)), lookK k' (l.map (fun p => if p.1 = k then (k, v) else p)) = if k' = k then (lookK k l).map (fun _ => v) else lookK k' l := by
   intro l
   induction l with
   | nil => simp [lookK_nil]
   | cons p l ih =>
    simp only [List.map_cons, lookK_cons, ih]
    by_cases h1 : p.1 = k <;> by_cases h2 : k' = k
    ·subst h2; simp [h1]
    ·simp [h1, h2, Ne.symm h2]
    ·subst h2; simp [h1]
    ·simp [h1, h2]
  rw [this]
  obtain ⟨u, hu⟩ := Option.isSome_iff_exists.1 hs
  simp [hu]
 ·have hs' : lookK k l = none := by simpa using hs
  simp only [hs', Option.isSome_none, Bool.false_eq_true, if_false]
  rw [lookK_append, lookK_cons, lookK_nil]
  by_cases h2 : k' = k
  ·subst h2; simp [hs']
  ·simp [h2, Ne.symm h2]
theorem keys_upd (k : K) (v : V) (l : List (K × V)) : (upd k v l).map Prod.fst = if (lookK k l).isSome then l.map Prod.fst else l.map Prod.fst ++ [k] := by
 unfold upd
 split
 ·rw [List.map_map]; apply List.map_congr_left; intro p _; simp only [Function.comp]; split <;> simp_all
 ·simp
theorem nodup_upd {l : List (K × V)} (hn : (l.map Prod.fst).Nodup) (k : K) (v : V) : ((upd k v l).map Prod.fst).Nodup := by
 rw [keys_upd]
 split
 ·exact hn
 ·rename_i h
  rw [List.nodup_append]
  refine ⟨hn, by simp, fun a ha b hb e => ?_⟩
  simp at hb; subst hb; subst e
  obtain ⟨p, hp, hpe⟩ := List.mem_map.1 ha
  exact (lookK_none.1 (by simpa using h)) p hp hpe
theorem MapIs.update (h : MapIs w r ke ve l) (hm : P.underlying T = some (.map kt et)) (hK : KeyT P kt ke) (k : K) (v : V) :
  ∃ w', (Instr.mapUpdate T (.map (some r)) (ke k) (ve v)).run P w = .ok () w' ∧ Chg [r] w w' ∧ w'.heap.size = w.heap.size ∧ MapIs w' r ke ve (upd k v l) := by
 obtain ⟨es, clk, hb, he, hn, hbn, hbd⟩ := h
 rcases find_at (w := w) hK hn he k with ⟨h1, h3, h2⟩ | ⟨j, v0, h1, hlj, ⟨e, hej, hek⟩, h2⟩
 ·refine ⟨{ w with heap := w.heap.setIfInBounds r (.map (es.push { key := ke k, val := ve v, born := clk }) (clk + 1)) }, by simp [Instr.mapUpdate, run_underlying hm, MapKept.run_getObj_map hb, hK.check, h2, MapKept.run_setObj_map _ hb, Result.andThen], Chg.put, by simp, _, _, (MapKept.heap_set hb).1, ?_, nodup_upd hn k v, ?_, ?_⟩
  ·simp [upd, h1, he]
  ·intro x hx
   simp only [Array.toList_push, List.mem_append, List.mem_singleton] at hx
   rcases hx with hx | rfl
   ·exact Nat.lt_succ_of_lt (hbn x hx)
   ·exact Nat.lt_succ_self _
  ·simp only [Array.toList_push, List.map_append, List.map_cons, List.map_nil]
   rw [List.nodup_append]
   refine ⟨hbd, by simp, fun a ha b hb e => ?_⟩
   simp at hb; subst hb; subst e
   obtain ⟨x, hx, hxe⟩ := List.mem_map.1 ha
   exact Nat.lt_irrefl _ (hxe ▸ hbn x hx)
 ·have hj : es[j]? = some e := by simpa using hej
  have hkeep : (Instr.keyThatStays (ke k) (ke k)).run P w = .ok (ke k) w := by simp [Instr.keyThatStays, hK.stays]
  have hb' : (es.modify j fun e => { e with key := ke k, val := ve v }).toList.map (·.born) = es.toList.map (·.born) := by
   rw [Array.toList_modify]
   refine List.ext_getElem? fun i => ?_
   simp only [List.getElem?_map, List.getElem?_modify]
   by_cases h : j = i <;> simp [h]
   cases es[i]? <;> rfl
  refine ⟨{ w with heap := w.heap.setIfInBounds r (.map (es.modify j fun e => { e with key := ke k, val := ve v }) clk) }, by simp [Instr.mapUpdate, run_underlying hm, MapKept.run_getObj_map hb, hK.check, h2, hj, hek, hkeep, MapKept.run_setObj_map _ hb, Result.andThen], Chg.put, by simp, _, _, (MapKept.heap_set hb).1, ?_, nodup_upd hn k v, ?_, ?_⟩
  ·have hup : upd k v l = l.map (fun p => if p.1 = k then (k, v) else p) := by simp [upd, h1]
   rw [hup, List.map_map, Array.toList_modify]
   refine List.ext_getElem? fun i => ?_
   have hi := congrArg (fun t : List (Value × Value) => t[i]?) he
   simp only [List.getElem?_map] at hi
   simp only [List.getElem?_map, List.getElem?_modify]
   by_cases hji : j = i
   ·subst hji
    simp [hlj, hej]
   ·simp only [hji, if_false]
    cases hl : l[i]? with
    | none => rw [hl] at hi; simpa [hl] using hi
    | some p =>
     have hpk : p.1 ≠ k := fun e => by
      have : (l.map Prod.fst)[i]? = (l.map Prod.fst)[j]? := by simp [hl, hlj, e]
      have hlt : i < (l.map Prod.fst).length := by
       have := (List.getElem?_eq_some_iff.1 hl).1
       simpa using this
      exact hji ((List.getElem?_inj hlt hn).1 this).symm
     rw [hl] at hi
     simpa [hl, hpk] using hi
  ·intro x hx
   have hm : x.born ∈ es.toList.map (·.born) := hb' ▸ List.mem_map.2 ⟨x, hx, rfl⟩
   obtain ⟨y, hy, hye⟩ := List.mem_map.1 hm
   exact hye ▸ hbn y hy
  ·rw [hb']; exact hbd
end
end Go.X
end
section
/- Entries of maps: Instr.mapEntry, Instr.entryStore over a map as a list. -/
namespace Go.X
open Go Go.RowKit
def EntryAt (w : World) (r : Nat) {K V : Type} (ke : K → Value) (ve : V → Value) (l : List (K × V)) (k : K) (s : Nat) : Prop :=
 ∃ es clk, w.heap[r]? = some (.map es clk) ∧ es.toList.map (fun (e : MapEntry) => (e.key, e.val)) = l.map (fun (p : K × V) => (ke p.1, ve p.2)) ∧ (l.map Prod.fst).Nodup ∧
  (∀ e ∈ es.toList, e.born < clk) ∧ (es.toList.map (·.born)).Nodup ∧ ∃ (j : Nat) (v : V), l[j]? = some (k, v) ∧ ∃ e : MapEntry, es[j]? = some e ∧ e.born = s ∧ e.key = ke k
section
variable {P : Program} {K V : Type} [DecidableEq K] {ke : K → Value} {ve : V → Value} {kt et T : TypeId} {w : World} {r : Nat} {l : List (K × V)} {k : K} {s : Nat}
theorem EntryAt.chg {f : List Nat} {w' : World} (h : EntryAt w r ke ve l k s) (hc : Chg f w w') (hf : r ∉ f) : EntryAt w' r ke ve l k s := by
 obtain ⟨es, clk, h1, h2⟩ := h
 exact ⟨es, clk, hc.obj hf h1, h2⟩
theorem EntryAt.map (h : EntryAt w r ke ve l k s) : MapIs w r ke ve l := by
 obtain ⟨es, clk, h1, h2, h3, h4, h5, _⟩ := h
 exact ⟨es, clk, h1, h2, h3, h4, h5⟩
theorem upd_same {v : V} (hn : (l.map Prod.fst).Nodup) (h : lookK k l = some v) : upd k v l = l := by
 unfold upd
 rw [if_pos (by rw [h]; rfl)]
 have : ∀ p ∈ l, (if p.1 = k then (k, v) else p) = p := fun p hp => by
  split
  ·rename_i e
   subst e
   have h2 := (lookK_iff hn (k := p.1) (v := p.2)).2 hp
   rw [h] at h2
   cases h2; rfl
  ·rfl
 exact (List.map_congr_left this).trans (List.map_id' l)
theorem MapIs.entry (h : MapIs w r ke ve l) (hm : P.underlying T = some (.map kt et)) (hK : KeyT P kt ke) {z : V} (hz : ∀ w, (zeroValue et).run P w = .ok (ve z) w) (k : K) :
  ∃ (s : Nat) (w' : World), (Instr.mapEntry T (.map (some r)) (ke k)).run P w = .ok (.tuple #[ve ((lookK k l).getD z), goInt s]) w' ∧ Chg [r] w w' ∧ w'.heap.size = w.heap.size ∧ EntryAt w' r ke ve (upd k ((lookK k l).getD z) l) k s := by
 obtain ⟨es, clk, hb, he, hn, hbn, hbd⟩ := h
 have hsz : es.size = l.length := by have := congrArg List.length he; simpa using this
 rcases find_at (w := w) hK hn he k with ⟨h1, h3, h2⟩ | ⟨j, v0, h1, hlj, ⟨e, hej, hek⟩, h2⟩
 ·refine ⟨clk, { w with heap := w.heap.setIfInBounds r (.map (es.push { key := ke k, val := ve z, born := clk }) (clk + 1)) }, by simp [Instr.mapEntry, run_underlying hm, MapKept.run_getObj_map hb, hK.check, h2, hz, h1, MapKept.run_setObj_map _ hb, Result.andThen], Chg.put, by simp, _, _, (MapKept.heap_set hb).1, ?_, nodup_upd hn k _, ?_, ?_, ?_⟩
  ·simp [upd, h1, he]
  ·intro x hx
   simp only [Array.toList_push, List.mem_append, List.mem_singleton] at hx
   rcases hx with hx | rfl
   ·exact Nat.lt_succ_of_lt (hbn x hx)
   ·exact Nat.lt_succ_self _
  ·simp only [Array.toList_push, List.map_append, List.map_cons, List.map_nil]
   rw [List.nodup_append]
   refine ⟨hbd, by simp, fun a ha b hb e => ?_⟩
   simp at hb; subst hb; subst e
   obtain ⟨x, hx, hxe⟩ := List.mem_map.1 ha
   exact Nat.lt_irrefl _ (hxe ▸ hbn x hx)
  ·refine ⟨l.length, z, ?_, { key := ke k, val := ve z, born := clk }, ?_, rfl, rfl⟩
   ·simp [upd, h1]
   ·rw [← hsz]; simp
 ·have hj : es[j]? = some e := by simpa using hej
  have hkeep : (Instr.keyThatStays (ke k) (ke k)).run P w = .ok (ke k) w := by simp [Instr.keyThatStays, hK.stays]
  have hsame : es.modify j (fun e => { e with key := ke k }) = es := by
   apply Array.ext'
   rw [Array.toList_modify]
   refine List.ext_getElem? fun i => ?_
   rw [List.getElem?_modify]
   by_cases h : j = i
   ·subst h
    simp only [if_true, hej, Option.map_eq_map, Option.map_some]
    rw [← hek]
   ·simp [h]
  refine ⟨e.born, { w with heap := w.heap.setIfInBounds r (.map es clk) }, by simp [Instr.mapEntry, run_underlying hm, MapKept.run_getObj_map hb, hK.check, h2, hj, hek, hkeep, h1, hsame, MapKept.run_setObj_map _ hb, Result.andThen], Chg.put, by simp, ?_⟩
  rw [h1, Option.getD_some, upd_same hn h1]
  exact ⟨es, clk, (MapKept.heap_set hb).1, he, hn, hbn, hbd, j, v0, hlj, e, hj, rfl, hek⟩
theorem EntryAt.store (h : EntryAt w r ke ve l k s) (v : V) : ∃ w', (Instr.entryStore T (.map (some r)) (goInt s) (ve v)).run P w = .ok () w' ∧ Chg [r] w w' ∧ w'.heap.size = w.heap.size ∧ MapIs w' r ke ve (upd k v l) := by
 obtain ⟨es, clk, hb, he, hn, hbn, hbd, j, v0, hlj, e, hj, hs, hek⟩ := h
 have hfi : es.findIdx? (fun e => (e.born : Int) == (s : Int)) = some j := by
  have hjl : j < es.size := by
   rw [Array.getElem?_eq_some_iff] at hj
   exact hj.1
  have hje : es[j] = e := by rw [Array.getElem?_eq_some_iff] at hj; exact hj.2
  rw [Array.findIdx?_eq_some_iff_getElem]
  refine ⟨hjl, by rw [hje, hs]; simp, fun i hi => ?_⟩
  have hil : i < es.size := by omega
  simp only [beq_iff_eq, Bool.not_eq_true', beq_eq_false_iff_ne, ne_eq]
  intro hc
  have e1 : (es.toList.map (·.born))[i]? = (es.toList.map (·.born))[j]? := by
   rw [List.getElem?_map, List.getElem?_map]
   have hi' : es.toList[i]? = some es[i] := by simp [hil]
   have hj' : es.toList[j]? = some e := by simpa using hj
   rw [hi', hj']
   simp only [Option.map_some]
   congr 1
   omega
  have := (List.getElem?_inj (by simpa using hil) hbd).1 e1
  omega
 have hej : es.toList[j]? = some e := by simpa using hj
 have h1 := lookK_at hn hlj
 have hb' : (es.modify j fun e => { e with val := ve v }).toList.map (·.born) = es.toList.map (·.born) := by
  rw [Array.toList_modify]
  refine List.ext_getElem? fun i => ?_
  simp only [List.getElem?_map, List.getElem?_modify]
  by_cases h : j = i <;> simp [h]
  cases es[i]? <;> rfl
 refine ⟨{ w with heap := w.heap.setIfInBounds r (.map (es.modify j fun e => { e with val := ve v }) clk) }, by simp [Instr.entryStore, MapKept.run_getObj_map hb, asInt, asIntOf, goInt, hfi, MapKept.run_setObj_map _ hb, Result.andThen], Chg.put, by simp, _, _, (MapKept.heap_set hb).1, ?_, nodup_upd hn k v, ?_, ?_⟩
 ·have hup : upd k v l = l.map (fun p => if p.1 = k then (k, v) else p) := by simp [upd, h1]
  rw [hup, List.map_map, Array.toList_modify]
  refine List.ext_getElem? fun i => ?_
  have hi := congrArg (fun t : List (Value × Value) => t[i]?) he
  simp only [List.getElem?_map] at hi
  simp only [List.getElem?_map, List.getElem?_modify]
  by_cases hji : j = i
  ·subst hji
   simp [hlj, hej, hek]
  ·simp only [hji, if_false]
   cases hl : l[i]? with
   | none => rw [hl] at hi; simpa [hl] using hi
   | some p =>
    have hpk : p.1 ≠ k := fun e => by
     have : (l.map Prod.fst)[i]? = (l.map Prod.fst)[j]? := by simp [hl, hlj, e]
     have hlt : i < (l.map Prod.fst).length := by
      have := (List.getElem?_eq_some_iff.1 hl).1
      simpa using this
     exact hji ((List.getElem?_inj hlt hn).1 this).symm
    rw [hl] at hi
    simpa [hl, hpk] using hi
 ·intro x hx
  have hm : x.born ∈ es.toList.map (·.born) := hb' ▸ List.mem_map.2 ⟨x, hx, rfl⟩
  obtain ⟨y, hy, hye⟩ := List.mem_map.1 hm
  exact hye ▸ hbn y hy
 ·rw [hb']; exact hbd
end
end Go.X
end
section
/- Rows that one owns, appends to them; rules for what the printed conditions say at each step. -/
namespace Go.X
open Go Go.RowKit
def RowAt (w : World) (e : TypeId) (size : Nat) (p : Option Addr) (n c : Nat) (xs : List Value) : Prop := w.ownsRow 0 e size (.slice p n c) n xs
def rowB (p : Option Addr) : List Nat := p.toList.map (·.block)
section
variable {P : Program} {w w' : World} {e : TypeId} {size n c : Nat} {p : Option Addr} {xs : List Value}
theorem mem_rowB {p : Option Addr} {b : Nat} : b ∈ rowB p ↔ ∃ a, p = some a ∧ a.block = b := by cases p <;> simp [rowB, eq_comm]
theorem RowAt.lt (h : RowAt w e size p n c xs) : ∀ b ∈ rowB p, b < w.heap.size := by
 intro b hb
 obtain ⟨a, rfl, rfl⟩ := mem_rowB.1 hb
 exact (World.ownsRow.lt h _ rfl).2
theorem RowAt.chg {f : List Nat} (h : RowAt w e size p n c xs) (hc : Chg f w w') (hf : ∀ b ∈ rowB p, b ∉ f) : RowAt w' e size p n c xs := by
 refine ⟨h.1, ?_⟩
 rcases h.2 with hn | ⟨g, cap, cur, hv, hb, hg, rest⟩
 ·exact .inl hn
 ·cases hv
  exact .inr ⟨g, c, cur, rfl, hb, hc.obj (hf g (mem_rowB.2 ⟨_, rfl, rfl⟩)) hg, rest⟩
theorem RowAt.nil : RowAt w e size none 0 0 [] := World.ownsRow_nil w 0 e size
theorem RowAt.of_heap {b : Nat} {cs : List Value} (hb : w.heap[b]? = some (.cells cs.toArray e (0, 0))) (hs : cs.length = n * size) (hn : n ≤ maxLen) : RowAt w e size (some ⟨b, 0, none⟩) n n cs :=
 ⟨hs, .inr ⟨b, n, cs.toArray, rfl, Nat.zero_le _, hb, Nat.le_refl _, hn, by simpa using hs, by simp [← hs]⟩⟩
theorem RowAt.length (h : RowAt w e size p n c xs) : xs.length = n * size := h.1
theorem RowAt.at (h : RowAt w e size p n c xs) {j : Nat} {u : Value} (hj : xs[j]? = some u) : ∃ a, p = some a ∧ w.cell? (a.add j) = some u := by
 rcases h.2 with ⟨hn, hz⟩ | ⟨g, cap, cur, hv, hb, hg, rest⟩
 ·have : xs = [] := List.eq_nil_of_length_eq_zero (by rw [h.1, hz]; simp)
  simp [this] at hj
 ·cases hv
  exact ⟨_, rfl, World.ownsRow.cells (h : World.ownsRow w 0 e size _ n xs) rfl j u hj⟩
theorem RowAt.append (h : RowAt w e size p n c xs) {t ty : TypeId} {i : TypeInfo} {z : Value} {bytes : Nat} (ht : P.underlying t = some (.slice e)) (hi : P.info? e = some i) (hz : i.zero = some z)
  (hsize : i.size = size) (hby : i.bytes = bytes) (hzs : z.cells.size = size) (hsz : 0 < size)
  {a : Addr} {m mc : Nat} {news : List Value} (hl : news.length = m * size) (hnews : ∀ j u, news[j]? = some u → w.cell? (a.add j) = some u) (h1 : ∀ u ∈ news, u.oneCell' = true)
  (h63 : n + m ≤ maxLen) (hbytes : (n + m) * bytes ≤ 140737488355328) :
  ∃ p' c' w', (Builtin.append_ #[t, t] ty #[.slice p n c, .slice (some a) m mc]).run P w = .ok (.slice p' (n + m) c') w' ∧ RowAt w' e size p' (n + m) c' (xs ++ news) ∧ Chg (rowB p) w w' ∧
   (∀ b ∈ rowB p', b ∈ rowB p ∨ w.heap.size ≤ b) := by
 obtain ⟨v', w', hr, ho, hg, hnil⟩ := run_append_own (P := P) w 0 t ty e i z size bytes ht hi hz hsize hby hzs hsz (.slice p n c) n xs h a m mc news hl hnews h1 h63 hbytes (Nat.zero_le _)
 have hchg : Chg (rowB p) w w' := ⟨hg.os, hg.tape, hg.output, hg.size, fun k hk hf => hg.block k hk (fun he => hf (by
  cases p with
  | none => simp [Value.ownBlock] at he
  | some q => simp [Value.ownBlock] at he; simp [rowB, he]))⟩
 rcases ho.2 with ⟨hv, hz0⟩ | ⟨g, cap, cur, hv, hb, hgg, rest⟩
 ·subst hv
  refine ⟨none, 0, w', by rw [hr, hz0], ?_, hchg, by simp [rowB]⟩
  rw [hz0] at ho ⊢; exact ho
 ·subst hv
  refine ⟨some ⟨g, 0, none⟩, cap, w', hr, ho, hchg, fun b hb => ?_⟩
  simp [rowB] at hb; subst hb
  rcases h.2 with ⟨hv, hn0⟩ | ⟨g', cap', cur', hv, _, hgg', hnc, hcm, hcs, htake⟩
  ·right
   cases hv
   obtain ⟨v2, w2, hr2, ho2, _, _⟩ := run_append_own (P := P) w w.heap.size t ty e i z size bytes ht hi hz hsize hby hzs hsz (.slice none 0 0) 0 xs ⟨h.1, .inl ⟨rfl, rfl⟩⟩ a m mc news hl hnews h1 (by omega) (by simpa using hbytes) (Nat.le_refl _)
   rw [hr] at hr2
   cases hr2
   rcases ho2.2 with ⟨hv2, _⟩ | ⟨g2, _, _, hv2, hb2, _⟩
   ·cases hv2
   ·cases hv2; exact hb2
  ·cases hv
   by_cases hroom : n + m ≤ c
   ·left
    have hfit : n * i.size + news.length ≤ cur'.size := by rw [hl, hcs, hsize, ← Nat.add_mul]; exact Nat.mul_le_mul_right _ hroom
    have hr2 := run_append_room (P := P) w t ty e i ht hi g' n c cur' hgg' a m mc news (by rw [hsize]; exact hl) hnews h1 hroom hfit
    rw [hr] at hr2
    cases hr2
    simp [rowB]
   ·right
    have holds : ∀ j u, xs[j]? = some u → w.cell? ((⟨g', 0, none⟩ : Addr).add j) = some u := World.ownsRow.cells (h : World.ownsRow w 0 e size _ n xs) rfl
    have hr2 := run_append_grow (P := P) w t ty e i z ht hi hz ⟨g', 0, none⟩ n c xs (by rw [hsize]; exact h.1) holds a m mc news (by rw [hsize]; exact hl) hnews (by omega)
     (by simp only [maxLen] at h63; omega) (growslice_fits (by omega) (by rw [hby]; exact hbytes))
    rw [hr] at hr2
    cases hr2
    exact Nat.le_refl _
end
/-! ### Steps of the printed conditions -/
theorem v_alloc {w : World} {o : Obj} {K : Nat → World → Prop} (h : ∀ b w', b = w.heap.size → w'.heap[b]? = some o → Chg [] w w' → K b w') :
  ∀ b, b = World.size w → ∀ w1, w1 = World.alloc w o → K b w1 := by
 rintro b rfl w1 rfl
 exact h _ _ rfl (heap_new w o) (Chg.alloc w o)
theorem has_of {w : World} {b : Nat} {c : Array Value} {t : TypeId} (h : w.heap[b]? = some (.cells c t (0, 0))) {o n : Nat} (hn : o + n ≤ c.size) : Has w ⟨b, o, none⟩ n := by
 intro i hi
 rw [add_at, cell_of h, Array.getElem?_eq_getElem (by omega)]
 rfl
theorem free_of' {w : World} {b : Nat} {c : Array Value} {t : TypeId} (h : w.heap[b]? = some (.cells c t (0, 0))) {o n : Nat} : Free w ⟨b, o, none⟩ n := by
 intro i hi
 rw [add_at, free_of h]
theorem setCells_mid {b : Nat} {t : TypeId} {w : World} {pre zs post vs : List Value} (hl : zs.length = vs.length) (h : w.heap[b]? = some (.cells (pre ++ zs ++ post).toArray t (0, 0))) :
  (setCells w ⟨b, pre.length, none⟩ 0 vs).heap[b]? = some (.cells (pre ++ vs ++ post).toArray t (0, 0)) := by
 rw [setCells_heap vs 0 w _ h]
 congr 2
 have : ∀ (vs mid zs : List Value), zs.length = vs.length → ((vs.zipIdx mid.length).foldl (fun c (x : Value × Nat) => c.setIfInBounds (pre.length + 0 + x.2) x.1) (pre ++ (mid ++ zs) ++ post).toArray) = (pre ++ (mid ++ vs) ++ post).toArray := by
  intro vs
  induction vs with
  | nil => intro mid zs h; simp at h; simp [h]
  | cons v vs ih =>
   intro mid zs h
   cases zs with
   | nil => simp at h
   | cons z zs =>
    simp only [List.zipIdx_cons, List.foldl_cons]
    have e1 : ((pre ++ (mid ++ z :: zs) ++ post).toArray.setIfInBounds (pre.length + 0 + mid.length) v) = (pre ++ ((mid ++ [v]) ++ zs) ++ post).toArray := by
     have e2 : pre.length + 0 + mid.length = (pre ++ mid).length := by simp
     rw [e2, show pre ++ (mid ++ z :: zs) ++ post = (pre ++ mid) ++ z :: (zs ++ post) by simp, List.setIfInBounds_toArray, List.set_append_right _ _ (Nat.le_refl _)]
     simp
    rw [e1]
    have := ih (mid ++ [v]) zs (by simpa using h)
    simpa using this
 simpa using this vs [] zs hl
theorem cellsAt_of {w : World} {b : Nat} {t : TypeId} {fr : Nat × Nat} {cs : List Value} (h : w.heap[b]? = some (.cells cs.toArray t fr)) : CellsAt w ⟨b, 0, none⟩ 0 cs := by
 have : ∀ (pre cs : List Value), w.heap[b]? = some (.cells (pre ++ cs).toArray t fr) → CellsAt w ⟨b, 0, none⟩ pre.length cs := by
  intro pre cs
  induction cs generalizing pre with
  | nil => intro _; trivial
  | cons c cs ih =>
   intro h
   refine ⟨by rw [add_at, cell_of h]; simp, ?_⟩
   have := ih (pre ++ [c]) (by simpa using h)
   simpa using this
 exact this [] cs h
theorem v_set {w : World} {b o i : Nat} {c : Array Value} {t : TypeId} {v : Value} (h : w.heap[b]? = some (.cells c t (0, 0))) (hi : o + i < c.size) {K : World → Prop}
  (hk : ∀ w', w'.heap[b]? = some (.cells (c.setIfInBounds (o + i) v) t (0, 0)) → Chg [b] w w' → w'.heap.size = w.heap.size → K w') :
  (∃ u : Value, w.cell? ((⟨b, o, none⟩ : Addr).add i) = some u) ∧ w.frozen? ((⟨b, o, none⟩ : Addr).add i) = false ∧ ∀ w7, w7 = World.setCell w ((⟨b, o, none⟩ : Addr).add i) v → K w7 := by
 rw [add_at]
 refine ⟨⟨_, by rw [cell_of h, Array.getElem?_eq_getElem hi]⟩, free_of h _, ?_⟩
 rintro w7 rfl
 exact hk _ (set_heap h v) (Chg.setCell w ⟨b, o + i, none⟩ v) (by simp [World.setCell])
theorem v_set0 {w : World} {b o : Nat} {c : Array Value} {t : TypeId} {v : Value} (h : w.heap[b]? = some (.cells c t (0, 0))) (hi : o < c.size) {K : World → Prop}
  (hk : ∀ w', w'.heap[b]? = some (.cells (c.setIfInBounds o v) t (0, 0)) → Chg [b] w w' → w'.heap.size = w.heap.size → K w') :
  (∃ u : Value, w.cell? (⟨b, o, none⟩ : Addr) = some u) ∧ w.frozen? (⟨b, o, none⟩ : Addr) = false ∧ ∀ w7, w7 = World.setCell w (⟨b, o, none⟩ : Addr) v → K w7 := by
 have := v_set (i := 0) (K := K) h (by simpa using hi) (v := v) (by simpa using hk)
 rw [add_at] at this; exact this
end Go.X
end
section
/- Equality of small structs. -/
namespace Go.Proofs.YtfcfkhbkkfpehaaGreatDoor
open Go.X
theorem eqS_25 {x y : Operand} (a0 a1 b0 b1 : Int) (w : World) : ((do eqGuard .eql 25 x y (.agg #[.int .i64 a0, .int .i64 a1]) (.agg #[.int .i64 b0, .int .i64 b1]); binOp .eql 25 (.agg #[.int .i64 a0, .int .i64 a1]) (.agg #[.int .i64 b0, .int .i64 b1]) : Sem Value)).run Tryz.prog w = .ok (.bool ((a0 == b0) && (a1 == b1))) w := by
 cases h0 : (a0 == b0) <;> cases h1 : (a1 == b1) <;> simp [go_sem, h0, h1]
theorem neS_25 {x y : Operand} (a0 a1 b0 b1 : Int) (w : World) : ((do eqGuard .neq 25 x y (.agg #[.int .i64 a0, .int .i64 a1]) (.agg #[.int .i64 b0, .int .i64 b1]); binOp .neq 25 (.agg #[.int .i64 a0, .int .i64 a1]) (.agg #[.int .i64 b0, .int .i64 b1]) : Sem Value)).run Tryz.prog w = .ok (.bool (!((a0 == b0) && (a1 == b1)))) w := by
 cases h0 : (a0 == b0) <;> cases h1 : (a1 == b1) <;> simp [go_sem, h0, h1]
end Go.Proofs.YtfcfkhbkkfpehaaGreatDoor
end
section
/- Facts of the seat's types. -/
namespace Go.Proofs.YtfcfkhbkkfpehaaGreatDoor
open Go Go.RowKit Go.X Go.MapKept
theorem zero3 (w : World) : (zeroValue 3).run Tryz.prog w = .ok (.int .i64 0) w := by simp [go_sem, zeroValue]; rfl
def encP (p : Int × Int) : Value := .agg #[.int .i64 p.1, .int .i64 p.2]
theorem find56 (k : Int × Int) (w : World) : ∀ (es : List MapEntry) (i : Nat), (∀ x ∈ es, ∃ a, x.key = encP a) →
  ((∀ x ∈ es, x.key ≠ encP k) ∧ (Instr.findAsking 25 (encP k) es i).run Tryz.prog w = .ok none w) ∨
  (∃ j e, es[j]? = some e ∧ e.key = encP k ∧ (Instr.findAsking 25 (encP k) es i).run Tryz.prog w = .ok (some (i + j, e.val)) w) := by
 intro es
 induction es with
 | nil => intro i _; exact .inl ⟨by simp, by simp [Instr.findAsking]⟩
 | cons e es ih =>
  intro i h
  obtain ⟨a, ha⟩ := h e (.head _)
  have heq : ∀ w, (Op.equal 25 (encP k) e.key).run Tryz.prog w = .ok ((k.1 == a.1) && (k.2 == a.2)) w := by
   intro w
   rw [ha]
   cases h0 : (k.1 == a.1) <;> cases h1 : (k.2 == a.2) <;> simp [go_sem, Op.equal, Op.maxDepth, encP, h0, h1]
  by_cases hk : k = a
  ·refine .inr ⟨0, e, rfl, by rw [ha, hk], ?_⟩
   have hb : ((k.1 == a.1) && (k.2 == a.2)) = true := by simp [hk]
   simp [Instr.findAsking, heq, hb, Result.andThen]
  ·have hb : ((k.1 == a.1) && (k.2 == a.2)) = false := by
    cases hq : ((k.1 == a.1) && (k.2 == a.2)) with
    | false => rfl
    | true => simp at hq; exact absurd (Prod.ext hq.1 hq.2) hk
   have hne : e.key ≠ encP k := by
    rw [ha]; intro he
    simp [encP] at he
    exact hk (Prod.ext he.1.symm he.2.symm)
   have hrun : (Instr.findAsking 25 (encP k) (e :: es) i).run Tryz.prog w = (Instr.findAsking 25 (encP k) es (i + 1)).run Tryz.prog w := by
    simp [Instr.findAsking, heq, hb, Result.andThen]
   rcases ih (i + 1) (fun x hx => h x (.tail _ hx)) with ⟨h1, h2⟩ | ⟨j, e', h1, h2, h3⟩
   ·refine .inl ⟨fun x hx => ?_, hrun.trans h2⟩
    cases hx with
    | head => exact hne
    | tail _ hx => exact h1 x hx
   ·exact .inr ⟨j + 1, e', by simpa using h1, h2, by rw [hrun, h3, show i + 1 + j = i + (j + 1) from by omega]⟩
theorem check56 (e : Bool) (n : Nat) (w : World) (k : Int × Int) : (Instr.checkKey e (n + 2) 25 (encP k)).run Tryz.prog w = .ok () w := by
 have hp : ∀ (t : TypeId) (x : Int), Tryz.prog.underlying t = some (.int .i64) → (Instr.checkKey e (n + 1) t (.int .i64 x)).run Tryz.prog w = .ok () w := fun t x ht => run_checkKey (d := .int .i64) ht (by simp [IsKey]) e n
 unfold Instr.checkKey encP
 simp [go_sem, hp]
theorem keyPlace : KeyT Tryz.prog 25 encP where
 inj := fun a b h => by simp [encP] at h; exact Prod.ext h.1 h.2
 check := fun e w k => by
  exact check56 e 9998 w k
 find := fun w k es hes => by
  rw [run_findKey_eq w (k := 25) (P := Tryz.prog) (by kernel_rfl)]
  rcases find56 k w es 0 hes with h | ⟨j, e, h1, h2, h3⟩
  ·exact .inl h
  ·exact .inr ⟨j, e, h1, h2, by simpa using h3⟩
 stays := fun k => by
  show Instr.sameBits (9999 + 1) (encP k) (encP k) = true
  unfold Instr.sameBits encP
  simp [Instr.sameBits]
end Go.Proofs.YtfcfkhbkkfpehaaGreatDoor
end
section
namespace Go.Proofs.YtfcfkhbkkfpehaaGreatDoor
open Go.X
/- (*pomander/flow.Flow).none -/
def V_flow_Flow_none (f1 : Option Addr) (w : World) (R : Bool → World → Prop) : Prop :=
 ∃ J1 : Bool → World → Prop, (∀ (b1 : Bool) (w1 : World), J1 b1 w1 → R b1 w1) ∧ (((Option.isNone f1) = false → ∃ a1 : Addr, f1 = some a1 ∧ (∃ (t1 : Option Addr), w.cell? (a1.add 2) = some (.pointer t1) ∧ (J1 (Option.isNone t1) w))) ∧ ((Option.isNone f1) = true → J1 true w))
set_option maxRecDepth 100000 in
theorem ok_flow_Flow_none (f1 : Option Addr) (w : World) (R : Bool → World → Prop) (h : V_flow_Flow_none f1 w R) : Calls Tryz.prog 36 #[.pointer f1] w (fun e w' => ∃ (r1 : Bool), e = .returned (.bool r1) ∧ R r1 w') := by
 unfold V_flow_Flow_none at h
 refine enter (N := 12) Tryz.func36 rfl rfl ?_
 refine CW.seq ?_
 refine CW.region fun L hL => ?_
 refine LW.rd hL rfl (Wants.free rfl) rfl (Rd.assign (v := .bool false) rfl) ?_
 refine LW.nil hL rfl ?_
 refine NW.then ?_
 refine CW.seq ?_
 refine CW.region fun L hL => ?_
 refine LW.rd hL rfl (Wants.free rfl) rfl (Rd.move (v := .pointer f1) rfl) ?_
 refine LW.rd hL rfl (Wants.free rfl) rfl (Rd.bin (v := .bool (Option.isNone f1)) rfl rfl (fun w => ptr_nil_eq (by kernel_rfl) f1 w)) ?_
 refine LW.rd hL rfl (Wants.free rfl) rfl (Rd.move (v := .bool (Option.isNone f1)) rfl) ?_
 obtain ⟨J1, hJ1, h1_J1, h0_J1⟩ := h
 suffices K1 : ∀ (b1 : Bool) (w1 : World), J1 b1 w1 → L 9 [(2, .bool false), (11, .bool b1)] w1 by
  rcases Bool.eq_false_or_eq_true (Option.isNone f1) with hb1 | hb1
  ·have h := h0_J1 hb1
   refine LW.skip hL rfl (Skips.on rfl rfl rfl rfl rfl hb1) rfl ?_
   refine LW.skip hL rfl (Skips.on rfl rfl rfl rfl rfl hb1) rfl ?_
   refine LW.skip hL rfl (Skips.on rfl rfl rfl rfl rfl hb1) rfl ?_
   refine LW.skip hL rfl (Skips.on rfl rfl rfl rfl rfl hb1) rfl ?_
   refine LW.skip hL rfl (Skips.on rfl rfl rfl rfl rfl hb1) rfl ?_
   refine LW.rd hL rfl (Wants.free rfl) rfl (Rd.pickT rfl hb1 rfl) ?_
   exact LW.sub hL (by exact ⟨rfl, rfl, trivial⟩) (K1 true w h)
  ·have h := h1_J1 hb1
   refine LW.rd hL rfl (Wants.on rfl rfl rfl rfl rfl hb1) rfl (Rd.move (v := .pointer f1) rfl) ?_
   obtain ⟨a1, ha1, h⟩ := h
   refine LW.rd hL rfl (Wants.on rfl rfl rfl rfl rfl hb1) rfl (Rd.nil (q := a1) (by rw [← ha1]; rfl)) ?_
   refine LW.rd hL rfl (Wants.on rfl rfl rfl rfl rfl hb1) rfl (Rd.fa (v := .pointer (some (a1.add 2))) rfl (fun _ => by kernel_rfl)) ?_
   obtain ⟨t1, hc1, h⟩ := h
   refine LW.rd hL rfl (Wants.on rfl rfl rfl rfl rfl hb1) rfl (Rd.ld (v := .pointer t1) rfl (by kernel_rfl) (eqs hc1)) ?_
   refine LW.rd hL rfl (Wants.on rfl rfl rfl rfl rfl hb1) rfl (Rd.bin (v := .bool (Option.isNone t1)) rfl rfl (fun w => ptr_nil_eq (by kernel_rfl) t1 w)) ?_
   refine LW.rd hL rfl (Wants.free rfl) rfl (Rd.pickF rfl hb1 rfl) ?_
   exact LW.sub hL (by exact ⟨rfl, rfl, trivial⟩) (K1 (Option.isNone t1) w h)
 intro b1 w1 h_
 have h := hJ1 b1 w1 h_; clear h_
 refine LW.rd hL rfl (Wants.free rfl) rfl (Rd.assign (v := .bool b1) rfl) ?_
 refine LW.nil hL rfl ?_
 refine NW.then ?_
 refine CW.ret ?_
 exact res1 rfl rfl ⟨b1, rfl, h⟩
end Go.Proofs.YtfcfkhbkkfpehaaGreatDoor
end
section
namespace Go.Proofs.YtfcfkhbkkfpehaaGreatDoor
open Go.X
end Go.Proofs.YtfcfkhbkkfpehaaGreatDoor
end
section
/- The table of sets (labels): what stands there, New, none, Keep. -/
namespace Go.Proofs.YtfcfkhbkkfpehaaGreatDoor
open Go Go.RowKit Go.X
def numbered (sets : List Int) : List (Int × Int) := sets.zipIdx.map fun x => (x.1, (x.2 : Int))
structure TableAt (w : World) (b : Nat) (most : Int) (sets : List Int) (fp : List Nat) : Prop where
 there : ∃ p c r j clk, w.heap[b]? = some (.cells #[.int .i64 most, .slice p sets.length c, .map (some r), .map (some j)] 130 (0, 0)) ∧ RowAt w 43 1 p sets.length c (sets.map (.int .u32)) ∧
  MapIs w r (fun n : Int => .int .u32 n) (fun n : Int => .int .i64 n) (numbered sets) ∧ w.heap[j]? = some (.map #[] clk) ∧ fp = b :: r :: j :: rowB p
 nodup : fp.Nodup
 some : sets ≠ []
 few : (sets.length : Int) ≤ most
 most1 : 1 ≤ most
 most2 : most ≤ 65536
 each : ∀ s ∈ sets, 0 ≤ s ∧ s < 65536
 distinct : sets.Nodup
theorem TableAt.lt {w : World} {b : Nat} {most : Int} {sets : List Int} {fp : List Nat} (h : TableAt w b most sets fp) : ∀ i ∈ fp, i < w.heap.size := by
 obtain ⟨p, c, r, j, clk, h1, h2, h3, h4, rfl⟩ := h.there
 intro i hi
 simp only [List.mem_cons] at hi
 rcases hi with rfl | rfl | rfl | hi
 ·exact lt_of_heap h1
 ·exact h3.lt
 ·exact lt_of_heap h4
 ·exact h2.lt i hi
theorem TableAt.chg {w w' : World} {b : Nat} {most : Int} {sets : List Int} {fp f : List Nat} (h : TableAt w b most sets fp) (hc : Chg f w w') (hf : ∀ i ∈ fp, i ∉ f) : TableAt w' b most sets fp := by
 obtain ⟨p, c, r, j, clk, h1, h2, h3, h4, rfl⟩ := h.there
 simp only [List.mem_cons, forall_eq_or_imp] at hf
 obtain ⟨f1, f2, f3, f4⟩ := hf
 exact { h with there := ⟨p, c, r, j, clk, hc.obj f1 h1, h2.chg hc f4, h3.chg hc f2, hc.obj f3 h4, rfl⟩ }
def keepE (most : Int) (sets : List Int) (set : Int) : Int := if 65536 ≤ set then 2 else if set ∈ sets then 0 else if most ≤ sets.length then 120 else 0
def keepS (most : Int) (sets : List Int) (set : Int) : List Int := if 65536 ≤ set ∨ set ∈ sets ∨ most ≤ sets.length then sets else sets ++ [set]
end Go.Proofs.YtfcfkhbkkfpehaaGreatDoor
end
section
namespace Go.Proofs.YtfcfkhbkkfpehaaGreatDoor
open Go.X
def z155 : List Value := List.replicate 1 (Value.int .i64 0) ++ List.replicate 64 (Value.int .u32 0)
end Go.Proofs.YtfcfkhbkkfpehaaGreatDoor
end
section
/- Shadows: what stands there; get, put. -/
namespace Go.Proofs.YtfcfkhbkkfpehaaGreatDoor
open Go Go.RowKit Go.X
theorem wr {n : Int} (h1 : -9223372036854775808 ≤ n) (h2 : n ≤ 9223372036854775807) : IntKind.wrap .i64 n = n := by rw [IntKind.wrap_i64]; omega
def many (s : Nat → Int) : Nat := (List.range 64).countP (fun i => s i != 0)
def PageC (w : World) (q : Nat) (n : Int) (s : Nat → Int) : Prop :=
 ∃ c : Array Value, w.heap[q]? = some (.cells c 155 (0, 0)) ∧ c.size = 65 ∧ c[0]? = some (.int .i64 n) ∧ ∀ i, i < 64 → c[1 + i]? = some (.int .u32 (s i))
theorem PageC.chg {w w' : World} {f : List Nat} {q : Nat} {n : Int} {s : Nat → Int} (h : PageC w q n s) (hc : Chg f w w') (hf : q ∉ f) : PageC w' q n s := by
 obtain ⟨c, h1, h2⟩ := h; exact ⟨c, hc.obj hf h1, h2⟩
theorem PageC.lt {w : World} {q : Nat} {n : Int} {s : Nat → Int} (h : PageC w q n s) : q < w.heap.size := by obtain ⟨c, h1, _⟩ := h; exact lt_of_heap h1
def encPg (q : Nat) : Value := .pointer (some ⟨q, 0, none⟩)
def pg (g : Int → Int) (n : Int) (i : Nat) : Int := g (64 * n + i)
structure ShadowAt (w : World) (b : Nat) (pages : Int) (g : Int → Int) (fp : List Nat) : Prop where
 there : ∃ (r : Nat) (l : List (Int × Nat)), w.heap[b]? = some (.cells #[.int .i64 pages, .map (some r)] 133 (0, 0)) ∧ MapIs w r (fun n : Int => .int .i64 n) encPg l ∧
  (∀ x ∈ l, 0 ≤ x.1 ∧ x.1 < pages ∧ PageC w x.2 (many (pg g x.1)) (pg g x.1) ∧ 0 < many (pg g x.1)) ∧ (∀ n, lookK n l = none → ∀ i, i < 64 → pg g n i = 0) ∧ fp = b :: r :: l.map Prod.snd
 nodup : fp.Nodup
 pages1 : 1 ≤ pages
 pages2 : pages ≤ 32
 each : ∀ i, 0 ≤ g i ∧ g i < 65536
theorem ShadowAt.lt {w : World} {b : Nat} {pages : Int} {g : Int → Int} {fp : List Nat} (h : ShadowAt w b pages g fp) : ∀ i ∈ fp, i < w.heap.size := by
 obtain ⟨r, l, h1, h2, h3, h4, rfl⟩ := h.there
 intro i hi
 simp only [List.mem_cons] at hi
 rcases hi with rfl | rfl | hi
 ·exact lt_of_heap h1
 ·exact h2.lt
 ·obtain ⟨x, hx, rfl⟩ := List.mem_map.1 hi
  exact (h3 x hx).2.2.1.lt
theorem ShadowAt.chg {w w' : World} {b : Nat} {pages : Int} {g : Int → Int} {fp f : List Nat} (h : ShadowAt w b pages g fp) (hc : Chg f w w') (hf : ∀ i ∈ fp, i ∉ f) : ShadowAt w' b pages g fp := by
 obtain ⟨r, l, h1, h2, h3, h4, rfl⟩ := h.there
 simp only [List.mem_cons, forall_eq_or_imp] at hf
 obtain ⟨f1, f2, f3⟩ := hf
 exact { h with there := ⟨r, l, hc.obj f1 h1, h2.chg hc f2, fun x hx => ⟨(h3 x hx).1, (h3 x hx).2.1, (h3 x hx).2.2.1.chg hc (f3 _ (List.mem_map.2 ⟨x, hx, rfl⟩)), (h3 x hx).2.2.2⟩, h4, rfl⟩ }
theorem pg_at (g : Int → Int) {at1 : Int} : pg g (at1 / 64) (at1 % 64).toNat = g at1 := by unfold pg; congr 1; omega
theorem ShadowAt.out {w : World} {b : Nat} {pages : Int} {g : Int → Int} {fp : List Nat} (h : ShadowAt w b pages g fp) {i : Int} (hi : i < 0 ∨ 64 * pages ≤ i) : g i = 0 := by
 obtain ⟨r, l, h1, h2, h3, h4, rfl⟩ := h.there
 rw [← pg_at g]
 refine h4 _ ?_ _ (by omega)
 rw [lookK_none]
 intro x hx
 have := h3 x hx
 omega
theorem PageC.congr {w : World} {q : Nat} {n : Int} {s t : Nat → Int} (h : PageC w q n s) (he : ∀ i, i < 64 → s i = t i) : PageC w q n t := by
 obtain ⟨c, h1, h2, h3, h4⟩ := h; exact ⟨c, h1, h2, h3, fun i hi => by rw [h4 i hi, he i hi]⟩
structure Mid (w : World) (b r q : Nat) (pages : Int) (g : Int → Int) (n : Int) (l : List (Int × Nat)) : Prop where
 hb : w.heap[b]? = some (.cells #[.int .i64 pages, .map (some r)] 133 (0, 0))
 hm : MapIs w r (fun n : Int => .int .i64 n) encPg l
 hq : lookK n l = some q
 hn : 0 ≤ n ∧ n < pages
 others : ∀ x ∈ l, x.1 ≠ n → 0 ≤ x.1 ∧ x.1 < pages ∧ PageC w x.2 (many (pg g x.1)) (pg g x.1) ∧ 0 < many (pg g x.1)
 nones : ∀ m, lookK m l = none → ∀ i, i < 64 → pg g m i = 0
 page : PageC w q (many (pg g n)) (pg g n)
 nodup : (b :: r :: l.map Prod.snd).Nodup
end Go.Proofs.YtfcfkhbkkfpehaaGreatDoor
end
section
/- Shadows: New, through, Union, Fill, Get, Set. -/
namespace Go.Proofs.YtfcfkhbkkfpehaaGreatDoor
open Go Go.RowKit Go.X
def inShadow (pages at1 n : Int) : Prop := 0 ≤ at1 ∧ 0 ≤ n ∧ at1 ≤ 64 * pages ∧ n ≤ 64 * pages - at1
instance (pages at1 n : Int) : Decidable (inShadow pages at1 n) := by unfold inShadow; exact inferInstance
end Go.Proofs.YtfcfkhbkkfpehaaGreatDoor
end
section
/- Flows: what stands there; bounds, may, get, put. -/
namespace Go.Proofs.YtfcfkhbkkfpehaaGreatDoor
open Go Go.RowKit Go.X
structure Fl where
 fr : Int
 se : Int
 most : Int
 sets : List Int
 g : Int × Int → Int
def boundP (fr se k : Int) : Int := if k = 1 then 8 else if k = 10 then 64 * fr else if k = 11 then 4 else if k = 12 then 64 * se else if k = 17 then 2 else if 13 ≤ k ∧ k ≤ 16 then 2147483648 else 1
def mayP (fr se : Int) (p : Int × Int) : Prop := 1 ≤ p.1 ∧ p.1 ≤ 17 ∧ 0 ≤ p.2 ∧ p.2 < boundP fr se p.1
instance (fr se : Int) (p : Int × Int) : Decidable (mayP fr se p) := by unfold mayP; exact inferInstance
structure FlowAt (w : World) (b : Nat) (F : Fl) (fp : List Nat) : Prop where
 there : ∃ (T m d r : Nat) (l : List ((Int × Int) × Int)) (fpT fpm fpd : List Nat) (gm gd : Int → Int),
  w.heap[b]? = some (.cells #[.int .i64 F.fr, .int .i64 F.se, .pointer (some ⟨T, 0, none⟩), .pointer (some ⟨m, 0, none⟩), .pointer (some ⟨d, 0, none⟩), .map (some r)] 101 (0, 0)) ∧
  TableAt w T F.most F.sets fpT ∧ ShadowAt w m F.fr gm fpm ∧ ShadowAt w d F.se gd fpd ∧ MapIs w r encP (fun n : Int => .int .u32 n) l ∧ (∀ n, F.g (10, n) = gm n) ∧ (∀ n, F.g (12, n) = gd n) ∧
  (∀ p : Int × Int, p.1 ≠ 10 → p.1 ≠ 12 → F.g p = (lookK p l).getD 0) ∧ (∀ x ∈ l, x.1.1 ≠ 10 ∧ x.1.1 ≠ 12 ∧ mayP F.fr F.se x.1 ∧ 0 < x.2 ∧ x.2 < 65536) ∧ fp = b :: r :: (fpT ++ (fpm ++ fpd))
 nodup : fp.Nodup
theorem FlowAt.lt {w : World} {b : Nat} {F : Fl} {fp : List Nat} (h : FlowAt w b F fp) : ∀ i ∈ fp, i < w.heap.size := by
 obtain ⟨T, m, d, r, l, fpT, fpm, fpd, gm, gd, h1, h2, h3, h4, h5, h6, h7, h8, h9, rfl⟩ := h.there
 intro i hi
 simp only [List.mem_cons, List.mem_append] at hi
 rcases hi with rfl | rfl | hi | hi | hi
 ·exact lt_of_heap h1
 ·exact h5.lt
 ·exact h2.lt i hi
 ·exact h3.lt i hi
 ·exact h4.lt i hi
theorem FlowAt.chg {w w' : World} {b : Nat} {F : Fl} {fp f : List Nat} (h : FlowAt w b F fp) (hc : Chg f w w') (hf : ∀ i ∈ fp, i ∉ f) : FlowAt w' b F fp := by
 obtain ⟨T, m, d, r, l, fpT, fpm, fpd, gm, gd, h1, h2, h3, h4, h5, h6, h7, h8, h9, rfl⟩ := h.there
 simp only [List.mem_cons, List.mem_append, forall_eq_or_imp] at hf
 obtain ⟨f1, f2, f3⟩ := hf
 exact { h with there := ⟨T, m, d, r, l, fpT, fpm, fpd, gm, gd, hc.obj f1 h1, h2.chg hc (fun i hi => f3 i (.inl hi)), h3.chg hc (fun i hi => f3 i (.inr (.inl hi))), h4.chg hc (fun i hi => f3 i (.inr (.inr hi))), h5.chg hc f2, h6, h7, h8, h9, rfl⟩ }
theorem FlowAt.head {w : World} {b : Nat} {F : Fl} {fp : List Nat} (h : FlowAt w b F fp) : ∃ T m d r : Nat,
  w.heap[b]? = some (.cells #[.int .i64 F.fr, .int .i64 F.se, .pointer (some ⟨T, 0, none⟩), .pointer (some ⟨m, 0, none⟩), .pointer (some ⟨d, 0, none⟩), .map (some r)] 101 (0, 0)) := by
 obtain ⟨T, m, d, r, l, fpT, fpm, fpd, gm, gd, h1, _⟩ := h.there
 exact ⟨T, m, d, r, h1⟩
theorem FlowAt.wide {w : World} {b : Nat} {F : Fl} {fp : List Nat} (h : FlowAt w b F fp) : 1 ≤ F.fr ∧ F.fr ≤ 32 ∧ 1 ≤ F.se ∧ F.se ≤ 32 := by
 obtain ⟨T, m, d, r, l, fpT, fpm, fpd, gm, gd, h1, h2, h3, h4, _⟩ := h.there
 exact ⟨h3.pages1, h3.pages2, h4.pages1, h4.pages2⟩
theorem FlowAt.each {w : World} {b : Nat} {F : Fl} {fp : List Nat} (h : FlowAt w b F fp) (p : Int × Int) : 0 ≤ F.g p ∧ F.g p < 65536 := by
 obtain ⟨T, m, d, r, l, fpT, fpm, fpd, gm, gd, h1, h2, h3, h4, h5, h6, h7, h8, h9, _⟩ := h.there
 obtain ⟨k, n⟩ := p
 by_cases e1 : k = 10
 ·subst e1; rw [h6]; exact h3.each n
 by_cases e2 : k = 12
 ·subst e2; rw [h7]; exact h4.each n
 rw [h8 _ e1 e2]
 cases hk : lookK (k, n) l with
 | none => simp
 | some v => have := h9 _ (lookK_mem hk); simp only [Option.getD_some]; simp only [] at this; omega
end Go.Proofs.YtfcfkhbkkfpehaaGreatDoor
end
section
namespace Go.Proofs.YtfcfkhbkkfpehaaGreatDoor
open Go.X
end Go.Proofs.YtfcfkhbkkfpehaaGreatDoor
end
section
/- Flows: get, put, keep, Mark, New. -/
namespace Go.Proofs.YtfcfkhbkkfpehaaGreatDoor
open Go Go.RowKit Go.X
def i64s (n : Int) : Prop := -9223372036854775808 ≤ n ∧ n ≤ 9223372036854775807
def putP (g : Int × Int → Int) (p : Int × Int) (set : Int) : Int × Int → Int := fun q => if q = p then set else g q
def flowNew (fr se most : Int) : Fl := ⟨fr, se, most, [0], fun _ => 0⟩
def rightP (fr se most : Int) : Prop := 1 ≤ fr ∧ fr ≤ 32 ∧ 1 ≤ se ∧ se ≤ 32 ∧ 1 ≤ most ∧ most ≤ 65536
instance (fr se most : Int) : Decidable (rightP fr se most) := by unfold rightP; exact inferInstance
end Go.Proofs.YtfcfkhbkkfpehaaGreatDoor
end
section
/- Flows: Mark, Get, together, right, Decides; places and touches that lie somewhere. -/
namespace Go.Proofs.YtfcfkhbkkfpehaaGreatDoor
open Go Go.RowKit Go.X
def fillP (g : Int × Int → Int) (p : Int × Int) (set : Int) : Nat → Int × Int → Int
 | 0 => g
 | n + 1 => putP (fillP g p set n) (p.1, p.2 + n) set
def markE (F : Fl) (p : Int × Int) (n set : Int) : Int :=
 if ¬ mayP F.fr F.se p ∨ 65536 ≤ set then 2 else if n < 0 ∨ 65536 < n ∨ (0 < n ∧ ¬ mayP F.fr F.se (p.1, p.2 + n - 1)) then 4 else keepE F.most F.sets set
def markF (F : Fl) (p : Int × Int) (n set : Int) : Fl := if markE F p n set = 0 then { F with sets := keepS F.most F.sets set, g := fillP F.g p set n.toNat } else F
theorem grow_trans {fp fp' fp'' : List Nat} {w w' w'' : World} (c : Chg fp w w') (f : ∀ i ∈ fp', i ∈ fp ∨ w.heap.size ≤ i) (c' : Chg fp' w' w'') (f' : ∀ i ∈ fp'', i ∈ fp' ∨ w'.heap.size ≤ i) :
  Chg fp w w'' ∧ ∀ i ∈ fp'', i ∈ fp ∨ w.heap.size ≤ i :=
 ⟨c.trans c' (fun i hi hlt => (f i hi).resolve_right (by omega)), fun i hi => by
  rcases f' i hi with h | h
  ·exact f i h
  ·exact .inr (Nat.le_trans c.size h)⟩
/-! ### Places and touches -/
structure PlacesAt (w : World) (S : Nat → Prop) (p : Option Addr) (n : Nat) (ps : List (Int × Int)) : Prop where
 length : ps.length = n
 each : ∀ j x, ps[j]? = some x → i64s x.1 ∧ i64s x.2 ∧ ∃ a, p = some a ∧ S a.block ∧ CellsAt w (a.add (j * 2)) 0 [.int .i64 x.1, .int .i64 x.2]
theorem PlacesAt.chg {w w' : World} {S : Nat → Prop} {p : Option Addr} {n : Nat} {ps : List (Int × Int)} {f : List Nat} (h : PlacesAt w S p n ps) (hc : Chg f w w') (hf : ∀ i ∈ f, ¬ S i) : PlacesAt w' S p n ps :=
 ⟨h.length, fun j x hx => let ⟨h1, h2, a, h3, h4, h5⟩ := h.each j x hx; ⟨h1, h2, a, h3, h4, hc.cells (by rw [add_block]; exact fun hm => hf _ hm h4) h5⟩⟩
abbrev Tch := (Int × Int) × List (Int × Int)
structure TouchesAt (w : World) (S : Nat → Prop) (p : Option Addr) (n : Nat) (ts : List Tch) : Prop where
 length : ts.length = n
 each : ∀ j t, ts[j]? = some t → i64s t.1.1 ∧ i64s t.1.2 ∧ ∃ a q qn qc, p = some a ∧ S a.block ∧ CellsAt w (a.add (j * 3)) 0 [.int .i64 t.1.1, .int .i64 t.1.2, .slice q qn qc] ∧ PlacesAt w S q qn t.2
theorem TouchesAt.chg {w w' : World} {S : Nat → Prop} {p : Option Addr} {n : Nat} {ts : List Tch} {f : List Nat} (h : TouchesAt w S p n ts) (hc : Chg f w w') (hf : ∀ i ∈ f, ¬ S i) : TouchesAt w' S p n ts :=
 ⟨h.length, fun j x hx => let ⟨h1, h2, a, q, qn, qc, h3, h4, h5, h6⟩ := h.each j x hx; ⟨h1, h2, a, q, qn, qc, h3, h4, hc.cells (by rw [add_block]; exact fun hm => hf _ hm h4) h5, h6.chg hc hf⟩⟩
theorem get_of {α : Type} {l : List α} {j : Nat} (h : j < l.length) : ∃ x, l[j]? = some x := ⟨l[j], List.getElem?_eq_getElem h⟩
theorem take_snoc {α : Type} {l : List α} {j : Nat} {x : α} (h : l[j]? = some x) : l.take (j + 1) = l.take j ++ [x] := by
 rw [List.take_add_one, h]; rfl
def joinP (g : Int × Int → Int) (ps : List (Int × Int)) : Int := ps.foldl (fun s p => bits .or .u32 s (g p)) 0
def rightT (fr se : Int) (t : Tch) : Prop := (t.1 = (0, 0) ∨ mayP fr se t.1) ∧ ∀ p ∈ t.2, mayP fr se p
instance (fr se : Int) (t : Tch) : Decidable (rightT fr se t) := by unfold rightT; exact inferInstance
end Go.Proofs.YtfcfkhbkkfpehaaGreatDoor
end
section
/- Going over a map: the engine's rule for an entry; what the steps yield, by the kit's laws. -/
namespace Go.X
open Go Go.RowKit Go.MapKept Go.ChangeMaps
section
variable {P : Program} {N : Nat} {D : List Deferred} {E : Env} {w w' : World} {d : Option Nat} {T : TypeId} {p : String} {af : Array Edge} {g : Option (Nat × Bool)} {S : World → Prop} {v : Value}
theorem Rd.entry {x : Operand} {vx : Value} (hx : opd E x = some vx) (hl : ∀ w, S w → (Instr.entry vx).run P w = .ok v w) : Rd P N D E ⟨d, .entry x, T, p, af, g⟩ v S := fun a ha w hS => by
 simp [execOp, ha.eval hx, hl w hS]
end
section
variable {P : Program} {K V : Type} [DecidableEq K] {ke : K → Value} {ve : V → Value} {kt et T : TypeId} {w w' : World} {it m : Nat} {l done : List (K × V)}
def IterAt (w : World) (it m : Nat) (ke : K → Value) (ve : V → Value) (l done : List (K × V)) : Prop :=
 ∃ (es : Array MapEntry) (clk since c0 : Nat) (seen : Array Nat) (ds : List MapEntry), w.heap[it]? = some (.mapIter (some m) since seen c0) ∧ since ≤ c0 ∧ since ≤ clk ∧ w.heap[m]? = some (.map es clk) ∧ (∀ x ∈ es.toList, x.born < since) ∧
  es.toList.map (fun (e : MapEntry) => (e.key, e.val)) = l.map (fun (p : K × V) => (ke p.1, ve p.2)) ∧ (l.map Prod.fst).Nodup ∧ (es.toList.map (·.born)).Nodup ∧
  ds.map (·.born) = seen.toList ∧ (∀ d ∈ ds, d ∈ es.toList) ∧ ds.map (fun (e : MapEntry) => (e.key, e.val)) = done.map (fun (p : K × V) => (ke p.1, ve p.2)) ∧ (∀ x ∈ done, x ∈ l) ∧ (done.map Prod.fst).Nodup
theorem IterAt.chg {f : List Nat} (h : IterAt w it m ke ve l done) (hc : Chg f w w') (h1 : it ∉ f) (h2 : m ∉ f) : IterAt w' it m ke ve l done := by
 obtain ⟨es, clk, since, c0, seen, ds, a, b, b', c, rest⟩ := h
 exact ⟨es, clk, since, c0, seen, ds, hc.obj h1 a, b, b', hc.obj h2 c, rest⟩
theorem iter_range (h : MapIs w m ke ve l) (hm : P.underlying T = some (.map kt et)) :
  ∃ it w', (Instr.range T (.map (some m))).run P w = .ok (.pointer (some ⟨it, 0, none⟩)) w' ∧ Chg [] w w' ∧ it = w.heap.size ∧ IterAt w' it m ke ve l [] := by
 obtain ⟨es, clk, hb, he, hn, hbn, hbd⟩ := h
 refine ⟨w.heap.size, w.alloc (.mapIter (some m) clk #[] clk), ?_, Chg.alloc _ _, rfl, es, clk, clk, clk, #[], [], heap_new w _, Nat.le_refl _, Nat.le_refl _, (Chg.alloc w _).obj (by simp) hb, hbn, he, hn, hbd, rfl, by simp, rfl, by simp, by simp⟩
 simp [Instr.range, run_underlying hm, MapKept.run_getObj_map hb, newObj, Result.andThen]
 rfl
theorem iter_next (h : IterAt w it m ke ve l done) (hne : it ≠ m) (hinj : ∀ a b, ke a = ke b → a = b) (ty : TypeId) :
  ((Instr.next (.pointer (some ⟨it, 0, none⟩)) false ty).run P w = .ok (.tuple #[.bool false]) w ∧ ∀ x ∈ l, x ∈ done) ∨
  (∃ (k : K) (v : V) (w' : World), (k, v) ∈ l ∧ k ∉ done.map Prod.fst ∧ (Instr.next (.pointer (some ⟨it, 0, none⟩)) false ty).run P w = .ok (.tuple #[.bool true, ke k, ve v]) w' ∧ Chg [it] w w' ∧
   IterAt w' it m ke ve l (done ++ [(k, v)]) ∧ (Instr.entry (.pointer (some ⟨it, 0, none⟩))).run P w' = .ok (.tuple #[ke k, ve v]) w') := by
 obtain ⟨es, clk, since, c0, seen, ds, h1, h2, h2', h3, h4, h5, h6, h7, h8, h9, h10, h11, h12⟩ := h
 have keyuniq : ∀ e ∈ es.toList, ∀ e' ∈ es.toList, e.key = e'.key → e = e' := by
  intro e he e' he' hk
  obtain ⟨i, hi⟩ := List.getElem?_of_mem he
  obtain ⟨j, hj⟩ := List.getElem?_of_mem he'
  have pi : (l.map (fun (p : K × V) => (ke p.1, ve p.2)))[i]? = some (e.key, e.val) := by rw [← h5, List.getElem?_map, hi]; rfl
  have pj : (l.map (fun (p : K × V) => (ke p.1, ve p.2)))[j]? = some (e'.key, e'.val) := by rw [← h5, List.getElem?_map, hj]; rfl
  rw [List.getElem?_map] at pi pj
  cases li : l[i]? with
  | none => rw [li] at pi; cases pi
  | some a =>
   cases lj : l[j]? with
   | none => rw [lj] at pj; cases pj
   | some b =>
    rw [li] at pi; rw [lj] at pj
    simp at pi pj
    have hab : a.1 = b.1 := hinj _ _ (by rw [pi.1, pj.1, hk])
    have e1 : (l.map Prod.fst)[i]? = (l.map Prod.fst)[j]? := by simp [li, lj, hab]
    have hlt : i < (l.map Prod.fst).length := by have := (List.getElem?_eq_some_iff.1 li).1; simpa using this
    have := (List.getElem?_inj hlt h6).1 e1
    subst this
    rw [hi] at hj; cases hj; rfl
 rcases run_next_at (P := P) w ty it m since c0 seen es clk h1 h3 h4 h2 with ⟨k1, k2⟩ | ⟨e, he, w1, hw1, hrun⟩
 ·left
  refine ⟨k2, fun x hx => ?_⟩
  have hx' : (ke x.1, ve x.2) ∈ es.toList.map (fun (e : MapEntry) => (e.key, e.val)) := h5 ▸ List.mem_map.2 ⟨x, hx, rfl⟩
  obtain ⟨e, he, hee⟩ := List.mem_map.1 hx'
  have hseen : e.born ∈ seen.toList := by
   refine Classical.byContradiction fun hn => ?_
   have hl : e ∈ (leftOf es seen) := by
    unfold leftOf
    rw [Array.mem_filter]
    exact ⟨by simpa using he, by simpa using hn⟩
   have := Array.size_pos_of_mem hl
   omega
  rw [← h8] at hseen
  obtain ⟨d, hd, hde⟩ := List.mem_map.1 hseen
  have hdd : (d.key, d.val) ∈ done.map (fun (p : K × V) => (ke p.1, ve p.2)) := h10 ▸ List.mem_map.2 ⟨d, hd, rfl⟩
  obtain ⟨y, hy, hye⟩ := List.mem_map.1 hdd
  have hborn : d = e := by
   obtain ⟨i, hi⟩ := List.getElem?_of_mem (h9 d hd)
   obtain ⟨j, hj⟩ := List.getElem?_of_mem he
   have e1 : (es.toList.map (·.born))[i]? = (es.toList.map (·.born))[j]? := by rw [List.getElem?_map, List.getElem?_map, hi, hj]; simp [hde]
   have hlt : i < (es.toList.map (·.born)).length := by have := (List.getElem?_eq_some_iff.1 hi).1; simpa using this
   have := (List.getElem?_inj hlt h7).1 e1
   subst this
   rw [hi] at hj; cases hj; rfl
  have hk : y.1 = x.1 := hinj _ _ ((congrArg Prod.fst hye).trans (by rw [hborn]; exact congrArg Prod.fst hee))
  have hyl := h11 y hy
  have hxy : y = x := by
   have a1 : lookK y.1 l = some y.2 := (lookK_iff h6).2 hyl
   have a2 : lookK x.1 l = some x.2 := (lookK_iff h6).2 hx
   rw [hk, a2] at a1
   exact Prod.ext hk (by simpa using a1.symm)
  rw [← hxy]; exact hy
 ·right
  have he' : e ∈ es.toList ∧ e.born ∉ seen.toList := by
   unfold leftOf at he
   simpa using he
  have hm : (e.key, e.val) ∈ l.map (fun (p : K × V) => (ke p.1, ve p.2)) := h5 ▸ List.mem_map.2 ⟨e, he'.1, rfl⟩
  obtain ⟨⟨k, v⟩, hkl, hkv⟩ := List.mem_map.1 hm
  simp only [Prod.mk.injEq] at hkv
  obtain ⟨hk, hv⟩ := hkv
  have hnew : k ∉ done.map Prod.fst := by
   intro hmem
   obtain ⟨y, hy, rfl⟩ := List.mem_map.1 hmem
   have hyd : (ke y.1, ve y.2) ∈ ds.map (fun (e : MapEntry) => (e.key, e.val)) := h10 ▸ List.mem_map.2 ⟨y, hy, rfl⟩
   obtain ⟨d, hd, hde⟩ := List.mem_map.1 hyd
   have := keyuniq d (h9 d hd) e he'.1 ((congrArg Prod.fst hde).trans hk)
   subst this
   exact he'.2 (h8 ▸ List.mem_map.2 ⟨d, hd, rfl⟩)
  have hw1' : Chg [] w w1 := by rcases hw1 with rfl | rfl; exact Chg.refl _ _; exact Chg.drew _
  have hput : Chg [it] w1 (setBlock w1 it (.mapIter (some m) since (seen.push e.born) clk)) := Chg.put
  have hit1 := hw1'.obj (by simp) h1
  have hm1 := hw1'.obj (by simp) h3
  have hit2 : (setBlock w1 it (.mapIter (some m) since (seen.push e.born) clk)).heap[it]? = some (.mapIter (some m) since (seen.push e.born) clk) := (MapKept.heap_set hit1).1
  have hm2 := hput.obj (by simpa using Ne.symm hne) hm1
  refine ⟨k, v, _, hkl, hnew, by rw [hk, hv]; exact hrun, hw1'.nil.trans hput (fun _ h _ => h), ?_, ?_⟩
  ·refine ⟨es, clk, since, clk, seen.push e.born, ds ++ [e], hit2, h2', h2', hm2, h4, h5, h6, h7, by simp [h8], fun d hd => ?_, by simp [h10, hk, hv], fun x hx => ?_, ?_⟩
   ·rcases List.mem_append.1 hd with hd | hd
    ·exact h9 d hd
    ·simp at hd; rw [hd]; exact he'.1
   ·rcases List.mem_append.1 hx with hx | hx
    ·exact h11 x hx
    ·simp at hx; rw [hx]; exact hkl
   ·rw [List.map_append, List.nodup_append]
    refine ⟨h12, by simp, fun a ha b hb e => ?_⟩
    simp at hb; subst hb; subst e; exact hnew ha
  ·rw [hk, hv]
   exact run_entry_at _ it m since seen es clk e hit2 hm2 he'.1 h7
end
theorem nodup_sub_length {α : Type} : ∀ {a b : List α}, a.Nodup → (∀ x ∈ a, x ∈ b) → a.length ≤ b.length
 | [], _, _, _ => Nat.zero_le _
 | x :: a, b, h, hs => by
  obtain ⟨s, t, rfl⟩ := List.append_of_mem (hs x (.head _))
  have := nodup_sub_length (a := a) (b := s ++ t) (List.nodup_cons.1 h).2 (fun y hy => by
   have h1 := hs y (.tail _ hy)
   have hne : y ≠ x := fun e => (List.nodup_cons.1 h).1 (e ▸ hy)
   simp only [List.mem_append, List.mem_cons] at h1 ⊢
   rcases h1 with h1 | h1 | h1
   ·exact .inl h1
   ·exact absurd h1 hne
   ·exact .inr h1)
  simp at this ⊢; omega
def seenN (w : World) (it : Nat) : Nat := match w.heap[it]? with | some (.mapIter _ _ seen _) => seen.size | _ => 0
theorem IterAt.count {K V : Type} [DecidableEq K] {ke : K → Value} {ve : V → Value} {w : World} {it m : Nat} {l done : List (K × V)} (h : IterAt w it m ke ve l done) : seenN w it = done.length := by
 obtain ⟨es, clk, since, c0, seen, ds, h1, h2, h2', h3, h4, h5, h6, h7, h8, h9, h10, h11, h12⟩ := h
 unfold seenN
 rw [h1]
 have a := congrArg List.length h8
 have b := congrArg List.length h10
 simp at a b
 simp only []
 omega
theorem IterAt.more {K V : Type} [DecidableEq K] {ke : K → Value} {ve : V → Value} {w : World} {it m : Nat} {l done : List (K × V)} (h : IterAt w it m ke ve l done) {k : K} {v : V} (hk : (k, v) ∈ l) (hn : k ∉ done.map Prod.fst) : done.length < l.length := by
 obtain ⟨es, clk, since, c0, seen, ds, h1, h2, h2', h3, h4, h5, h6, h7, h8, h9, h10, h11, h12⟩ := h
 have := nodup_sub_length (a := k :: done.map Prod.fst) (b := l.map Prod.fst) (List.nodup_cons.2 ⟨hn, h12⟩) (fun x hx => by
  rcases List.mem_cons.1 hx with rfl | hx
  ·exact List.mem_map.2 ⟨_, hk, rfl⟩
  ·obtain ⟨y, hy, rfl⟩ := List.mem_map.1 hx
   exact List.mem_map.2 ⟨y, h11 y hy, rfl⟩)
 simp at this; omega
theorem IterAt.sub {K V : Type} [DecidableEq K] {ke : K → Value} {ve : V → Value} {w : World} {it m : Nat} {l done : List (K × V)} (h : IterAt w it m ke ve l done) : (∀ x ∈ done, x ∈ l) ∧ (done.map Prod.fst).Nodup ∧ (l.map Prod.fst).Nodup := by
 obtain ⟨es, clk, since, c0, seen, ds, h1, h2, h2', h3, h4, h5, h6, h7, h8, h9, h10, h11, h12⟩ := h
 exact ⟨h11, h12, h6⟩
end Go.X
end
section
/- Boxes of a function's own, of which nobody else knows: what stands in them. -/
namespace Go.X
open Go Go.RowKit
structure Boxes (w : World) (l : List (Nat × List Value × TypeId)) : Prop where
 heap : ∀ x ∈ l, w.heap[x.1]? = some (.cells x.2.1.toArray x.2.2 (0, 0))
 nodup : (l.map (·.1)).Nodup
def Same (w w' : World) (l : List Nat) : Prop := ∀ b ∈ l, w'.heap[b]? = w.heap[b]?
theorem Same.of {f : List Nat} {w w' : World} {l : List Nat} (h : Chg f w w') (hl : ∀ b ∈ l, b < w.heap.size ∧ b ∉ f) : Same w w' l := fun b hb => h.block b (hl b hb).1 (hl b hb).2
theorem Same.chg {w w' : World} {l : List Nat} (h : Chg [] w w') (hl : ∀ b ∈ l, b < w.heap.size) : Same w w' l := Same.of h fun b hb => ⟨hl b hb, by simp⟩
theorem Same.refl (w : World) (l : List Nat) : Same w w l := fun _ _ => rfl
section
variable {w w' w1 w0 : World} {l l' : List (Nat × List Value × TypeId)} {b o i : Nat} {cs cs' vs : List Value} {T : TypeId} {v : Value} {M : List Nat} {x : Obj}
theorem Boxes.nil (w : World) : Boxes w [] := ⟨by simp, by simp⟩
theorem Boxes.at (h : Boxes w l) (hi : l[i]? = some (b, cs, T)) : w.heap[b]? = some (.cells cs.toArray T (0, 0)) := h.heap _ (List.mem_of_getElem? hi)
theorem Boxes.chg {f : List Nat} (h : Boxes w l) (hc : Chg f w w1) (hf : ∀ x ∈ l, x.1 ∉ f) : Boxes w1 l := ⟨fun x hx => hc.obj (hf x hx) (h.heap x hx), h.nodup⟩
theorem Boxes.grow (h : Boxes w l) (hw : w1 = World.alloc w x) : Boxes w1 l := h.chg (f := []) (by subst hw; exact Chg.alloc _ _) (by simp)
theorem Boxes.drew (h : Boxes w l) (hw : w1 = World.drew w) : Boxes w1 l := h.chg (f := []) (by subst hw; exact Chg.drew _) (by simp)
theorem Boxes.alloc (h : Boxes w l) (hb : b = World.size w) (hw : w1 = World.alloc w (.cells cs.toArray T)) : Boxes w1 ((b, cs, T) :: l) := by
 have h1 := h.grow hw
 refine ⟨fun y hy => ?_, ?_⟩
 ·rcases List.mem_cons.1 hy with rfl | hy
  ·subst hb hw; exact heap_new w _
  ·exact h1.heap y hy
 ·rw [List.map_cons, List.nodup_cons]
  refine ⟨fun hm => ?_, h.nodup⟩
  obtain ⟨y, hy, e⟩ := List.mem_map.1 hm
  have := lt_of_heap (h.heap y hy)
  subst hb
  change y.1 = w.heap.size at e
  omega
theorem Boxes.same (h : Boxes w l) (hs : Same w w1 (l.map (·.1))) : Boxes w1 l := ⟨fun x hx => (hs _ (List.mem_map.2 ⟨x, hx, rfl⟩)).trans (h.heap x hx), h.nodup⟩
theorem sel_nodup : ∀ (is : List Nat), is.Nodup → (l.map (·.1)).Nodup → ((is.filterMap (fun i => l[i]?)).map (·.1)).Nodup
 | [], _, _ => by simp
 | i :: is, hi, hl => by
  have ih := sel_nodup is (List.nodup_cons.1 hi).2 hl
  rw [List.filterMap_cons]
  cases hx : l[i]? with
  | none => exact ih
  | some x =>
   simp only [List.map_cons, List.nodup_cons]
   refine ⟨fun hm => ?_, ih⟩
   obtain ⟨y, hy, e⟩ := List.mem_map.1 hm
   obtain ⟨j, hj, hjy⟩ := List.mem_filterMap.1 hy
   have h1 : (l.map (·.1))[i]? = some x.1 := by simp [hx]
   have h2 : (l.map (·.1))[j]? = some x.1 := by simp [hjy, e]
   have hlt : i < (l.map (·.1)).length := (List.getElem?_eq_some_iff.1 h1).1
   have : i = j := (List.getElem?_inj hlt hl).1 (h1.trans h2.symm)
   subst this
   exact (List.nodup_cons.1 hi).1 hj
theorem Boxes.sel (h : Boxes w l) (is : List Nat) (hn : is.Nodup) (hl : is.filterMap (fun i => l[i]?) = l') : Boxes w l' := by
 subst hl
 refine ⟨fun x hx => ?_, sel_nodup is hn h.nodup⟩
 obtain ⟨j, _, hj⟩ := List.mem_filterMap.1 hx
 exact h.heap x (List.mem_of_getElem? hj)
theorem Boxes.put (h : Boxes w l) (hi : l[i]? = some (b, cs, T)) (hc : Chg [b] w w1) (hb : w1.heap[b]? = some (.cells cs'.toArray T (0, 0))) : Boxes w1 (l.set i (b, cs', T)) := by
 have hm : (l.set i (b, cs', T)).map (·.1) = l.map (·.1) := by
  rw [List.map_set]
  apply List.ext_getElem?
  intro j
  rw [List.getElem?_set]
  split
  ·rename_i e; subst e
   split
   ·simp [hi]
   ·rename_i hlt
    rw [List.getElem?_eq_none (by omega)]
  ·rfl
 refine ⟨fun x hx => ?_, by rw [hm]; exact h.nodup⟩
 obtain ⟨j, hj⟩ := List.getElem?_of_mem hx
 rw [List.getElem?_set] at hj
 split at hj
 ·split at hj
  ·cases hj; exact hb
  ·cases hj
 ·rename_i hne
  have hx' := h.heap x (List.mem_of_getElem? hj)
  refine hc.obj (fun hm => ?_) hx'
  simp at hm
  have h1 : (l.map (·.1))[j]? = some b := by simp [hj, hm]
  have h2 : (l.map (·.1))[i]? = some b := by simp [hi]
  have hlt : i < (l.map (·.1)).length := (List.getElem?_eq_some_iff.1 h2).1
  exact hne ((List.getElem?_inj hlt h.nodup).1 (h2.trans h1.symm))
theorem Boxes.store (h : Boxes w l) (hi : l[i]? = some (b, cs, T)) (hc : cs.take o ++ vs ++ cs.drop (o + vs.length) = cs') (hl : l.set i (b, cs', T) = l') (hle : Nat.ble (o + vs.length) cs.length = true) (hw : w1 = setCells w ⟨b, o, none⟩ 0 vs) : Boxes w1 l' := by
 subst hl hw hc
 have hle' := Nat.le_of_ble_eq_true hle
 refine h.put hi (Chg.setCells ⟨b, o, none⟩ vs 0 w) ?_
 have h1 := h.at hi
 have e : cs = cs.take o ++ (cs.drop o).take vs.length ++ cs.drop (o + vs.length) := by
  rw [← List.drop_drop, List.append_assoc, List.take_append_drop, List.take_append_drop]
 have ho : (cs.take o).length = o := by rw [List.length_take]; omega
 have := setCells_mid (w := w) (b := b) (t := T) (pre := cs.take o) (zs := (cs.drop o).take vs.length) (post := cs.drop (o + vs.length)) (vs := vs) (by rw [List.length_take, List.length_drop]; omega) (by rw [← e]; exact h1)
 rwa [ho] at this
theorem Boxes.store1 (h : Boxes w l) (hi : l[i]? = some (b, cs, T)) (hc : cs.take o ++ [v] ++ cs.drop (o + 1) = cs') (hl : l.set i (b, cs', T) = l') (hle : Nat.ble (o + 1) cs.length = true) (hw : w1 = World.setCell w ⟨b, o, none⟩ v) : Boxes w1 l' :=
 h.store (vs := [v]) hi hc hl hle (by rw [hw]; simp only [setCells, add_at, Nat.add_zero])
theorem box_cell {fr : Nat × Nat} (h : w.heap[b]? = some (.cells cs.toArray T fr)) (hv : cs[o]? = some v) : w.cell? ⟨b, o, none⟩ = some v := by
 rw [cell_of h]; simpa using hv
theorem box_cells {fr : Nat × Nat} (h : w.heap[b]? = some (.cells cs.toArray T fr)) (hv : (cs.drop o).take vs.length = vs) : CellsAt w ⟨b, o, none⟩ 0 vs := by
 have : ∀ (vs : List Value) (k : Nat), (∀ j v, vs[j]? = some v → cs[o + k + j]? = some v) → CellsAt w ⟨b, o, none⟩ k vs := by
  intro vs
  induction vs with
  | nil => intro k _; trivial
  | cons v vs ih =>
   intro k hk
   refine ⟨by rw [add_at]; exact box_cell h (by simpa using hk 0 v rfl), ih (k + 1) fun j u hj => ?_⟩
   have := hk (j + 1) u (by simpa using hj)
   rwa [show o + k + (j + 1) = o + (k + 1) + j by omega] at this
 refine this vs 0 fun j v hj => ?_
 rw [← hv, List.getElem?_take] at hj
 split at hj
 ·rw [List.getElem?_drop] at hj; simpa using hj
 ·cases hj
theorem sil_lo (h : Chg M w0 w) (hb : b = World.size w) : w0.heap.size ≤ b := by subst hb; exact h.size
theorem sil_alloc (h : Chg M w0 w) (hw : w1 = World.alloc w x) : Chg M w0 w1 := by subst hw; exact h.trans (g := []) (Chg.alloc _ _) (by simp)
theorem sil_drew (h : Chg M w0 w) (hw : w1 = World.drew w) : Chg M w0 w1 := by subst hw; exact h.trans (g := []) (Chg.drew _) (by simp)
theorem sil_cN {q : Addr} (hw : w1 = setCells w q 0 vs) : Chg [q.block] w w1 := by subst hw; exact Chg.setCells _ _ _ _
theorem sil_c1 {q : Addr} (hw : w1 = World.setCell w q v) : Chg [q.block] w w1 := by subst hw; exact Chg.setCell _ _ _
theorem sil_new (h : Chg M w0 w) (hc : Chg [b] w w1) (hb : w0.heap.size ≤ b) : Chg M w0 w1 := h.trans hc (fun i hi hlt => by simp at hi; omega)
theorem sil_more (h : Chg M w0 w) (hc : Chg [b] w w1) : Chg (M ++ [b]) w0 w1 := (h.mono (fun i hi _ => List.mem_append_left _ hi)).trans hc (fun i hi _ => by simp at hi; simp [hi])
theorem equalIn_map_nil {P : Program} (d : Nat) {t k e : TypeId} (m : Option Nat) (h : P.underlying t = some (.map k e)) (w : World) : (Op.equalIn (d + 1) t (.map m) (.map none)).run P w = .ok m.isNone w := by
 cases m <;> simp [Op.equalIn, run_underlying h]
theorem map_nil_eq {P : Program} {T : TypeId} {x y : Operand} (hT : (match P.underlying T with | some (.map _ _) => true | _ => false) = true) (m : Option Nat) (w : World) :
  ((do eqGuard .eql T x y (.map m) (.map none); binOp .eql T (.map m) (.map none) : Sem Value)).run P w = .ok (.bool (Option.isNone m)) w := by
 have h1 : (eqGuard .eql T x y (.map m) (.map none)).run P w = .ok () w := by simp [eqGuard]
 simp only [Sem.run_bind, h1, Result.andThen_ok]
 cases hu : P.underlying T with
 | none => rw [hu] at hT; cases hT
 | some u =>
  rw [hu] at hT
  cases u with
  | map k e =>
   simp only [binOp]
   have : (Op.equal T (.map m) (.map none)).run P w = .ok m.isNone w := by
    exact equalIn_map_nil 9999 m hu w
   simp [this]
  | _ => cases hT
end
section
variable {P : Program} {N : Nat} {D : List Deferred} {E : Env} {w w' : World} {d : Option Nat} {T : TypeId} {p : String} {af : Array Edge} {g : Option (Nat × Bool)} {S : World → Prop} {v : Value}
end
end Go.X
end
section
/- Ranges over functions: the engine's rules within a round; what an iterator does; the statement. -/
namespace Go.XR
open Go Go.X Go.RowKit
def FR (ro : Option Nat) : Fence := { Fence.wide with round := ro }
theorem FR.fn (ro : Option Nat) (f : FuncId) : (FR ro).fn f := trivial
theorem FR.callsIn {ro : Option Nat} {n : Nat} {P : Program} {f : FuncId} {args : Array Value} {w : World} {R : Ending → World → Prop} (h : Calls P f args w R) : CallsIn (FR ro) n P f args w R := callsIn_wide.2 h
def isDefer (o : Oper) : Bool := match o.op with | .defer _ => true | _ => false
theorem semAt_of {ro : Option Nat} {o : Oper} (h : isDefer o = false) (ρ : Operand → Value) : Oper.semAt ro ρ o = execOp ρ o :=
 Oper.semAt_eq ro ρ o fun c hc => by simp [isDefer, hc] at h
section
variable {ro : Option Nat} {P : Program} {N : Nat} {D : List Deferred} {Q : Exit → Act → World → Prop} {E : Env} {w w' : World}
def CW (ro : Option Nat) (P : Program) (N : Nat) (D : List Deferred) (c : Code) (Q : Exit → Act → World → Prop) (E : Env) (w : World) : Prop := ∀ a, Sat N D E a → c.wpIn (FR ro) 0 P Q a w
theorem CW.plain {c : Code} (h : X.CW P N D c Q E w) : CW none P N D c Q E w := fun a ha => wpIn_wide.2 (h a ha)
theorem _root_.Go.X.CW.plain' {c : Code} (h : X.CW P N D c Q E w) : CW none P N D c Q E w := fun a ha => wpIn_wide.2 (h a ha)
theorem CW.un {c : Code} (h : CW none P N D c Q E w) : X.CW P N D c Q E w := fun a ha => wpIn_wide.1 (h a ha)
theorem CW.sub {c : Code} {F : Env} (s : Sub E F) (h : CW ro P N D c Q E w) : CW ro P N D c Q F w := fun a ha => h a (ha.sub s)
theorem CW.seq {x y : Code} (h : CW ro P N D x (Exit.then (y.wpIn (FR ro) 0 P Q) Q) E w) : CW ro P N D (.seq x y) Q E w := fun a ha => wpIn_seq (h a ha)
theorem NW.then {y : Code} (h : CW ro P N D y Q E w) : NW N D (Exit.then (y.wpIn (FR ro) 0 P Q) Q) E w := fun a ha => h a ha
theorem CW.skip (h : NW N D Q E w) : CW ro P N D .skip Q E w := fun a ha => wpIn_skip (h a ha)
theorem CW.label {l : Nat} (h : NW N D Q E w) : CW ro P N D (.label l) Q E w := fun a ha => wpIn_label (h a ha)
theorem CW.cond {c : Operand} {x y : Code} {b : Bool} (hc : opd E c = some (.bool b)) (h1 : b = true → CW ro P N D x Q E w) (h2 : b = false → CW ro P N D y Q E w) : CW ro P N D (.cond c x y) Q E w :=
 fun a ha => wpIn_cond_split (ha.eval hc) (fun hb => h1 hb a ha) (fun hb => h2 hb a ha)
theorem CW.block {id : Nat} {c : Code} (h : CW ro P N D c (Exit.inBlock id Q) E w) : CW ro P N D (.block id c) Q E w := fun a ha => wpIn_block (h a ha)
theorem CW.exit {id : Nat} (h : XW N D id Q E w) : CW ro P N D (.exit id) Q E w := fun a ha => wpIn_exit (h a ha)
theorem CW.ret (h : RW N D Q E w) : CW ro P N D .ret Q E w := fun a ha => wpIn_ret (h a ha)
theorem CW.goto {l : Nat} (h : GW N D l Q E w) : CW ro P N D (.goto l) Q E w := fun a ha => wpIn_goto (h a ha)
theorem CW.cut {S : Type} {x y : Code} (Ek : S → Env) (I : S → World → Prop) (hk : ∀ s w, I s w → CW ro P N D y Q (Ek s) w)
  (h : CW ro P N D x (Exit.then (fun a w => ∃ s, Sat N D (Ek s) a ∧ I s w) Q) E w) : CW ro P N D (.seq x y) Q E w := fun a ha =>
 wpIn_seq (wpIn_mono (h a ha) fun e a' w' hq => by
  cases e with
  | normal => obtain ⟨s, hs, hI⟩ := hq; exact hk s w' hI a' hs
  | _ => exact hq)
theorem CW.loop {S : Type} {c : Code} (El : S → Env) (I : S → World → Prop) (μ : S → World → Nat) (s₀ : S) (hs : Sub (El s₀) E) (hI : I s₀ w)
  (round : ∀ s w, I s w → CW ro P N D c (Exit.then (fun a' w' => ∃ s', Sat N D (El s') a' ∧ (I s' w' ∧ μ s' w' < μ s w)) Q) (El s) w) : CW ro P N D (.loop c) Q E w := by
 intro a ha b k cs hro hb hr
 have key : ∀ j s a w, μ s w = j → Sat N D (El s) a → I s w →
   ∃ e a' w', Q e a' w' ∧ ArrivesIn (Machine.fenced P (FR ro)) P (lone (b.atR a (.code c :: .inLoop c :: k)) cs w) b k cs e a' w' := by
  intro j
  induction j using Nat.strongRecOn with
  | _ j ih =>
   intro s a w hn ha hI
   obtain ⟨e, a₁, w₁, hq, harr⟩ := round s w hI a ha b (.inLoop c :: k) cs hro hb hr
   cases e with
   | normal =>
    obtain ⟨s', hs', hI', hlt⟩ := hq
    obtain ⟨e₂, a₂, w₂, hq₂, harr₂⟩ := ih (μ s' w₁) (hn ▸ hlt) s' a₁ w₁ rfl hs' hI'
    exact ⟨e₂, a₂, w₂, hq₂, .of_steps (StepsIn.trans harr (.one (fenced_calm hb hr rfl) stepR_inLoop)) harr₂⟩
   | exit id => exact ⟨_, a₁, w₁, hq, .pass (x := .inLoop c) rfl (fun _ _ => .inl (by simp)) harr⟩
   | goto l => exact ⟨_, a₁, w₁, hq, .pass (x := .inLoop c) rfl (fun _ _ => .inl (by simp)) harr⟩
   | ret => exact ⟨_, a₁, w₁, hq, .pass (x := .inLoop c) rfl (fun _ _ => .inl (by simp)) harr⟩
   | panic ch => exact ⟨_, a₁, w₁, hq, .pass (x := .inLoop c) rfl (fun _ _ => .inl (by simp)) harr⟩
   | outgrown => exact ⟨_, a₁, w₁, hq, .pass (x := .inLoop c) rfl (fun _ _ => .inl (by simp)) harr⟩
 obtain ⟨e, a', w', hq, harr⟩ := key _ s₀ a w rfl (ha.sub hs) hI
 exact ⟨e, a', w', hq, .of_steps (.one (fenced_calm hb hr rfl) stepR_loop) harr⟩
end
/-! ### A region in the text's order -/
def CallsY (P : Program) (fv : Value) (args : Array Value) (w : World) (R : Ending → World → Prop) : Prop :=
 X.CallsV P fv args w R ∨ ∃ l, fv = .func (.yield l) #[] #[] ∧ YieldAt Fence.wide 0 P l args w R
theorem CallsY.mono {P : Program} {fv : Value} {args : Array Value} {w : World} {R R' : Ending → World → Prop} (h : CallsY P fv args w R) (k : ∀ e w', R e w' → R' e w') : CallsY P fv args w R' := by
 rcases h with ⟨f, cap, fn, h1, h2, h3, h4, h5⟩ | ⟨l, h1, fn, tmps, as', bd, h2, h3⟩
 ·exact .inl ⟨f, cap, fn, h1, h2, h3, h4, h5.mono k⟩
 ·exact .inr ⟨l, h1, fn, tmps, as', bd, h2, h3.mono k⟩
section
variable {ro : Option Nat} {P : Program} {N : Nat} {D : List Deferred} {ops : Array Oper} {Q : Exit → Act → World → Prop} {E : Env} {w w' : World} {L : Nat → Env → World → Prop} {i : Nat} {o : Oper} {v : Value}
def LW (ro : Option Nat) (P : Program) (N : Nat) (D : List Deferred) (ops : Array Oper) (Q : Exit → Act → World → Prop) (i : Nat) (E : Env) (w : World) : Prop :=
 ∀ a, Sat N D E a → wpListIn (FR ro) 0 P ops Q (ops.toList.drop i) a w
theorem CW.region {id : Nat} (h : ∀ L, L = LW ro P N D ops Q → L 0 E w) : CW ro P N D (.region id ops false) Q E w :=
 fun a ha => wpIn_region_list (by have := h _ rfl a ha; simpa using this)
theorem LW.step (hL : L = LW ro P N D ops Q) (ho : ops[i]? = some o) (hw : Wants N ops E o)
  (h : ∀ a, Sat N D E a → o.wpIn (FR ro) 0 P a w (wpListIn (FR ro) 0 P ops Q (ops.toList.drop (i + 1))) Q) : L i E w := by
 subst hL
 intro a ha
 rw [drop_at ho]
 unfold wpListIn
 rw [if_pos (hw _ _ ha)]
 exact h a ha
theorem LW.val (hL : L = LW ro P N D ops Q) (ho : ops[i]? = some o) (hw : Wants N ops E o) (hd : okd N o.dst = true)
  (hv : ∀ a, Sat N D E a → (execOp a.eval o).run P w = .ok (.value v) w') (k : L (i + 1) (putE o.dst v E) w') (hn : isDefer o = false := by rfl) : L i E w :=
 LW.step hL ho hw fun a ha => by
  refine ⟨fun _ _ => trivial, ?_⟩
  rw [semAt_of hn, hv a ha, Oper.uponIn_value]
  rw [hL] at k; exact k _ (ha.put hd)
theorem LW.rd (hL : L = LW ro P N D ops Q) (ho : ops[i]? = some o) (hw : Wants N ops E o) (hd : okd N o.dst = true)
  (hv : Rd P N D E o v (fun w' => w' = w)) (k : L (i + 1) (putE o.dst v E) w) (hn : isDefer o = false := by rfl) : L i E w := LW.val hL ho hw hd (fun a ha => hv a ha w rfl) k hn
theorem LW.eff (hL : L = LW ro P N D ops Q) (ho : ops[i]? = some o) (hw : Wants N ops E o) (hd : okd N o.dst = true)
  (hv : ∀ a, Sat N D E a → (execOp a.eval o).run P w = .ok .skip w') (k : L (i + 1) (putE o.dst undef E) w') (hn : isDefer o = false := by rfl) : L i E w :=
 LW.step hL ho hw fun a ha => by
  refine ⟨fun _ _ => trivial, ?_⟩
  rw [semAt_of hn, hv a ha, Oper.uponIn_skip]
  rw [hL] at k; exact k _ (ha.put hd)
theorem LW.call {f : Nat} {args : Array Value} {R : Ending → World → Prop} (hL : L = LW ro P N D ops Q) (ho : ops[i]? = some o) (hw : Wants N ops E o) (hd : okd N o.dst = true)
  (hv : ∀ a, Sat N D E a → (execOp a.eval o).run P w = .ok (.enter f args) w') (hc : Calls P f args w' R)
  (k : ∀ e w'', R e w'' → ∃ v, e = .returned v ∧ L (i + 1) (putE o.dst v E) w'') (hn : isDefer o = false := by rfl) : L i E w :=
 LW.step hL ho hw fun a ha => by
  refine ⟨fun _ _ => trivial, ?_⟩
  rw [semAt_of hn, hv a ha, Oper.uponIn_enter]
  refine ⟨fun h => (by cases h), FR.callsIn (hc.mono fun e w'' hR => ?_)⟩
  obtain ⟨v, rfl, hk⟩ := k e w'' hR
  rw [hL] at hk; exact hk _ (ha.put hd)
theorem LW.skip (hL : L = LW ro P N D ops Q) (ho : ops[i]? = some o) (hs : Skips N ops E o) (hd : okd N o.dst = true) (k : L (i + 1) (putE o.dst undef E) w) : L i E w := by
 subst hL
 intro a ha
 rw [drop_at ho]
 unfold wpListIn
 rw [if_neg (by rw [hs _ _ ha]; simp)]
 exact ⟨fun _ _ => trivial, k _ (ha.put hd)⟩
theorem LW.nil (hL : L = LW ro P N D ops Q) (hi : ops[i]? = none) (k : NW N D Q E w) : L i E w := by
 subst hL
 intro a ha
 have : ops.toList.drop i = [] := List.drop_eq_nil_of_le (by simpa using hi)
 rw [this]; exact k a ha
theorem LW.sub (hL : L = LW ro P N D ops Q) {F : Env} (s : Sub E F) (k : L i E w) : L i F w := by
 subst hL; exact fun a ha => k a (ha.sub s)
theorem LW.callY {x : Operand} {args : Array Operand} {ts : Array TypeId} {d : Option Nat} {T : TypeId} {p : String} {af : Array Edge} {gd : Option (Nat × Bool)} {fv : Value} {vs : List Value} {R : Ending → World → Prop}
  (hL : L = LW none P N D ops Q) (ho : ops[i]? = some ⟨d, .call ⟨.value x, args, ts⟩, T, p, af, gd⟩) (hw : Wants N ops E ⟨d, .call ⟨.value x, args, ts⟩, T, p, af, gd⟩) (hd : okd N d = true)
  (hx : opd E x = some fv) (ha' : opdL E args.toList = some vs) (hc : CallsY P fv vs.toArray w R)
  (k : ∀ e w'', R e w'' → ∃ v, e = .returned v ∧ L (i + 1) (putE d v E) w'') : L i E w := by
 rcases hc with ⟨f, cap, fn, rfl, h2, h3, h4, h5⟩ | ⟨l, rfl, fn, tmps, as', bd, h2, h3⟩
 ·exact LW.call hL ho hw hd (Cl.fv hx ha' h2 h3 h4) h5 k
 ·refine LW.step hL ho hw fun a ha => ⟨fun _ _ => trivial, ?_⟩
  have e1 : (execOp a.eval ⟨d, .call ⟨.value x, args, ts⟩, T, p, af, gd⟩).run P w = .ok (.round l fn tmps as' bd) w := by
   have e2 : args.map a.eval = vs.toArray := opdL_map ha ha'
   simp [execOp, resolve, ha.eval hx, Deferred.ofValue, invoke, e2, h2]
  rw [semAt_of rfl, e1, Oper.uponIn_round]
  refine ⟨fun h => (by cases h), h3.mono fun e w'' hR => ?_⟩
  obtain ⟨v, rfl, hk⟩ := k e w'' hR
  rw [hL] at hk; exact hk _ (ha.put hd)
end
/-! ### Iterators, and the statement -/
def InO (w0 : World) (O : List Nat) (W : World) : Prop := ∀ i ∈ O, w0.heap.size ≤ i ∧ i < W.heap.size
def Stab (w0 : World) (I : List Nat → World → Prop) : Prop := ∀ O O' W W', I O W → InO w0 O W → Chg O W W' → InO w0 O' W' → (∀ i ∈ O', i ∈ O ∨ W.heap.size ≤ i) → I O' W'
def Iterates {α : Type} (P : Program) (fv : Value) (enc : α → Array Value) (S Sp : List α → Prop) (keep : List Nat) (w : World) : Prop :=
 ∀ (W : World) (yv : Value) (I Ix : List Nat → List α → World → Prop), Chg [] w W → (∀ pre, Stab W (fun O => I O pre)) → (∀ pre, Stab W (fun O => Ix O pre)) → I [] [] W →
  (∀ Own pre x W1, InO W Own W1 → Sp (pre ++ [x]) → I Own pre W1 → CallsY P yv (enc x) W1 fun e W' => W1.heap.size ≤ W'.heap.size ∧
   ((e = .returned (.bool true) ∧ I Own (pre ++ [x]) W' ∧ Same W1 W' (keep ++ Own)) ∨ (e = .returned (.bool false) ∧ Ix Own (pre ++ [x]) W'))) →
  X.CallsV P fv #[yv] W fun e W' => (∃ v, e = .returned v) ∧ ∃ Own, InO W Own W' ∧ ((∃ xs, S xs ∧ I Own xs W') ∨ ∃ pre, Sp pre ∧ Ix Own pre W')
def envPs : List Tmp → List Value → Env → Env
 | p :: ps, v :: vs, E => envPs ps vs ((p, v) :: E)
 | _, _, E => E
theorem sat_ps {N : Nat} : ∀ (ps : List Tmp) (vs : List Value) (E : Env) (tmps : Array Value), (∀ p ∈ ps, Nat.blt p N = true) → Sat N [] E { tmps := tmps, defers := [] } →
  Sat N [] (envPs ps vs E) { tmps := (ps.zip vs).foldl (fun t (p, v) => t.setIfInBounds p v) tmps, defers := [] }
 | [], _, E, tmps, _, h => by simpa [envPs] using h
 | p :: ps, [], E, tmps, _, h => by simpa [envPs] using h
 | p :: ps, v :: vs, E, tmps, hp, h => by
  have h1 : Sat N [] ((p, v) :: E) { tmps := tmps.setIfInBounds p v, defers := [] } := by
   have := h.put (d := some p) (v := v) (by simpa [okd] using hp p (.head _))
   simpa [putE, Act.put] using this
  simpa [envPs] using sat_ps ps vs ((p, v) :: E) _ (fun q hq => hp q (.tail _ hq)) h1
theorem Chg.putObj {w : World} {l : Nat} (o : Obj) : Chg [l] w (w.putObj l o) := Chg.put
section
variable {P : Program} {N : Nat} {D : List Deferred} {Q : Exit → Act → World → Prop} {E : Env} {w : World} {α : Type}
def EndQ (keep O : List Nat) (I : List Nat → List α → World → Prop) (Ix : Code → List Nat → List α → World → Prop) (pre : List α) (W₂ : World) : Exit → Act → World → Prop
 | .normal, _, W' => W₂.heap.size ≤ W'.heap.size ∧ I O pre W' ∧ Same W₂ W' (keep ++ O)
 | .ret, _, W' => W₂.heap.size ≤ W'.heap.size ∧ Ix .ret O pre W' ∧ Same W₂ W' (keep ++ O)
 | .exit id, _, W' => W₂.heap.size ≤ W'.heap.size ∧ Ix (.exit id) O pre W' ∧ Same W₂ W' (keep ++ O)
 | .goto t, _, W' => W₂.heap.size ≤ W'.heap.size ∧ Ix (.goto t) O pre W' ∧ Same W₂ W' (keep ++ O)
 | .panic _, _, _ => False
 | .outgrown, _, _ => False
def BeginK (P : Program) (l : Nat) (keep O : List Nat) (I : List Nat → List α → World → Prop) (Ix : Code → List Nat → List α → World → Prop) (pre : List α) (x : α) (body : Code) (W : World) (a₁ : Act) (W₁ : World) : Prop :=
 Chg [] W W₁ ∧ ∀ W₂, Chg [l] W₁ W₂ → InO W O W₂ ∨ True → (∃ r, W₁.heap[l]? = some (.loop r)) → I O pre W₂ → body.wpIn (FR (some l)) 0 P (EndQ keep O I Ix (pre ++ [x]) W₂) a₁ W₂
def mk (d : Nat) : Deferred := { target := .collected d, args := #[] }
theorem CW.rangeFunc {g : Operand} {ps : Array Tmp} {assign body : Code} {gf : Nat} {fn : Func} {lb : Array Value} (hg : opd E g = some (.func (.func gf) #[] lb)) (hgf : P.funcs[gf]? = some fn) (hgn : (fn.name == "runtime.NumGoroutine") = false) (hgb : fn.body.isNone = false)
  {enc : α → Array Value} (hps : ∀ x, (enc x).size = ps.size) (hpN : ∀ p ∈ ps.toList, Nat.blt p N = true) {S Sp : List α → Prop} {keep : List Nat} (hseq : Iterates P (.func (.func gf) #[] lb) enc S Sp keep w)
  (I : List Nat → List α → World → Prop) (Ix : Code → List Nat → List α → World → Prop) (hI : ∀ pre, Stab w (fun O => I O pre)) (hIx : ∀ c pre, Stab w (fun O => Ix c O pre))
  (h0 : ∀ O W, Chg [] w W → InO w O W → I O [] W) (hkeep : ∀ i ∈ keep, i < w.heap.size)
  (hround : ∀ (l : Nat) (O : List Nat) (pre : List α) (x : α) (W : World), InO w O W → l ∈ O → Sp (pre ++ [x]) → I O pre W →
   CW (some l) P N [] assign (Exit.then (BeginK P l keep O I Ix pre x body W) (fun _ _ _ => False)) (envPs ps.toList (enc x).toList E) W)
  (hdone : ∀ (d : Nat) (O : List Nat) (xs : List α) (W : World), InO w O W → d ∈ O → W.heap[d]? = some (.deferred (some [])) → S xs → I O xs W → NW N (mk d :: D) Q E W)
  (hstop : ∀ (d : Nat) (c : Code) (O : List Nat) (pre : List α) (W : World), InO w O W → d ∈ O → W.heap[d]? = some (.deferred (some [])) → Sp pre → Ix c O pre W → CW none P N (mk d :: D) c Q E W) :
  CW none P N D (.rangeFunc g ps assign body) Q E w := by
 intro a ha
 refine wpIn_rangeFunc ?_
 intro fnc hfn
 have hro : (FR none).round = none := rfl
 rw [hro]
 obtain ⟨rec, hrec⟩ : ∃ rec : LoopState → Option Code → Loop, rec = fun st pe => { state := st, pending := pe, fn := fnc, tmps := a.tmps, params := ps, assign, body, defers := w.heap.size } := ⟨_, rfl⟩
 obtain ⟨W1, hW1⟩ : ∃ W1, (w.alloc (.deferred (some []))).alloc (.loop (rec .ready none)) = W1 := ⟨_, rfl⟩
 have hL1 : W1.heap[w.heap.size + 1]? = some (.loop (rec .ready none)) := by
  rw [← hW1]; have := World.alloc_heap_new (w.alloc (.deferred (some []))) (.loop (rec .ready none)); rwa [World.size_alloc] at this
 have hK1 : W1.heap[w.heap.size]? = some (.deferred (some [])) := by
  rw [← hW1]; exact (Below.heap_alloc _ _ _ (by simp)).trans (World.alloc_heap_new w _)
 have c1 : Chg [] w W1 := by rw [← hW1]; exact (Chg.alloc _ _).trans0 (Chg.alloc _ _)
 have hs1 : W1.heap.size = w.heap.size + 2 := by rw [← hW1]; simp
 generalize hl : w.heap.size + 1 = l at hL1
 have hsat0 : Sat N [] E { tmps := a.tmps, defers := [] } := ⟨ha.size, rfl, ha.get⟩
 refine ⟨l, [mk w.heap.size], W1, { target := .fn (.func gf) lb, args := #[.func (.yield l) #[] #[]] }, W1, gf, #[.func (.yield l) #[] #[]] ++ lb, W1, ?_, ?_, ?_, ?_, fun h => (by cases h), ?_⟩
 ·rw [← hW1, hrec, ← hl]; exact run_enterLoop_outer _ _ _ _ _
 ·simp only [resolve, ha.eval hg]
  simp [go_sem]
 ·intro f' hf'; trivial
 ·simp [invoke, go_sem, run_call hgf hgn hgb]
 refine FR.callsIn ?_
 have hOK : ∀ (A B : World) (Own Own' : List Nat), InO W1 Own A → InO W1 Own' B → (∀ i ∈ Own', i ∈ Own ∨ A.heap.size ≤ i) → Chg Own A B → W1.heap.size ≤ A.heap.size →
   InO w (Own ++ [l, w.heap.size]) A ∧ InO w (Own' ++ [l, w.heap.size]) B ∧ (∀ i ∈ Own' ++ [l, w.heap.size], i ∈ Own ++ [l, w.heap.size] ∨ A.heap.size ≤ i) ∧ Chg (Own ++ [l, w.heap.size]) A B ∧ l ∉ Own ∧ w.heap.size ∉ Own := by
  intro A B Own Own' h1 h2 h3 h4 h5
  have h6 := h4.size
  refine ⟨fun i hi => ?_, fun i hi => ?_, fun i hi => ?_, h4.mono (fun i hi _ => List.mem_append_left _ hi), fun hm => ?_, fun hm => ?_⟩
  ·rcases List.mem_append.1 hi with hi | hi
   ·have := h1 i hi; omega
   ·simp at hi; omega
  ·rcases List.mem_append.1 hi with hi | hi
   ·have := h2 i hi; omega
   ·simp at hi; omega
  ·rcases List.mem_append.1 hi with hi | hi
   ·exact (h3 i hi).imp (List.mem_append_left _) id
   ·exact .inl (List.mem_append_right _ hi)
  ·have := h1 _ hm; omega
  ·have := h1 _ hm; omega
 have hit := hseq W1 (.func (.yield l) #[] #[])
  (fun Own pre W => I (Own ++ [l, w.heap.size]) pre W ∧ W1.heap.size ≤ W.heap.size ∧ W.heap[l]? = some (.loop (rec .ready none)) ∧ W.heap[w.heap.size]? = some (.deferred (some [])))
  (fun Own pre W => ∃ c, Ix c (Own ++ [l, w.heap.size]) pre W ∧ W1.heap.size ≤ W.heap.size ∧ W.heap[l]? = some (.loop (rec .done (some c))) ∧ W.heap[w.heap.size]? = some (.deferred (some [])))
  c1
  (fun pre Own Own' A B h hO hc hO' hg => by
   obtain ⟨k1, k2, k3, k4, k5, k6⟩ := hOK A B Own Own' hO hO' hg hc h.2.1
   exact ⟨hI pre _ _ A B h.1 k1 k4 k2 k3, by have := hc.size; have := h.2.1; omega, hc.obj k5 h.2.2.1, hc.obj k6 h.2.2.2⟩)
  (fun pre Own Own' A B h hO hc hO' hg => by
   obtain ⟨c, h1, h2, h3, h4⟩ := h
   obtain ⟨k1, k2, k3, k4, k5, k6⟩ := hOK A B Own Own' hO hO' hg hc h2
   exact ⟨c, hIx c pre _ _ A B h1 k1 k4 k2 k3, by have := hc.size; omega, hc.obj k5 h3, hc.obj k6 h4⟩)
  ⟨h0 _ W1 c1 (fun i hi => by simp at hi; omega), Nat.le_refl _, hL1, hK1⟩ ?_
 ·obtain ⟨f', cap', fn', he, hf', hn', hb', hcalls⟩ := hit
  cases he
  refine hcalls.mono ?_
  rintro e W' ⟨⟨v, rfl⟩, Own, hOwn, hres⟩
  have hsz : ∀ {A : World} (o : Obj), (A.putObj l o).heap.size = A.heap.size := fun o => by simp [World.putObj]
  have hInO : ∀ {A : World}, W1.heap.size ≤ A.heap.size → InO W1 Own A → InO w (Own ++ [l, w.heap.size]) A := fun h1 h2 i hi => by
   rcases List.mem_append.1 hi with hi | hi
   ·have := h2 i hi; omega
   ·simp at hi; omega
  have hput : ∀ {A : World} (o : Obj) (J : List Nat → World → Prop), Stab w J → W1.heap.size ≤ A.heap.size → InO W1 Own A → J (Own ++ [l, w.heap.size]) A → J (Own ++ [l, w.heap.size]) (A.putObj l o) := fun o J hJ h1 h2 hj =>
   hJ _ _ _ _ hj (hInO h1 h2) ((Chg.putObj o).mono (fun i hi _ => by simp at hi; simp [hi])) (by
    have := hInO h1 h2
    intro i hi; rw [hsz]; exact this i hi) (fun i hi => .inl hi)
  rcases hres with ⟨xs, hS, hi, hle, hlp, hk⟩ | ⟨pre, hSp, c, hi, hle, hlp, hk⟩
  ·refine ⟨none, _, by have := run_endLoop (P := P) hlp (by rw [hrec]; simp); rw [hrec] at this; exact this, ?_⟩
   have hA : Sat N (mk w.heap.size :: D) E { a with defers := [mk w.heap.size] ++ a.defers } := ⟨ha.size, by simp [ha.defers], ha.get⟩
   exact hdone w.heap.size (Own ++ [l, w.heap.size]) xs _ (fun i hi' => by rw [hsz]; exact hInO hle hOwn i hi') (by simp) ((World.putObj_heap_other (by omega)).trans hk) hS (hput _ (fun O => I O xs) (hI xs) hle hOwn hi) _ hA
  ·refine ⟨some c, _, by have := run_endLoop (P := P) hlp (by rw [hrec]; simp); rw [hrec] at this; exact this, ?_⟩
   have hA : Sat N (mk w.heap.size :: D) E { a with defers := [mk w.heap.size] ++ a.defers } := ⟨ha.size, by simp [ha.defers], ha.get⟩
   exact hstop w.heap.size c (Own ++ [l, w.heap.size]) pre _ (fun i hi' => by rw [hsz]; exact hInO hle hOwn i hi') (by simp) ((World.putObj_heap_other (by omega)).trans hk) hSp (hput _ (fun O => Ix c O pre) (hIx c pre) hle hOwn hi) _ hA
 ·rintro Own pre x W hOwn hSp ⟨hI0, hle, hlp, hk⟩
  have hlt : l < W.heap.size := lt_of_heap hlp
  have hy := run_yield (P := P) (args := enc x) hlp (by rw [hrec]; exact hps x)
  rw [hrec] at hy
  have hInO : InO w (Own ++ [l, w.heap.size]) W := fun i hi => by
   rcases List.mem_append.1 hi with hi | hi
   ·have := hOwn i hi; omega
   ·simp at hi; omega
  have hrd := hround l (Own ++ [l, w.heap.size]) pre x W hInO (by simp) hSp hI0
  have hsat := sat_ps ps.toList (enc x).toList E a.tmps hpN hsat0
  have hr2 := hrd _ hsat
  have htm : (ps.zip (enc x)).foldl (fun t (p, v) => t.setIfInBounds p v) a.tmps = (ps.toList.zip (enc x).toList).foldl (fun t (p, v) => t.setIfInBounds p v) a.tmps := by
   rw [← Array.foldl_toList, Array.toList_zip]
  refine .inr ⟨l, rfl, fnc, _, assign, body, hy, ?_⟩
  rw [htm]
  refine roundIn_of_wpIn (F := Fence.wide) trivial ?_
  refine wpIn_mono hr2 ?_
  intro e a₁ W₁ hq
  cases e with
  | normal =>
   obtain ⟨hc1, hbody⟩ := hq
   have hl1 := hc1.obj (by simp) hlp
   have hk1 := hc1.obj (by simp) hk
   have hW2 := run_beginRound (P := P) hl1 (by rw [hrec])
   refine ⟨_, hW2, ?_⟩
   generalize hW2e : W₁.putObj l (.loop { rec .ready none with state := .busy }) = W₂ at hW2
   have c2 : Chg [l] W₁ W₂ := by rw [← hW2e]; exact Chg.putObj _
   have hl2 : W₂.heap[l]? = some (.loop { rec .ready none with state := .busy }) := by rw [← hW2e]; exact World.putObj_heap_same (lt_of_heap hl1)
   have hk2 : W₂.heap[w.heap.size]? = some (.deferred (some [])) := by rw [← hW2e]; exact (World.putObj_heap_other (by omega)).trans hk1
   have hs12 := hc1.size
   have hs22 := c2.size
   have hInO2 : InO w (Own ++ [l, w.heap.size]) W₂ := fun i hi => by have := hInO i hi; omega
   have hI2 : I (Own ++ [l, w.heap.size]) pre W₂ := by
    have h1 := hI pre _ (Own ++ [l, w.heap.size]) W W₁ hI0 hInO (hc1.mono (by simp)) (fun i hi => by have := hInO i hi; omega) (fun i hi => .inl hi)
    exact hI pre _ (Own ++ [l, w.heap.size]) W₁ W₂ h1 (fun i hi => by have := hInO i hi; omega) (c2.mono (fun i hi _ => by simp at hi; simp [hi])) hInO2 (fun i hi => .inl hi)
   have hb := hbody W₂ c2 (.inr trivial) ⟨_, hl1⟩ hI2
   refine wpIn_mono hb ?_
   have hsz : ∀ {A : World} (o : Obj), (A.putObj l o).heap.size = A.heap.size := fun o => by simp [World.putObj]
   have hput : ∀ {A : World} (o : Obj) (J : List Nat → World → Prop), Stab w J → W₂.heap.size ≤ A.heap.size → J (Own ++ [l, w.heap.size]) A → J (Own ++ [l, w.heap.size]) (A.putObj l o) := fun {A} o J hJ hle hj => by
    have hin : InO w (Own ++ [l, w.heap.size]) A := fun i hi => by have := hInO2 i hi; omega
    exact hJ _ _ _ _ hj hin ((Chg.putObj o).mono (fun i hi _ => by simp at hi; simp [hi])) (fun i hi => by rw [hsz]; exact hin i hi) (fun i hi => .inl hi)
   have hsame : ∀ {A : World} (o : Obj), Same W₂ A (keep ++ (Own ++ [l, w.heap.size])) → Same W (A.putObj l o) (keep ++ Own) := fun {A} o hs i hi => by
    have hne : i ≠ l := fun e => by
     subst e
     rcases List.mem_append.1 hi with h | h
     ·have := hkeep _ h; omega
     ·have := hOwn _ h; omega
    have hiW : i < W.heap.size := by
     rcases List.mem_append.1 hi with h | h
     ·have := hkeep _ h; have := c1.size; omega
     ·exact (hOwn _ h).2
    rw [World.putObj_heap_other hne, hs i (by
     rcases List.mem_append.1 hi with h | h
     ·exact List.mem_append_left _ h
     ·exact List.mem_append_right _ (List.mem_append_left _ h)), c2.block i (by omega) (by simpa using hne), hc1.block i hiW (by simp)]
   have fin : ∀ (jump : Option Code) (A : World), Same W₂ A (keep ++ (Own ++ [l, w.heap.size])) →
     (Instr.endRound l jump).run P A = .ok (.bool jump.isNone) (A.putObj l (.loop (rec (if jump.isNone then .ready else .done) jump))) ∧ (A.putObj l (.loop (rec (if jump.isNone then .ready else .done) jump))).heap[l]? = some (.loop (rec (if jump.isNone then .ready else .done) jump)) ∧
     (A.putObj l (.loop (rec (if jump.isNone then .ready else .done) jump))).heap[w.heap.size]? = some (.deferred (some [])) := fun jump A hs => by
    have hlA : A.heap[l]? = some (.loop { rec .ready none with state := .busy }) := (hs l (by simp)).trans hl2
    have hkA : A.heap[w.heap.size]? = some (.deferred (some [])) := (hs w.heap.size (by simp)).trans hk2
    have := run_endRound (P := P) jump hlA
    rw [hrec] at this ⊢
    exact ⟨this, World.putObj_heap_same (lt_of_heap hlA), (World.putObj_heap_other (by omega)).trans hkA⟩
   intro e a₃ A hp
   cases e with
   | normal =>
    obtain ⟨hle3, hi3, hs3⟩ := hp
    obtain ⟨f1, f2, f3⟩ := fin none A hs3
    exact ⟨_, _, f1, by rw [hsz]; omega, .inl ⟨rfl, ⟨hput _ (fun O => I O (pre ++ [x])) (hI _) hle3 hi3, by rw [hsz]; omega, f2, f3⟩, hsame _ hs3⟩⟩
   | ret =>
    obtain ⟨hle3, hi3, hs3⟩ := hp
    obtain ⟨f1, f2, f3⟩ := fin (some .ret) A hs3
    exact ⟨_, _, f1, by rw [hsz]; omega, .inr ⟨rfl, .ret, hput _ (fun O => Ix .ret O (pre ++ [x])) (hIx _ _) hle3 hi3, by rw [hsz]; omega, f2, f3⟩⟩
   | exit id =>
    obtain ⟨hle3, hi3, hs3⟩ := hp
    obtain ⟨f1, f2, f3⟩ := fin (some (.exit id)) A hs3
    exact ⟨_, _, f1, by rw [hsz]; omega, .inr ⟨rfl, .exit id, hput _ (fun O => Ix (.exit id) O (pre ++ [x])) (hIx _ _) hle3 hi3, by rw [hsz]; omega, f2, f3⟩⟩
   | goto t =>
    obtain ⟨hle3, hi3, hs3⟩ := hp
    obtain ⟨f1, f2, f3⟩ := fin (some (.goto t)) A hs3
    exact ⟨_, _, f1, by rw [hsz]; omega, .inr ⟨rfl, .goto t, hput _ (fun O => Ix (.goto t) O (pre ++ [x])) (hIx _ _) hle3 hi3, by rw [hsz]; omega, f2, f3⟩⟩
   | panic ch => exact hp.elim
   | outgrown => exact hp.elim
  | exit id => exact hq.elim
  | goto t => exact hq.elim
  | ret => exact hq.elim
  | panic ch => exact hq.elim
  | outgrown => exact hq.elim
theorem NW.begin {l : Nat} {keep O : List Nat} {I : List Nat → List α → World → Prop} {Ix : Code → List Nat → List α → World → Prop} {pre : List α} {x : α} {body : Code} {W W₁ : World} {Q' : Exit → Act → World → Prop}
  (hc : Chg [] W W₁) (h : ∀ W₂, Chg [l] W₁ W₂ → (∃ r, W₁.heap[l]? = some (.loop r)) → I O pre W₂ → CW (some l) P N [] body (EndQ keep O I Ix (pre ++ [x]) W₂) E W₂) :
  NW N [] (Exit.then (BeginK P l keep O I Ix pre x body W) Q') E W₁ := fun a ha => ⟨hc, fun W₂ c _ hl hi => h W₂ c hl hi a ha⟩
def IsFn (P : Program) (fv : Value) : Prop := ∃ gf fn lb, fv = .func (.func gf) #[] lb ∧ P.funcs[gf]? = some fn ∧ (fn.name == "runtime.NumGoroutine") = false ∧ fn.body.isNone = false
theorem CW.rangeV {g : Operand} {ps : Array Tmp} {assign body : Code} {fv : Value} (hg : opd E g = some fv) (hf : IsFn P fv)
  {enc : α → Array Value} (hps : ∀ x, (enc x).size = ps.size) (hpN : ∀ p ∈ ps.toList, Nat.blt p N = true) {S Sp : List α → Prop} {keep : List Nat} (hseq : Iterates P fv enc S Sp keep w)
  (I : List Nat → List α → World → Prop) (Ix : Code → List Nat → List α → World → Prop) (hI : ∀ pre, Stab w (fun O => I O pre)) (hIx : ∀ c pre, Stab w (fun O => Ix c O pre))
  (h0 : ∀ O W, Chg [] w W → InO w O W → I O [] W) (hkeep : ∀ i ∈ keep, i < w.heap.size)
  (hround : ∀ (l : Nat) (O : List Nat) (pre : List α) (x : α) (W : World), InO w O W → l ∈ O → Sp (pre ++ [x]) → I O pre W →
   CW (some l) P N [] assign (Exit.then (BeginK P l keep O I Ix pre x body W) (fun _ _ _ => False)) (envPs ps.toList (enc x).toList E) W)
  (hdone : ∀ (d : Nat) (O : List Nat) (xs : List α) (W : World), InO w O W → d ∈ O → W.heap[d]? = some (.deferred (some [])) → S xs → I O xs W → NW N (mk d :: D) Q E W)
  (hstop : ∀ (d : Nat) (c : Code) (O : List Nat) (pre : List α) (W : World), InO w O W → d ∈ O → W.heap[d]? = some (.deferred (some [])) → Sp pre → Ix c O pre W → X.CW P N (mk d :: D) c Q E W) :
  X.CW P N D (.rangeFunc g ps assign body) Q E w := by
 obtain ⟨gf, fn, lb, rfl, h1, h2, h3⟩ := hf
 exact (CW.rangeFunc hg h1 h2 h3 hps hpN hseq I Ix hI hIx h0 hkeep hround hdone (fun d c O pre W a b e f g' => (hstop d c O pre W a b e f g').plain')).un
theorem _root_.Go.X.Boxes.stab {w A B : World} {l l0 : List (Nat × List Value × TypeId)} {O : List Nat} (h : Boxes A l) (h0 : Boxes w l0) (hn : l.map (·.1) = l0.map (·.1)) (hO : InO w O A) (hc : Chg O A B) : Boxes B l :=
 h.chg hc fun x hx hm => by
  have h1 := (hO _ hm).1
  have : x.1 ∈ l0.map (·.1) := hn ▸ List.mem_map.2 ⟨x, hx, rfl⟩
  obtain ⟨y, hy, e⟩ := List.mem_map.1 this
  have := lt_of_heap (h0.heap y hy)
  omega
theorem _root_.Go.X.Boxes.notloop {A B : World} {l : Nat} {bs : List (Nat × List Value × TypeId)} (h : Boxes A bs) (hl : ∃ r, A.heap[l]? = some (.loop r)) (hc : Chg [l] A B) : Boxes B bs :=
 h.chg hc fun x hx hm => by
  simp at hm
  obtain ⟨r, hr⟩ := hl
  have := h.heap x hx
  rw [hm, hr] at this; cases this
theorem _root_.Go.X.Boxes.sameS {w w1 : World} {l : List (Nat × List Value × TypeId)} {ns : List Nat} (h : Boxes w l) (hs : Same w w1 ns) (hl : ∀ x ∈ l, x.1 ∈ ns) : Boxes w1 l := ⟨fun x hx => (hs _ (hl x hx)).trans (h.heap x hx), h.nodup⟩
/-! ### A function with such a statement -/
def Marks (w : World) (ms : List Nat) : Prop := ms.Nodup ∧ ∀ m ∈ ms, w.heap[m]? = some (.deferred (some []))
theorem enterM {f : Nat} {fn : Func} {c : Code} {args : Array Value} {R : Ending → World → Prop} (hf : P.funcs[f]? = some fn) (hb : fn.body = some c) (hN : fn.ntmps = N)
  (h : X.CW P N [] c (bodyPostM Fence.wide 0 P fn R) (envOf 0 args.toList) w) : Calls P f args w R := by
 refine callsIn_wide.1 (callsIn_of_wp_marks (n := 0) hf hb trivial (wpIn_wide.2 (h _ ⟨?_, rfl, fun t v hg => ?_⟩)))
 ·rw [← hN]; simp; omega
 ·obtain ⟨_, h2⟩ := envOf_get _ _ _ _ hg
  have h3 : args[t]? = some v := by simpa using h2
  obtain ⟨hlt, h4⟩ := Array.getElem?_eq_some_iff.1 h3
  show (args ++ _).getD t undef = v
  simp [Array.getElem?_append_left hlt, h3]
theorem leavesM {fn : Func} {tmps : Array Value} {R : Ending → World → Prop} : ∀ (ms : List Nat) (w : World), Marks w ms → (∀ w', Chg ms w w' → ∃ v, (results fn tmps).run P w' = .ok v w' ∧ R (.returned v) w') →
  LeavesInM Fence.wide 0 P fn tmps R (ms.map mk) .returning w
 | [], w, _, h => by
  obtain ⟨v, h1, h2⟩ := h w (Chg.refl _ _)
  exact ⟨v, h1, h2⟩
 | m :: ms, w, hm, h => by
  obtain ⟨hnd, hall⟩ := hm
  have h1 := hall m (.head _)
  refine ⟨by simp, .inl ⟨m, _, rfl, run_takeDeferred h1, leavesM ms _ ⟨(List.nodup_cons.1 hnd).2, fun k hk => ?_⟩ fun w' hc => h w' ?_⟩⟩
  ·have hne : k ≠ m := fun e => (List.nodup_cons.1 hnd).1 (e ▸ hk)
   exact (World.putObj_heap_other hne).trans (hall k (.tail _ hk))
  ·exact ((Chg.putObj _).mono (fun i hi _ => by simp at hi; simp [hi])).trans hc (fun i hi _ => List.mem_cons_of_mem _ hi)
theorem resM {fn : Func} {R : Ending → World → Prop} {ms : List Nat} {vs : List Value} {x : Value} (hm : Marks w ms) (hx : x = match vs with | [v] => v | _ => .tuple vs.toArray) (h : ∀ w', Chg ms w w' → ResOK P E w' fn.results.toList vs ∧ R (.returned x) w')
  (a : Act) (ha : Sat N (ms.map mk) E a) : bodyPostM Fence.wide 0 P fn R .ret a w := by
 show LeavesInM Fence.wide 0 P fn a.tmps R a.defers .returning w
 rw [ha.defers]
 refine leavesM ms w hm fun w' hc => ?_
 obtain ⟨h1, hR⟩ := h w' hc
 refine ⟨x, ?_, hR⟩
 have h2 := ResOK.run ha _ _ h1
 change (do let vs ← fn.results.mapM (resF a); pure (if h : vs.size = 1 then vs[0] else .tuple vs) : Sem Value).run P w' = .ok x w'
 rw [Array.mapM_eq_mapM_toList]
 simp only [Sem.run_bind, Sem.run_map, h2, Result.andThen_ok, Sem.run_pure]
 subst hx
 match vs with
 | [] => simp
 | [v] => simp
 | v :: u :: r => simp
theorem res0M {fn : Func} {R : Ending → World → Prop} {vs : List Value} {x : Value} (h : ResOK P E w fn.results.toList vs) (hx : x = match vs with | [v] => v | _ => .tuple vs.toArray) (hR : R (.returned x) w)
  (a : Act) (ha : Sat N [] E a) : bodyPostM Fence.wide 0 P fn R .ret a w := by
 have h0 : bodyPost P fn R .ret a w := resN h hx hR a ha
 obtain ⟨hd, v, h1, h2⟩ := h0
 show LeavesInM Fence.wide 0 P fn a.tmps R a.defers .returning w
 rw [hd]
 exact ⟨v, h1, h2⟩
theorem Marks.stab {w A B : World} {ms O : List Nat} (h : Marks A ms) (h0 : Marks w ms) (hO : InO w O A) (hc : Chg O A B) : Marks B ms :=
 ⟨h.1, fun m hm => hc.obj (fun hm' => by have := (hO _ hm').1; have := lt_of_heap (h0.2 m hm); omega) (h.2 m hm)⟩
theorem Marks.notloop {A B : World} {l : Nat} {ms : List Nat} (h : Marks A ms) (hl : ∃ r, A.heap[l]? = some (.loop r)) (hc : Chg [l] A B) : Marks B ms :=
 ⟨h.1, fun m hm => hc.obj (fun hm' => by
  simp at hm'
  obtain ⟨r, hr⟩ := hl
  have := h.2 m hm
  rw [hm', hr] at this; cases this) (h.2 m hm)⟩
theorem _root_.Go.X.Boxes.marks {w w' : World} {ms : List Nat} {l : List (Nat × List Value × TypeId)} (h : Boxes w l) (hK : Marks w ms) (hc : Chg ms w w') : Boxes w' l :=
 h.chg hc fun x hx hm => by
  have h1 := hK.2 _ hm
  rw [h.heap x hx] at h1; cases h1
theorem Marks.nil (w : World) : Marks w [] := ⟨by simp, by simp⟩
theorem Marks.chg {f ms : List Nat} {w w' : World} (h : Marks w ms) (hc : Chg f w w') (hf : ∀ m ∈ ms, m ∉ f) : Marks w' ms := ⟨h.1, fun m hm => hc.obj (hf m hm) (h.2 m hm)⟩
theorem Marks.same {ms l : List Nat} {w w' : World} (h : Marks w ms) (hs : Same w w' l) (hl : ∀ m ∈ ms, m ∈ l) : Marks w' ms := ⟨h.1, fun m hm => (hs m (hl m hm)).trans (h.2 m hm)⟩
theorem Marks.grow {ms : List Nat} {w w' : World} {o : Obj} (h : Marks w ms) (hw : w' = World.alloc w o) : Marks w' ms := h.chg (f := []) (by subst hw; exact Chg.alloc _ _) (by simp)
theorem Marks.drew {ms : List Nat} {w w' : World} (h : Marks w ms) (hw : w' = World.drew w) : Marks w' ms := h.chg (f := []) (by subst hw; exact Chg.drew _) (by simp)
theorem Marks.set {ms : List Nat} {w w' : World} {b : Nat} {cs : Array Value} {T : TypeId} {fr : Nat × Nat} (h : Marks w ms) (hb : w.heap[b]? = some (.cells cs T fr)) (hc : Chg [b] w w') : Marks w' ms := h.chg hc fun m hm hm' => by
 simp at hm'; subst hm'
 have := h.2 _ hm
 rw [hb] at this; cases this
theorem Marks.cons {ms : List Nat} {w : World} {d : Nat} (h : Marks w ms) (hd : w.heap[d]? = some (.deferred (some []))) (hn : d ∉ ms) : Marks w (d :: ms) := ⟨List.nodup_cons.2 ⟨hn, h.1⟩, fun m hm => by
 rcases List.mem_cons.1 hm with rfl | hm
 ·exact hd
 ·exact h.2 m hm⟩
end
end Go.XR
/-! ### Ways that meet, and loops, where ranges over functions were begun: the frame's deferred ones are of the state -/
namespace Go.X
open Go
section
variable {P : Program} {N : Nat} {D : List Deferred} {Q : Exit → Act → World → Prop} {E : Env} {w : World}
end
end Go.X
end
section
namespace Go.Proofs.YtfcfkhbkkfpehaaGreatDoor
open Go Go.X
def z155_XG3 : List Value := List.replicate 1 (Value.int .i64 0) ++ List.replicate 64 (Value.int .u32 0)
end Go.Proofs.YtfcfkhbkkfpehaaGreatDoor
end
section
/- Iterators over maps: maps.All, maps.Keys over the pages of a shadow. -/
namespace Go.Proofs.YtfcfkhbkkfpehaaGreatDoor
open Go Go.RowKit Go.X Go.XR
theorem _root_.Go.X.IterAt.eq {K V : Type} [DecidableEq K] {ke : K → Value} {ve : V → Value} {w w' : World} {it m : Nat} {l done : List (K × V)} (h : IterAt w it m ke ve l done) (h1 : w'.heap[it]? = w.heap[it]?) (h2 : w'.heap[m]? = w.heap[m]?) : IterAt w' it m ke ve l done := by
 obtain ⟨es, clk, since, c0, seen, ds, a, b, b', c, rest⟩ := h
 exact ⟨es, clk, since, c0, seen, ds, h1.trans a, b, b', h2.trans c, rest⟩
theorem _root_.Go.X.IterAt.lt {K V : Type} [DecidableEq K] {ke : K → Value} {ve : V → Value} {w : World} {it m : Nat} {l done : List (K × V)} (h : IterAt w it m ke ve l done) : it < w.heap.size := by
 obtain ⟨es, clk, since, c0, seen, ds, a, _⟩ := h
 exact lt_of_heap a
def allS {K V α : Type} (f : K × V → α) (l : List (K × V)) (xs : List α) : Prop := ∃ done : List (K × V), xs = done.map f ∧ (done.map Prod.fst).Nodup ∧ (∀ x ∈ done, x ∈ l) ∧ ∀ x ∈ l, x ∈ done
def allSp {K V α : Type} (f : K × V → α) (l : List (K × V)) (xs : List α) : Prop := ∃ done : List (K × V), xs = done.map f ∧ (done.map Prod.fst).Nodup ∧ ∀ x ∈ done, x ∈ l
end Go.Proofs.YtfcfkhbkkfpehaaGreatDoor
end
section
namespace Go.Proofs.YtfcfkhbkkfpehaaGreatDoor
open Go Go.X
/- slices.AppendSeq[[]pomander/api.Place,pomander/api.Place] -/
def W_slices_AppendSeq_194 (s1 : Option Addr) (s1n : Nat) (s1c : Nat) (seq1 : Value) (w : World) (R : (Option Addr) → Nat → Nat → World → Prop) : Prop :=
 ∀ (b1 : Nat) (w1 : World), (w.heap.size ≤ b1 ∧ b1 < w1.heap.size) → Chg [] w w1 → (∃ (S1 Sp1 : List (Int × Int) → Prop) (keep1 : List Nat), XR.IsFn Tryz.prog seq1 ∧ XR.Iterates Tryz.prog seq1 (fun x : Int × Int => #[.agg #[.int .i64 x.1, .int .i64 x.2]]) S1 Sp1 keep1 w1 ∧ (∀ i_ ∈ keep1, i_ < w1.heap.size) ∧ ∃ (I1 : (Option Addr) → Nat → Nat → List Nat → List (Int × Int) → World → Prop), (∀ (c1 : Option Addr) (c1n : Nat) (c1c : Nat) (pre_ : List (Int × Int)), XR.Stab w1 (fun O_ w_ => I1 c1 c1n c1c O_ pre_ w_)) ∧ (∀ (O1 : List Nat) (w2 : World), Chg [] w1 w2 → XR.InO w1 O1 w2 → I1 s1 s1n s1c O1 ([]) w2) ∧ (∀ (l1 : Nat) (O1 : List Nat) (pre1 : List (Int × Int)) (x1 : Int) (x2 : Int) (c1 : Option Addr) (c1n : Nat) (c1c : Nat) (w2 : World), XR.InO w1 O1 w2 → l1 ∈ O1 → Sp1 (pre1 ++ [(x1, x2)]) → I1 c1 c1n c1c O1 pre1 w2 → (∀ (b2 : Nat) (w5 : World), (w2.heap.size ≤ b2 ∧ b2 < w5.heap.size) → Chg [l1] w2 w5 → (∀ b3 : Nat, b3 = World.size w5 → ∀ w6 : World, w6 = World.alloc w5 (.cells #[.int .i64 x1, .int .i64 x2] 25) → (∃ (l2 : Option Addr) (l2n : Nat) (l2c : Nat) (w7 : World), (Builtin.append_ #[34, 34] 34 #[.slice c1 c1n c1c, .slice (some (⟨b3, 0, none⟩ : Addr)) 1 1]).run Tryz.prog w6 = .ok (.slice l2 l2n l2c) w7 ∧ (Same w6 w7 [b1] ∧ (∀ (w8 : World), Chg [b1] w7 w8 → ((w5.heap.size ≤ w8.heap.size ∧ I1 l2 l2n l2c O1 (pre1 ++ [(x1, x2)]) w8 ∧ Same w5 w8 (keep1 ++ O1))))))))) ∧ (∀ (d1 : Nat) (O2 : List Nat) (xs1 : List (Int × Int)) (c1 : Option Addr) (c1n : Nat) (c1c : Nat) (w9 : World), XR.InO w1 O2 w9 → d1 ∈ O2 → S1 xs1 → I1 c1 c1n c1c O2 xs1 w9 → (∀ w10 : World, Chg [d1] w9 w10 → (R c1 c1n c1c w10))))
set_option maxRecDepth 100000 in
theorem go_slices_AppendSeq_194 (s1 : Option Addr) (s1n : Nat) (s1c : Nat) (seq1 : Value) (w : World) (R : (Option Addr) → Nat → Nat → World → Prop) (h : W_slices_AppendSeq_194 s1 s1n s1c seq1 w R) : Calls Tryz.prog 75 #[.slice s1 s1n s1c, seq1] w (fun e w' => ∃ (r1 : Option Addr) (r1n : Nat) (r1c : Nat), e = .returned (.slice r1 r1n r1c) ∧ R r1 r1n r1c w') := by
 unfold W_slices_AppendSeq_194 at h
 refine XR.enterM (N := 13) Tryz.func75 rfl rfl ?_
 refine CW.seq ?_
 refine CW.region fun L hL => ?_
 obtain ⟨b1, hb_b1⟩ : ∃ b1, b1 = World.size w := ⟨_, rfl⟩
 obtain ⟨w1, hw_w1⟩ : ∃ w1, w1 = World.alloc w (.cells #[.slice s1 s1n s1c] 34) := ⟨_, rfl⟩
 refine LW.val hL rfl (Wants.free rfl) rfl (boxE hb_b1 hw_w1 (Vl.box (v := .slice s1 s1n s1c) rfl)) ?_
 have hB := Boxes.alloc (cs := [.slice s1 s1n s1c]) (T := 34) (Boxes.nil w) hb_b1 hw_w1
 have hlo_b1 := sil_lo (Chg.refl [] w) hb_b1
 have hc_w1 := sil_alloc (Chg.refl [] w) hw_w1
 refine LW.rd hL rfl (Wants.free rfl) rfl (Rd.assign (v := .slice none 0 0) rfl) ?_
 refine LW.nil hL rfl ?_
 refine NW.then ?_
 refine CW.seq ?_
 refine CW.seq ?_
 refine CW.region fun L hL => ?_
 refine LW.rd hL rfl (Wants.free rfl) rfl (Rd.move (v := seq1) rfl) ?_
 refine LW.nil hL rfl ?_
 refine NW.then ?_
 refine CW.block ?_
 replace h := h b1 w1 ⟨hlo_b1, lt_of_heap (hB.at (i := 0) rfl)⟩ hc_w1
 obtain ⟨S1, Sp1, keep1, hfn_, hit_, hkp_, I1, hst_I1, h0_, hrd_, hdn_⟩ := h
 refine XR.CW.rangeV (α := Int × Int) (enc := (fun x : Int × Int => #[.agg #[.int .i64 x.1, .int .i64 x.2]])) (S := S1) (Sp := Sp1) (keep := keep1) rfl hfn_ (fun _ => rfl) (by decide) hit_ (fun (O_ : List Nat) (pre_ : List (Int × Int)) (w_ : World) => ∃ (c1 : Option Addr) (c1n : Nat) (c1c : Nat), I1 c1 c1n c1c O_ pre_ w_ ∧ Boxes w_ [(b1, [.slice c1 c1n c1c], 34)]) (fun (c_ : Code) (O_ : List Nat) (pre_ : List (Int × Int)) (w_ : World) => False) ?_ ?_ ?_ hkp_ ?_ ?_ ?_
 ·intro pre_ O_ O2_ A_ B_ hi_ hO_ hc_ hO2_ hg_
  have hB0_ := hB
  obtain ⟨c1, c1n, c1c, hi_, hB⟩ := hi_
  exact ⟨c1, c1n, c1c, hst_I1 c1 c1n c1c pre_ O_ O2_ A_ B_ hi_ hO_ hc_ hO2_ hg_, hB.stab hB0_ rfl hO_ hc_⟩
 ·intro c_ pre_ O_ O2_ A_ B_ hi_ hO_ hc_ hO2_ hg_
  exact hi_.elim
 ·intro O_ A_ hc_ hO_
  exact ⟨s1, s1n, s1c, h0_ O_ A_ hc_ hO_, Boxes.chg hB hc_ (by simp)⟩
 ·intro l1 O1 pre1 x_ w2 hO_ hl_ hSp_ hi_
  obtain ⟨x1, x2⟩ := x_
  obtain ⟨c1, c1n, c1c, hi_, hB⟩ := hi_
  have h := hrd_ l1 O1 pre1 x1 x2 c1 c1n c1c w2 hO_ hl_ hSp_ hi_
  refine XR.CW.region fun L hL => ?_
  obtain ⟨b2, hb_b2⟩ : ∃ b2, b2 = World.size w2 := ⟨_, rfl⟩
  obtain ⟨w3, hw_w3⟩ : ∃ w3, w3 = World.alloc w2 (.cells #[.int .i64 0, .int .i64 0] 25) := ⟨_, rfl⟩
  refine XR.LW.val hL rfl (Wants.free rfl) rfl (boxE hb_b2 hw_w3 (Vl.alloc (z := .agg #[.int .i64 0, .int .i64 0]) (by kernel_rfl))) ?_
  replace hB := Boxes.alloc (cs := [.int .i64 0, .int .i64 0]) (T := 25) hB hb_b2 hw_w3
  have hlo_b2 := sil_lo (Chg.refl [] w2) hb_b2
  have hc_w3 := sil_alloc (Chg.refl [] w2) hw_w3
  obtain ⟨w4, hw_w4⟩ : ∃ x, x = setCells w3 (⟨b2, 0, none⟩ : Addr) 0 [.int .i64 x1, .int .i64 x2] := ⟨_, rfl⟩
  refine XR.LW.eff hL rfl (Wants.free rfl) rfl (stNE hw_w4 (Ef.stN (cs := [.int .i64 x1, .int .i64 x2]) rfl rfl (by kernel_rfl) (List.forall_mem_cons.2 ⟨rfl, (List.forall_mem_cons.2 ⟨rfl, (List.forall_mem_nil _)⟩)⟩) (has_of (hB.at (i := 0) rfl) (by simp)) (free_of' (hB.at (i := 0) rfl)))) ?_
  replace hB : Boxes w4 [(b2, [.int .i64 x1, .int .i64 x2], 25), (b1, [.slice c1 c1n c1c], 34)] := Boxes.store (vs := [.int .i64 x1, .int .i64 x2]) (i := 0) (o := 0) hB rfl rfl rfl rfl hw_w4
  have hc_w4 := sil_new hc_w3 (sil_cN hw_w4) hlo_b2
  refine XR.LW.nil hL rfl ?_
  refine XR.NW.begin hc_w4 (fun w5 hcb_w5 hlp_ hib_ => ?_)
  have hc_w5 : Chg [l1] w2 w5 := sil_more hc_w4 hcb_w5
  replace hB := hB.notloop hlp_ hcb_w5
  replace h := h b2 w5 ⟨hlo_b2, lt_of_heap (hB.at (i := 0) rfl)⟩ hc_w5
  refine XR.CW.block ?_
  refine XR.CW.region fun L hL => ?_
  refine XR.LW.rd hL rfl (Wants.free rfl) rfl (Rd.ld (v := .slice c1 c1n c1c) rfl (by kernel_rfl) (eqs (box_cell (hB.at (i := 1) rfl) rfl))) ?_
  refine XR.LW.rd hL rfl (Wants.free rfl) rfl (Rd.ldN (cs := [.int .i64 x1, .int .i64 x2]) rfl (by kernel_rfl) (by kernel_rfl) (cellsS (box_cells (hB.at (i := 0) rfl) rfl))) ?_
  obtain ⟨b3, hb_b3⟩ : ∃ b3, b3 = World.size w5 := ⟨_, rfl⟩
  obtain ⟨w6, hw_w6⟩ : ∃ w6, w6 = World.alloc w5 (.cells #[.int .i64 x1, .int .i64 x2] 25) := ⟨_, rfl⟩
  replace h := h b3 hb_b3 w6 hw_w6
  refine XR.LW.val hL rfl (Wants.free rfl) rfl (sliceE (n := 1) hb_b3 hw_w6 (fun w => Vl.buildSlice (vs := [(0, .agg #[.int .i64 x1, .int .i64 x2])]) rfl (by kernel_rfl))) ?_
  replace hB := hB.grow hw_w6
  obtain ⟨l2, l2n, l2c, w7, ha1, h⟩ := h
  refine XR.LW.val hL rfl (Wants.free rfl) rfl (Vl.builtin (v := .slice l2 l2n l2c) rfl (valB ha1)) ?_
  obtain ⟨hsm1, h⟩ := h
  replace hB := Boxes.sameS (hB.sel [1] (by decide) rfl) hsm1 (by simp)
  obtain ⟨w8, hw_w8⟩ : ∃ x, x = World.setCell w7 (⟨b1, 0, none⟩ : Addr) (.slice l2 l2n l2c) := ⟨_, rfl⟩
  refine XR.LW.eff hL rfl (Wants.free rfl) rfl (stE hw_w8 (Ef.st rfl rfl rfl (by kernel_rfl) (box_cell (v := .slice c1 c1n c1c) (hB.at (i := 0) rfl) rfl) (free_of (hB.at (i := 0) rfl) 0))) ?_
  replace hB : Boxes w8 [(b1, [.slice l2 l2n l2c], 34)] := Boxes.store1  (i := 0) (o := 0) hB rfl rfl rfl rfl hw_w8
  have hc_w8 : Chg [b1] w7 w8 := sil_more (Chg.refl [] w7) (sil_c1 hw_w8)
  refine XR.LW.nil hL rfl ?_
  refine NW.block ?_
  replace h := h  w8  hc_w8
  exact fun a_ ha_ => ⟨h.1, ⟨l2, l2n, l2c, h.2.1, hB⟩, h.2.2⟩
 ·intro d1 O2 xs1 w9 hO_ hd_ hdh_ hS_ hi_
  obtain ⟨c1, c1n, c1c, hi_, hB⟩ := hi_
  have h := hdn_ d1 O2 xs1 c1 c1n c1c w9 hO_ hd_ hS_ hi_
  have hK := XR.Marks.cons (XR.Marks.nil _) hdh_ (by simp)
  refine NW.block ?_
  refine NW.then ?_
  refine CW.seq ?_
  refine CW.region fun L hL => ?_
  refine LW.rd hL rfl (Wants.free rfl) rfl (Rd.ld (v := .slice c1 c1n c1c) rfl (by kernel_rfl) (eqs (box_cell (hB.at (i := 0) rfl) rfl))) ?_
  refine LW.rd hL rfl (Wants.free rfl) rfl (Rd.assign (v := .slice c1 c1n c1c) rfl) ?_
  refine LW.nil hL rfl ?_
  refine NW.then ?_
  refine CW.ret ?_
  exact XR.resM (ms := [d1]) (vs := [.slice c1 c1n c1c]) hK rfl (fun w_ hc_ => ⟨(ResOK.t rfl ResOK.nil), c1, c1n, c1c, rfl, h w_ hc_⟩)
 ·intro d2 c_ O3 xs2 w11 hO_ hd_ hdh_ hS_ hi_
  exact hi_.elim
/- slices.Collect[pomander/api.Place] -/
def W_slices_Collect_841 (seq1 : Value) (w : World) (R : (Option Addr) → Nat → Nat → World → Prop) : Prop :=
 Calls Tryz.prog 75 #[.slice none 0 0, seq1] w fun e w1 => ∃ (r2 : Option Addr) (r2n : Nat) (r2c : Nat), e = .returned (.slice r2 r2n r2c) ∧ (R r2 r2n r2c w1)
set_option maxRecDepth 100000 in
theorem go_slices_Collect_841 (seq1 : Value) (w : World) (R : (Option Addr) → Nat → Nat → World → Prop) (h : W_slices_Collect_841 seq1 w R) : Calls Tryz.prog 54 #[seq1] w (fun e w' => ∃ (r1 : Option Addr) (r1n : Nat) (r1c : Nat), e = .returned (.slice r1 r1n r1c) ∧ R r1 r1n r1c w') := by
 unfold W_slices_Collect_841 at h
 refine enter (N := 5) Tryz.func54 rfl rfl ?_
 refine CW.seq ?_
 refine CW.region fun L hL => ?_
 refine LW.rd hL rfl (Wants.free rfl) rfl (Rd.assign (v := .slice none 0 0) rfl) ?_
 refine LW.nil hL rfl ?_
 refine NW.then ?_
 refine CW.seq ?_
 refine CW.region fun L hL => ?_
 refine LW.rd hL rfl (Wants.free rfl) rfl (Rd.move (v := seq1) rfl) ?_
 refine LW.call hL rfl (Wants.free rfl) rfl (Cl.fn (f := 75) rfl Tryz.func75 (by kernel_rfl) rfl) h (fun e w1 h_ => ?_)
 clear h
 obtain ⟨r2, r2n, r2c, rfl, h⟩ := h_
 refine ⟨_, rfl, ?_⟩
 refine LW.rd hL rfl (Wants.free rfl) rfl (Rd.assign (v := .slice r2 r2n r2c) rfl) ?_
 refine LW.nil hL rfl ?_
 refine NW.then ?_
 refine CW.ret ?_
 exact res1 rfl rfl ⟨r2, r2n, r2c, rfl, h⟩
/- slices.SortedFunc[pomander/api.Place] -/
def W_slices_SortedFunc_841 (seq1 : Value) (cmp1 : Value) (w : World) (R : (Option Addr) → Nat → Nat → World → Prop) : Prop :=
 Calls Tryz.prog 54 #[seq1] w fun e w1 => ∃ (r2 : Option Addr) (r2n : Nat) (r2c : Nat), e = .returned (.slice r2 r2n r2c) ∧ (Calls Tryz.prog 55 #[.slice r2 r2n r2c, cmp1] w1 fun e w2 => e = .returned (.tuple #[]) ∧ (R r2 r2n r2c w2))
set_option maxRecDepth 100000 in
theorem go_slices_SortedFunc_841 (seq1 : Value) (cmp1 : Value) (w : World) (R : (Option Addr) → Nat → Nat → World → Prop) (h : W_slices_SortedFunc_841 seq1 cmp1 w R) : Calls Tryz.prog 30 #[seq1, cmp1] w (fun e w' => ∃ (r1 : Option Addr) (r1n : Nat) (r1c : Nat), e = .returned (.slice r1 r1n r1c) ∧ R r1 r1n r1c w') := by
 unfold W_slices_SortedFunc_841 at h
 refine enter (N := 12) Tryz.func30 rfl rfl ?_
 refine CW.seq ?_
 refine CW.region fun L hL => ?_
 refine LW.rd hL rfl (Wants.free rfl) rfl (Rd.assign (v := .slice none 0 0) rfl) ?_
 refine LW.nil hL rfl ?_
 refine NW.then ?_
 refine CW.seq ?_
 refine CW.region fun L hL => ?_
 refine LW.rd hL rfl (Wants.free rfl) rfl (Rd.move (v := seq1) rfl) ?_
 refine LW.call hL rfl (Wants.free rfl) rfl (Cl.fn (f := 54) rfl Tryz.func54 (by kernel_rfl) rfl) h (fun e w1 h_ => ?_)
 clear h
 obtain ⟨r2, r2n, r2c, rfl, h⟩ := h_
 refine ⟨_, rfl, ?_⟩
 refine LW.rd hL rfl (Wants.free rfl) rfl (Rd.assign (v := .slice r2 r2n r2c) rfl) ?_
 refine LW.nil hL rfl ?_
 refine NW.then ?_
 refine CW.seq ?_
 refine CW.region fun L hL => ?_
 refine LW.rd hL rfl (Wants.free rfl) rfl (Rd.move (v := .slice r2 r2n r2c) rfl) ?_
 refine LW.rd hL rfl (Wants.free rfl) rfl (Rd.move (v := cmp1) rfl) ?_
 refine LW.call hL rfl (Wants.free rfl) rfl (Cl.fn (f := 55) rfl Tryz.func55 (by kernel_rfl) rfl) h (fun e w2 h_ => ?_)
 clear h
 obtain ⟨rfl, h⟩ := h_
 refine ⟨_, rfl, ?_⟩
 refine LW.nil hL rfl ?_
 refine NW.then ?_
 refine CW.seq ?_
 refine CW.region fun L hL => ?_
 refine LW.rd hL rfl (Wants.free rfl) rfl (Rd.move (v := .slice r2 r2n r2c) rfl) ?_
 refine LW.rd hL rfl (Wants.free rfl) rfl (Rd.assign (v := .slice r2 r2n r2c) rfl) ?_
 refine LW.nil hL rfl ?_
 refine NW.then ?_
 refine CW.ret ?_
 exact res1 rfl rfl ⟨r2, r2n, r2c, rfl, h⟩
/- cmp.Compare[pomander/api.PlaceKind] -/
def W_cmp_Compare_942 (x1 : Int) (y1 : Int) (w : World) (R : Int → World → Prop) : Prop :=
 Calls Tryz.prog 78 #[.int .i64 x1] w fun e w1 => ∃ (r2 : Bool), e = .returned (.bool r2) ∧ (Calls Tryz.prog 78 #[.int .i64 y1] w1 fun e w2 => ∃ (r3 : Bool), e = .returned (.bool r3) ∧ ((r2 = true → (r3 = true → R 0 w2) ∧ (r3 = false → R (-1) w2)) ∧ (r2 = false → (r3 = true → R 1 w2) ∧ (r3 = false → ((decide (x1 < y1)) = true → R (-1) w2) ∧ ((decide (x1 < y1)) = false → ((decide (x1 > y1)) = true → R 1 w2) ∧ ((decide (x1 > y1)) = false → R 0 w2))))))
set_option maxRecDepth 100000 in
theorem go_cmp_Compare_942 (x1 : Int) (y1 : Int) (w : World) (R : Int → World → Prop) (h : W_cmp_Compare_942 x1 y1 w R) : Calls Tryz.prog 57 #[.int .i64 x1, .int .i64 y1] w (fun e w' => ∃ (r1 : Int), e = .returned (.int .i64 r1) ∧ R r1 w') := by
 unfold W_cmp_Compare_942 at h
 refine enter (N := 20) Tryz.func57 rfl rfl ?_
 refine CW.seq ?_
 refine CW.region fun L hL => ?_
 refine LW.rd hL rfl (Wants.free rfl) rfl (Rd.assign (v := .int .i64 0) rfl) ?_
 refine LW.nil hL rfl ?_
 refine NW.then ?_
 refine CW.seq ?_
 refine CW.region fun L hL => ?_
 refine LW.rd hL rfl (Wants.free rfl) rfl (Rd.move (v := .int .i64 x1) rfl) ?_
 refine LW.call hL rfl (Wants.free rfl) rfl (Cl.fn (f := 78) rfl Tryz.func78 (by kernel_rfl) rfl) h (fun e w1 h_ => ?_)
 clear h
 obtain ⟨r2, rfl, h⟩ := h_
 refine ⟨_, rfl, ?_⟩
 refine LW.rd hL rfl (Wants.free rfl) rfl (Rd.assign (v := .bool r2) rfl) ?_
 refine LW.nil hL rfl ?_
 refine NW.then ?_
 refine CW.seq ?_
 refine CW.region fun L hL => ?_
 refine LW.rd hL rfl (Wants.free rfl) rfl (Rd.move (v := .int .i64 y1) rfl) ?_
 refine LW.call hL rfl (Wants.free rfl) rfl (Cl.fn (f := 78) rfl Tryz.func78 (by kernel_rfl) rfl) h (fun e w2 h_ => ?_)
 clear h
 obtain ⟨r3, rfl, h⟩ := h_
 refine ⟨_, rfl, ?_⟩
 refine LW.rd hL rfl (Wants.free rfl) rfl (Rd.assign (v := .bool r3) rfl) ?_
 refine LW.nil hL rfl ?_
 refine NW.then ?_
 refine CW.seq ?_
 refine CW.seq ?_
 refine CW.region fun L hL => ?_
 refine LW.rd hL rfl (Wants.free rfl) rfl (Rd.move (v := .bool r2) rfl) ?_
 refine LW.nil hL rfl ?_
 refine NW.then ?_
 refine CW.cond rfl (fun hb1 => ?_) (fun hb1 => ?_)
 ·replace h := h.1 hb1
  refine CW.seq ?_
  refine CW.seq ?_
  refine CW.region fun L hL => ?_
  refine LW.rd hL rfl (Wants.free rfl) rfl (Rd.move (v := .bool r3) rfl) ?_
  refine LW.nil hL rfl ?_
  refine NW.then ?_
  refine CW.cond rfl (fun hb2 => ?_) (fun hb2 => ?_)
  ·replace h := h.1 hb2
   refine CW.seq ?_
   refine CW.region fun L hL => ?_
   refine LW.rd hL rfl (Wants.free rfl) rfl (Rd.assign (v := .int .i64 0) rfl) ?_
   refine LW.nil hL rfl ?_
   refine NW.then ?_
   refine CW.ret ?_
   refine RW.then ?_
   refine RW.then ?_
   exact res1 rfl rfl ⟨0, rfl, h⟩
  ·replace h := h.2 hb2
   refine CW.skip ?_
   refine NW.then ?_
   refine CW.seq ?_
   refine CW.region fun L hL => ?_
   refine LW.rd hL rfl (Wants.free rfl) rfl (Rd.assign (v := .int .i64 (-1)) rfl) ?_
   refine LW.nil hL rfl ?_
   refine NW.then ?_
   refine CW.ret ?_
   refine RW.then ?_
   exact res1 rfl rfl ⟨(-1), rfl, h⟩
 ·replace h := h.2 hb1
  refine CW.skip ?_
  refine NW.then ?_
  refine CW.seq ?_
  refine CW.seq ?_
  refine CW.region fun L hL => ?_
  refine LW.rd hL rfl (Wants.free rfl) rfl (Rd.move (v := .bool r3) rfl) ?_
  refine LW.nil hL rfl ?_
  refine NW.then ?_
  refine CW.cond rfl (fun hb3 => ?_) (fun hb3 => ?_)
  ·replace h := h.1 hb3
   refine CW.seq ?_
   refine CW.region fun L hL => ?_
   refine LW.rd hL rfl (Wants.free rfl) rfl (Rd.assign (v := .int .i64 1) rfl) ?_
   refine LW.nil hL rfl ?_
   refine NW.then ?_
   refine CW.ret ?_
   refine RW.then ?_
   exact res1 rfl rfl ⟨1, rfl, h⟩
  ·replace h := h.2 hb3
   refine CW.skip ?_
   refine NW.then ?_
   refine CW.seq ?_
   refine CW.seq ?_
   refine CW.region fun L hL => ?_
   refine LW.rd hL rfl (Wants.free rfl) rfl (Rd.move (v := .int .i64 x1) rfl) ?_
   refine LW.rd hL rfl (Wants.free rfl) rfl (Rd.move (v := .int .i64 y1) rfl) ?_
   refine LW.rd hL rfl (Wants.free rfl) rfl (Rd.bin (v := .bool (decide (x1 < y1))) rfl rfl (fun w => by kernel_rfl)) ?_
   refine LW.nil hL rfl ?_
   refine NW.then ?_
   refine CW.cond rfl (fun hb4 => ?_) (fun hb4 => ?_)
   ·replace h := h.1 hb4
    refine CW.seq ?_
    refine CW.region fun L hL => ?_
    refine LW.rd hL rfl (Wants.free rfl) rfl (Rd.assign (v := .int .i64 (-1)) rfl) ?_
    refine LW.nil hL rfl ?_
    refine NW.then ?_
    refine CW.ret ?_
    refine RW.then ?_
    exact res1 rfl rfl ⟨(-1), rfl, h⟩
   ·replace h := h.2 hb4
    refine CW.skip ?_
    refine NW.then ?_
    refine CW.seq ?_
    refine CW.seq ?_
    refine CW.region fun L hL => ?_
    refine LW.rd hL rfl (Wants.free rfl) rfl (Rd.move (v := .int .i64 x1) rfl) ?_
    refine LW.rd hL rfl (Wants.free rfl) rfl (Rd.move (v := .int .i64 y1) rfl) ?_
    refine LW.rd hL rfl (Wants.free rfl) rfl (Rd.bin (v := .bool (decide (x1 > y1))) rfl rfl (fun w => by kernel_rfl)) ?_
    refine LW.nil hL rfl ?_
    refine NW.then ?_
    refine CW.cond rfl (fun hb5 => ?_) (fun hb5 => ?_)
    ·replace h := h.1 hb5
     refine CW.seq ?_
     refine CW.region fun L hL => ?_
     refine LW.rd hL rfl (Wants.free rfl) rfl (Rd.assign (v := .int .i64 1) rfl) ?_
     refine LW.nil hL rfl ?_
     refine NW.then ?_
     refine CW.ret ?_
     refine RW.then ?_
     exact res1 rfl rfl ⟨1, rfl, h⟩
    ·replace h := h.2 hb5
     refine CW.skip ?_
     refine NW.then ?_
     refine CW.seq ?_
     refine CW.region fun L hL => ?_
     refine LW.rd hL rfl (Wants.free rfl) rfl (Rd.assign (v := .int .i64 0) rfl) ?_
     refine LW.nil hL rfl ?_
     refine NW.then ?_
     refine CW.ret ?_
     exact res1 rfl rfl ⟨0, rfl, h⟩
/- cmp.Compare[int] -/
def W_cmp_Compare_61 (x1 : Int) (y1 : Int) (w : World) (R : Int → World → Prop) : Prop :=
 Calls Tryz.prog 79 #[.int .i64 x1] w fun e w1 => ∃ (r2 : Bool), e = .returned (.bool r2) ∧ (Calls Tryz.prog 79 #[.int .i64 y1] w1 fun e w2 => ∃ (r3 : Bool), e = .returned (.bool r3) ∧ ((r2 = true → (r3 = true → R 0 w2) ∧ (r3 = false → R (-1) w2)) ∧ (r2 = false → (r3 = true → R 1 w2) ∧ (r3 = false → ((decide (x1 < y1)) = true → R (-1) w2) ∧ ((decide (x1 < y1)) = false → ((decide (x1 > y1)) = true → R 1 w2) ∧ ((decide (x1 > y1)) = false → R 0 w2))))))
set_option maxRecDepth 100000 in
theorem go_cmp_Compare_61 (x1 : Int) (y1 : Int) (w : World) (R : Int → World → Prop) (h : W_cmp_Compare_61 x1 y1 w R) : Calls Tryz.prog 58 #[.int .i64 x1, .int .i64 y1] w (fun e w' => ∃ (r1 : Int), e = .returned (.int .i64 r1) ∧ R r1 w') := by
 unfold W_cmp_Compare_61 at h
 refine enter (N := 20) Tryz.func58 rfl rfl ?_
 refine CW.seq ?_
 refine CW.region fun L hL => ?_
 refine LW.rd hL rfl (Wants.free rfl) rfl (Rd.assign (v := .int .i64 0) rfl) ?_
 refine LW.nil hL rfl ?_
 refine NW.then ?_
 refine CW.seq ?_
 refine CW.region fun L hL => ?_
 refine LW.rd hL rfl (Wants.free rfl) rfl (Rd.move (v := .int .i64 x1) rfl) ?_
 refine LW.call hL rfl (Wants.free rfl) rfl (Cl.fn (f := 79) rfl Tryz.func79 (by kernel_rfl) rfl) h (fun e w1 h_ => ?_)
 clear h
 obtain ⟨r2, rfl, h⟩ := h_
 refine ⟨_, rfl, ?_⟩
 refine LW.rd hL rfl (Wants.free rfl) rfl (Rd.assign (v := .bool r2) rfl) ?_
 refine LW.nil hL rfl ?_
 refine NW.then ?_
 refine CW.seq ?_
 refine CW.region fun L hL => ?_
 refine LW.rd hL rfl (Wants.free rfl) rfl (Rd.move (v := .int .i64 y1) rfl) ?_
 refine LW.call hL rfl (Wants.free rfl) rfl (Cl.fn (f := 79) rfl Tryz.func79 (by kernel_rfl) rfl) h (fun e w2 h_ => ?_)
 clear h
 obtain ⟨r3, rfl, h⟩ := h_
 refine ⟨_, rfl, ?_⟩
 refine LW.rd hL rfl (Wants.free rfl) rfl (Rd.assign (v := .bool r3) rfl) ?_
 refine LW.nil hL rfl ?_
 refine NW.then ?_
 refine CW.seq ?_
 refine CW.seq ?_
 refine CW.region fun L hL => ?_
 refine LW.rd hL rfl (Wants.free rfl) rfl (Rd.move (v := .bool r2) rfl) ?_
 refine LW.nil hL rfl ?_
 refine NW.then ?_
 refine CW.cond rfl (fun hb1 => ?_) (fun hb1 => ?_)
 ·replace h := h.1 hb1
  refine CW.seq ?_
  refine CW.seq ?_
  refine CW.region fun L hL => ?_
  refine LW.rd hL rfl (Wants.free rfl) rfl (Rd.move (v := .bool r3) rfl) ?_
  refine LW.nil hL rfl ?_
  refine NW.then ?_
  refine CW.cond rfl (fun hb2 => ?_) (fun hb2 => ?_)
  ·replace h := h.1 hb2
   refine CW.seq ?_
   refine CW.region fun L hL => ?_
   refine LW.rd hL rfl (Wants.free rfl) rfl (Rd.assign (v := .int .i64 0) rfl) ?_
   refine LW.nil hL rfl ?_
   refine NW.then ?_
   refine CW.ret ?_
   refine RW.then ?_
   refine RW.then ?_
   exact res1 rfl rfl ⟨0, rfl, h⟩
  ·replace h := h.2 hb2
   refine CW.skip ?_
   refine NW.then ?_
   refine CW.seq ?_
   refine CW.region fun L hL => ?_
   refine LW.rd hL rfl (Wants.free rfl) rfl (Rd.assign (v := .int .i64 (-1)) rfl) ?_
   refine LW.nil hL rfl ?_
   refine NW.then ?_
   refine CW.ret ?_
   refine RW.then ?_
   exact res1 rfl rfl ⟨(-1), rfl, h⟩
 ·replace h := h.2 hb1
  refine CW.skip ?_
  refine NW.then ?_
  refine CW.seq ?_
  refine CW.seq ?_
  refine CW.region fun L hL => ?_
  refine LW.rd hL rfl (Wants.free rfl) rfl (Rd.move (v := .bool r3) rfl) ?_
  refine LW.nil hL rfl ?_
  refine NW.then ?_
  refine CW.cond rfl (fun hb3 => ?_) (fun hb3 => ?_)
  ·replace h := h.1 hb3
   refine CW.seq ?_
   refine CW.region fun L hL => ?_
   refine LW.rd hL rfl (Wants.free rfl) rfl (Rd.assign (v := .int .i64 1) rfl) ?_
   refine LW.nil hL rfl ?_
   refine NW.then ?_
   refine CW.ret ?_
   refine RW.then ?_
   exact res1 rfl rfl ⟨1, rfl, h⟩
  ·replace h := h.2 hb3
   refine CW.skip ?_
   refine NW.then ?_
   refine CW.seq ?_
   refine CW.seq ?_
   refine CW.region fun L hL => ?_
   refine LW.rd hL rfl (Wants.free rfl) rfl (Rd.move (v := .int .i64 x1) rfl) ?_
   refine LW.rd hL rfl (Wants.free rfl) rfl (Rd.move (v := .int .i64 y1) rfl) ?_
   refine LW.rd hL rfl (Wants.free rfl) rfl (Rd.bin (v := .bool (decide (x1 < y1))) rfl rfl (fun w => by kernel_rfl)) ?_
   refine LW.nil hL rfl ?_
   refine NW.then ?_
   refine CW.cond rfl (fun hb4 => ?_) (fun hb4 => ?_)
   ·replace h := h.1 hb4
    refine CW.seq ?_
    refine CW.region fun L hL => ?_
    refine LW.rd hL rfl (Wants.free rfl) rfl (Rd.assign (v := .int .i64 (-1)) rfl) ?_
    refine LW.nil hL rfl ?_
    refine NW.then ?_
    refine CW.ret ?_
    refine RW.then ?_
    exact res1 rfl rfl ⟨(-1), rfl, h⟩
   ·replace h := h.2 hb4
    refine CW.skip ?_
    refine NW.then ?_
    refine CW.seq ?_
    refine CW.seq ?_
    refine CW.region fun L hL => ?_
    refine LW.rd hL rfl (Wants.free rfl) rfl (Rd.move (v := .int .i64 x1) rfl) ?_
    refine LW.rd hL rfl (Wants.free rfl) rfl (Rd.move (v := .int .i64 y1) rfl) ?_
    refine LW.rd hL rfl (Wants.free rfl) rfl (Rd.bin (v := .bool (decide (x1 > y1))) rfl rfl (fun w => by kernel_rfl)) ?_
    refine LW.nil hL rfl ?_
    refine NW.then ?_
    refine CW.cond rfl (fun hb5 => ?_) (fun hb5 => ?_)
    ·replace h := h.1 hb5
     refine CW.seq ?_
     refine CW.region fun L hL => ?_
     refine LW.rd hL rfl (Wants.free rfl) rfl (Rd.assign (v := .int .i64 1) rfl) ?_
     refine LW.nil hL rfl ?_
     refine NW.then ?_
     refine CW.ret ?_
     refine RW.then ?_
     exact res1 rfl rfl ⟨1, rfl, h⟩
    ·replace h := h.2 hb5
     refine CW.skip ?_
     refine NW.then ?_
     refine CW.seq ?_
     refine CW.region fun L hL => ?_
     refine LW.rd hL rfl (Wants.free rfl) rfl (Rd.assign (v := .int .i64 0) rfl) ?_
     refine LW.nil hL rfl ?_
     refine NW.then ?_
     refine CW.ret ?_
     exact res1 rfl rfl ⟨0, rfl, h⟩
/- cmp.isNaN[pomander/api.PlaceKind] -/
def W_cmp_isNaN_942 (x1 : Int) (w : World) (R : Bool → World → Prop) : Prop :=
 R (!(x1 == x1)) w
set_option maxRecDepth 100000 in
theorem go_cmp_isNaN_942 (x1 : Int) (w : World) (R : Bool → World → Prop) (h : W_cmp_isNaN_942 x1 w R) : Calls Tryz.prog 78 #[.int .i64 x1] w (fun e w' => ∃ (r1 : Bool), e = .returned (.bool r1) ∧ R r1 w') := by
 unfold W_cmp_isNaN_942 at h
 refine enter (N := 6) Tryz.func78 rfl rfl ?_
 refine CW.seq ?_
 refine CW.region fun L hL => ?_
 refine LW.rd hL rfl (Wants.free rfl) rfl (Rd.assign (v := .bool false) rfl) ?_
 refine LW.nil hL rfl ?_
 refine NW.then ?_
 refine CW.seq ?_
 refine CW.region fun L hL => ?_
 refine LW.rd hL rfl (Wants.free rfl) rfl (Rd.move (v := .int .i64 x1) rfl) ?_
 refine LW.rd hL rfl (Wants.free rfl) rfl (Rd.move (v := .int .i64 x1) rfl) ?_
 refine LW.rd hL rfl (Wants.free rfl) rfl (Rd.bin (v := .bool (!(x1 == x1))) rfl rfl (fun w => by kernel_rfl)) ?_
 refine LW.rd hL rfl (Wants.free rfl) rfl (Rd.assign (v := .bool (!(x1 == x1))) rfl) ?_
 refine LW.nil hL rfl ?_
 refine NW.then ?_
 refine CW.ret ?_
 exact res1 rfl rfl ⟨!(x1 == x1), rfl, h⟩
/- cmp.isNaN[int] -/
def W_cmp_isNaN_61 (x1 : Int) (w : World) (R : Bool → World → Prop) : Prop :=
 R (!(x1 == x1)) w
set_option maxRecDepth 100000 in
theorem go_cmp_isNaN_61 (x1 : Int) (w : World) (R : Bool → World → Prop) (h : W_cmp_isNaN_61 x1 w R) : Calls Tryz.prog 79 #[.int .i64 x1] w (fun e w' => ∃ (r1 : Bool), e = .returned (.bool r1) ∧ R r1 w') := by
 unfold W_cmp_isNaN_61 at h
 refine enter (N := 6) Tryz.func79 rfl rfl ?_
 refine CW.seq ?_
 refine CW.region fun L hL => ?_
 refine LW.rd hL rfl (Wants.free rfl) rfl (Rd.assign (v := .bool false) rfl) ?_
 refine LW.nil hL rfl ?_
 refine NW.then ?_
 refine CW.seq ?_
 refine CW.region fun L hL => ?_
 refine LW.rd hL rfl (Wants.free rfl) rfl (Rd.move (v := .int .i64 x1) rfl) ?_
 refine LW.rd hL rfl (Wants.free rfl) rfl (Rd.move (v := .int .i64 x1) rfl) ?_
 refine LW.rd hL rfl (Wants.free rfl) rfl (Rd.bin (v := .bool (!(x1 == x1))) rfl rfl (fun w => by kernel_rfl)) ?_
 refine LW.rd hL rfl (Wants.free rfl) rfl (Rd.assign (v := .bool (!(x1 == x1))) rfl) ?_
 refine LW.nil hL rfl ?_
 refine NW.then ?_
 refine CW.ret ?_
 exact res1 rfl rfl ⟨!(x1 == x1), rfl, h⟩
end Go.Proofs.YtfcfkhbkkfpehaaGreatDoor
end
section
/- flow.order: which place is ahead; as slices.SortFunc asks it. -/
namespace Go.Proofs.YtfcfkhbkkfpehaaGreatDoor
open Go Go.RowKit Go.X Go.Shelf Go.Sort
def cmpI (x y : Int) : Int := if x < y then -1 else if y < x then 1 else 0
def cmpP (x y : Int × Int) : Int := if cmpI x.1 y.1 = 0 then cmpI x.2 y.2 else cmpI x.1 y.1
theorem isNaN139 (w : World) (x : Int) : Calls Tryz.prog 78 #[.int .i64 x] w fun e w' => ∃ r : Bool, e = .returned (.bool r) ∧ (r = false ∧ w' = w) := by
 refine go_cmp_isNaN_942 _ _ _ ?_
 unfold W_cmp_isNaN_942
 exact ⟨by simp, rfl⟩
theorem isNaN140 (w : World) (x : Int) : Calls Tryz.prog 79 #[.int .i64 x] w fun e w' => ∃ r : Bool, e = .returned (.bool r) ∧ (r = false ∧ w' = w) := by
 refine go_cmp_isNaN_61 _ _ _ ?_
 unfold W_cmp_isNaN_61
 exact ⟨by simp, rfl⟩
theorem cmp122 (w : World) (x y : Int) : Calls Tryz.prog 57 #[.int .i64 x, .int .i64 y] w fun e w' => ∃ r : Int, e = .returned (.int .i64 r) ∧ (r = cmpI x y ∧ w' = w) := by
 refine go_cmp_Compare_942 _ _ _ _ ?_
 unfold W_cmp_Compare_942
 refine (isNaN139 w x).mono ?_
 rintro _ w1 ⟨_, rfl, rfl, hw⟩
 subst w1
 refine ⟨_, rfl, ?_⟩
 refine (isNaN139 w y).mono ?_
 rintro _ w1 ⟨_, rfl, rfl, hw⟩
 subst w1
 refine ⟨_, rfl, fun h => by simp at h, fun _ => ⟨fun h => by simp at h, fun _ => ⟨fun h => ?_, fun h => ⟨fun h' => ?_, fun h' => ?_⟩⟩⟩⟩
 ·have := of_decide_eq_true h
  exact ⟨by unfold cmpI; rw [if_pos this], rfl⟩
 ·have h1 := of_decide_eq_false h
  have h2 := of_decide_eq_true h'
  exact ⟨by unfold cmpI; rw [if_neg h1, if_pos h2], rfl⟩
 ·have h1 := of_decide_eq_false h
  have h2 := of_decide_eq_false h'
  exact ⟨by unfold cmpI; rw [if_neg h1, if_neg h2], rfl⟩
theorem cmp123 (w : World) (x y : Int) : Calls Tryz.prog 58 #[.int .i64 x, .int .i64 y] w fun e w' => ∃ r : Int, e = .returned (.int .i64 r) ∧ (r = cmpI x y ∧ w' = w) := by
 refine go_cmp_Compare_61 _ _ _ _ ?_
 unfold W_cmp_Compare_61
 refine (isNaN140 w x).mono ?_
 rintro _ w1 ⟨_, rfl, rfl, hw⟩
 subst w1
 refine ⟨_, rfl, ?_⟩
 refine (isNaN140 w y).mono ?_
 rintro _ w1 ⟨_, rfl, rfl, hw⟩
 subst w1
 refine ⟨_, rfl, fun h => by simp at h, fun _ => ⟨fun h => by simp at h, fun _ => ⟨fun h => ?_, fun h => ⟨fun h' => ?_, fun h' => ?_⟩⟩⟩⟩
 ·have := of_decide_eq_true h
  exact ⟨by unfold cmpI; rw [if_pos this], rfl⟩
 ·have h1 := of_decide_eq_false h
  have h2 := of_decide_eq_true h'
  exact ⟨by unfold cmpI; rw [if_neg h1, if_pos h2], rfl⟩
 ·have h1 := of_decide_eq_false h
  have h2 := of_decide_eq_false h'
  exact ⟨by unfold cmpI; rw [if_neg h1, if_neg h2], rfl⟩
end Go.Proofs.YtfcfkhbkkfpehaaGreatDoor
end
section
/- slices.SortFunc over places (by the shelf's contract). -/
namespace Go.Proofs.YtfcfkhbkkfpehaaGreatDoor
open Go Go.RowKit Go.X Go.Shelf Go.Sort
/-! The shelf's laying of slices.SortFunc (written by the kit's lay-plain) -/
def sortP_ren : Go.Shelf.Ren := ⟨fun | 6 => 55 | 15 => 77 | 14 => 76 | 28 => 101 | 29 => 102 | 20 => 93 | 21 => 94 | 22 => 95 | 23 => 96 | 24 => 97 | 25 => 98 | 26 => 99 | 27 => 100 | 46 => 113 | 47 => 114 | 48 => 115 | 49 => 116 | 50 => 117 | 57 => 125 | n => n, fun | 22 => 34 | 24 => 25 | 25 => 92 | 3 => 3 | 39 => 163 | 0 => 0 | 53 => 43 | 55 => 184 | 4 => 4 | 46 => 178 | 45 => 177 | 50 => 166 | 5 => 5 | 9 => 9 | 66 => 194 | 70 => 198 | 76 => 207 | 77 => 208 | n => n, fun | n => n⟩
theorem sortP : Go.Proofs.SlLaysF0.n6 Tryz.prog sortP_ren := {
 mixed := by kernel_rfl
 f6 := ⟨Tryz.f55.name, by decide, Tryz.func55.trans (congrArg some (by kernel_rfl))⟩
 f14 := ⟨Tryz.f76.name, by decide, Tryz.func76.trans (congrArg some (by kernel_rfl))⟩
 f15 := Tryz.func77.trans (congrArg some (by kernel_rfl))
 f20 := ⟨Tryz.f93.name, by decide, Tryz.func93.trans (congrArg some (by kernel_rfl))⟩
 f21 := ⟨Tryz.f94.name, by decide, Tryz.func94.trans (congrArg some (by kernel_rfl))⟩
 f22 := ⟨Tryz.f95.name, by decide, Tryz.func95.trans (congrArg some (by kernel_rfl))⟩
 f23 := ⟨Tryz.f96.name, by decide, Tryz.func96.trans (congrArg some (by kernel_rfl))⟩
 f24 := ⟨Tryz.f97.name, by decide, Tryz.func97.trans (congrArg some (by kernel_rfl))⟩
 f25 := ⟨Tryz.f98.name, by decide, Tryz.func98.trans (congrArg some (by kernel_rfl))⟩
 f26 := ⟨Tryz.f99.name, by decide, Tryz.func99.trans (congrArg some (by kernel_rfl))⟩
 f27 := ⟨Tryz.f100.name, by decide, Tryz.func100.trans (congrArg some (by kernel_rfl))⟩
 f28 := Tryz.func101.trans (congrArg some (by kernel_rfl))
 f29 := Tryz.func102.trans (congrArg some (by kernel_rfl))
 f46 := ⟨Tryz.f113.name, by decide, Tryz.func113.trans (congrArg some (by kernel_rfl))⟩
 f47 := Tryz.func114.trans (congrArg some (by kernel_rfl))
 f48 := Tryz.func115.trans (congrArg some (by kernel_rfl))
 f49 := ⟨Tryz.f116.name, by decide, Tryz.func116.trans (congrArg some (by kernel_rfl))⟩
 f50 := ⟨Tryz.f117.name, by decide, Tryz.func117.trans (congrArg some (by kernel_rfl))⟩
 f57 := ⟨Tryz.f125.name, by decide, Tryz.func125.trans (congrArg some (by kernel_rfl))⟩
 t0 := Tryz.underlying0
 a0 := Tryz.isAgg0
 z0 := Tryz.sizeOf0
 v0 := Tryz.zeroValue0
 t3 := Tryz.underlying3
 a3 := Tryz.isAgg3
 z3 := Tryz.sizeOf3
 v3 := Tryz.zeroValue3
 t4 := Tryz.underlying4
 a4 := Tryz.isAgg4
 z4 := Tryz.sizeOf4
 v4 := Tryz.zeroValue4
 t5 := Tryz.underlying5
 a5 := Tryz.isAgg5
 z5 := Tryz.sizeOf5
 v5 := Tryz.zeroValue5
 t9 := Tryz.underlying9
 a9 := Tryz.isAgg9
 z9 := Tryz.sizeOf9
 v9 := Tryz.zeroValue9
 t22 := Tryz.underlying34
 a22 := Tryz.isAgg34
 z22 := Tryz.sizeOf34
 v22 := Tryz.zeroValue34
 t25 := Tryz.underlying92
 a25 := Tryz.isAgg92
 z25 := Tryz.sizeOf92
 v25 := Tryz.zeroValue92
 t39 := Tryz.underlying163
 a39 := Tryz.isAgg163
 z39 := Tryz.sizeOf163
 v39 := Tryz.zeroValue163
 t45 := Tryz.underlying177
 a45 := Tryz.isAgg177
 z45 := Tryz.sizeOf177
 v45 := Tryz.zeroValue177
 t46 := Tryz.underlying178
 a46 := Tryz.isAgg178
 z46 := Tryz.sizeOf178
 v46 := Tryz.zeroValue178
 t50 := Tryz.underlying166
 a50 := Tryz.isAgg166
 z50 := Tryz.sizeOf166
 v50 := Tryz.zeroValue166
 t53 := Tryz.underlying43
 a53 := Tryz.isAgg43
 z53 := Tryz.sizeOf43
 v53 := Tryz.zeroValue43
 t55 := Tryz.underlying184
 a55 := Tryz.isAgg184
 z55 := Tryz.sizeOf184
 v55 := Tryz.zeroValue184
 t66 := Tryz.underlying194
 a66 := Tryz.isAgg194
 z66 := Tryz.sizeOf194
 v66 := Tryz.zeroValue194
 t70 := Tryz.underlying198
 a70 := Tryz.isAgg198
 z70 := Tryz.sizeOf198
 v70 := Tryz.zeroValue198
 t76 := Tryz.underlying207
 a76 := Tryz.isAgg207
 z76 := Tryz.sizeOf207
 v76 := Tryz.zeroValue207
 t77 := Tryz.underlying208
 a77 := Tryz.isAgg208
 z77 := Tryz.sizeOf208
 v77 := Tryz.zeroValue208 }
def encPl (x : Int × Int) : List Value := [.int .i64 x.1, .int .i64 x.2]
def ltPl (x y : Int × Int) : Prop := x.1 < y.1 ∨ (x.1 = y.1 ∧ x.2 < y.2)
instance (x y : Int × Int) : Decidable (ltPl x y) := by unfold ltPl; exact inferInstance
theorem lt_cmpP (x y : Int × Int) : ltOf cmpP x y = decide (ltPl x y) := by
 unfold ltOf cmpP cmpI ltPl
 refine decide_eq_decide.2 ?_
 by_cases h1 : x.1 < y.1
 ·simp [h1]
 ·by_cases h2 : y.1 < x.1
  ·simp [h1, h2]; omega
  ·by_cases h3 : x.2 < y.2
   ·simp [h1, h2, h3]; omega
   ·by_cases h4 : y.2 < x.2
    ·simp [h1, h2, h3, h4]
    ·simp [h1, h2, h3, h4]
theorem swoP : SWO (ltOf cmpP) where
 irrefl x := by rw [lt_cmpP]; exact decide_eq_false (by unfold ltPl; omega)
 trans x y z h1 h2 := by rw [lt_cmpP] at *; have a := of_decide_eq_true h1; have b := of_decide_eq_true h2; exact decide_eq_true (by unfold ltPl at *; omega)
 ntrans x y z h1 h2 := by rw [lt_cmpP] at *; have a := of_decide_eq_false h1; have b := of_decide_eq_false h2; exact decide_eq_false (by unfold ltPl at *; omega)
theorem flat_length2 (xs : List (Int × Int)) : (xs.flatMap encPl).length = xs.length * 2 := by
 induction xs with
 | nil => rfl
 | cons a l ih => rw [List.flatMap_cons, List.length_append, ih]; simp [encPl]; omega
theorem flat_get2 : ∀ (xs : List (Int × Int)) (j : Nat) (x : Int × Int), xs[j]? = some x → (xs.flatMap encPl)[j * 2]? = some (.int .i64 x.1) ∧ (xs.flatMap encPl)[j * 2 + 1]? = some (.int .i64 x.2)
 | [], j, x, h => by simp at h
 | a :: l, 0, x, h => by simp at h; subst h; simp [encPl]
 | a :: l, j + 1, x, h => by
  have := flat_get2 l j x (by simpa using h)
  simp only [List.flatMap_cons, encPl, List.cons_append, List.nil_append]
  rw [show (j + 1) * 2 = j * 2 + 1 + 1 by omega]
  simpa using this
theorem flatK_eq (xs : List (Int × Int)) : flatK encPl 2 xs.toArray = (xs.flatMap encPl).toArray := by
 refine ext_get! (by rw [size_flatK, List.size_toArray, List.size_toArray, flat_length2]) fun t ht => ?_
 have ht' : t < xs.length * 2 := by simpa using ht
 rw [get_flatK _ _ _ t (by simpa using ht')]
 have hj : t / 2 < xs.length := by omega
 have hx : xs[t / 2]? = some xs[t / 2] := List.getElem?_eq_getElem hj
 obtain ⟨g0, g1⟩ := flat_get2 xs (t / 2) _ hx
 have e1 : (xs.toArray[t / 2]!) = xs[t / 2] := by simp [hj]
 rw [e1]
 have hl : t < (xs.flatMap encPl).length := by rw [flat_length2]; exact ht'
 have e2 : (xs.flatMap encPl).toArray[t]! = (xs.flatMap encPl)[t] := by rw [getElem!_pos _ t (by simpa using hl)]; simp
 rw [e2]
 rcases Nat.mod_two_eq_zero_or_one t with h | h
 ·rw [h]
  have : t / 2 * 2 = t := by omega
  rw [this, List.getElem?_eq_getElem hl] at g0
  rw [Option.some.inj g0]; rfl
 ·rw [h]
  have : t / 2 * 2 + 1 = t := by omega
  rw [this, List.getElem?_eq_getElem hl] at g1
  rw [Option.some.inj g1]; rfl
theorem heap_sortedV {w : World} {g n : Nat} {os : Array Obj} {cur : Array Value} {e : TypeId} {fr : Nat × Nat} (F : Array Value) (hb : w.heap[g]? = some (.cells cur e fr)) :
  (grow (putRow id (Sort.ahead w n) g 0 F) os).heap[g]? = some (.cells (putCells id 0 F cur) e fr) := by
 have hg : g < w.heap.size := (Array.getElem?_eq_some_iff.1 hb).1
 rw [heap_grow_old _ _ (by simpa using hg)]
 simp [putRow, mapBlock, Sort.ahead, Array.getElem?_modify, hb, onCells]
theorem chg_sortedV {w : World} {g n : Nat} {os : Array Obj} (F : Array Value) : Chg [g] w (grow (putRow id (Sort.ahead w n) g 0 F) os) := by
 refine ⟨rfl, rfl, rfl, by simp, fun k hk hne => ?_⟩
 rw [heap_grow_old _ _ (by simpa using hk)]
 have : g ≠ k := fun e => hne (by simp [e])
 simp [putRow, mapBlock, Sort.ahead, Array.getElem?_modify, this]
theorem take_putCellsV (cur F : Array Value) (h : F.size ≤ cur.size) : (putCells id 0 F cur).toList.take F.size = F.toList := by
 apply List.ext_getElem?
 intro j
 by_cases hj : j < F.size
 ·rw [List.getElem?_take_of_lt hj, Array.getElem?_toList]
  simp [putCells, hj, show j < cur.size by omega]
 ·rw [List.getElem?_take_eq_none (by omega), List.getElem?_eq_none (by simp; omega)]
end Go.Proofs.YtfcfkhbkkfpehaaGreatDoor
end
section
/- maps.Keys over places; slices.Collect, slices.SortedFunc over them. -/
namespace Go.Proofs.YtfcfkhbkkfpehaaGreatDoor
open Go Go.RowKit Go.X Go.XR
theorem encP_inj : ∀ a b : Int × Int, encP a = encP b → a = b := fun a b h => by
 simp [encP] at h
 exact Prod.ext h.1 h.2
theorem Iterates_later {α : Type} {P : Program} {fv : Value} {enc : α → Array Value} {S Sp : List α → Prop} {keep : List Nat} {w w1 : World} (h : Iterates P fv enc S Sp keep w) (hc : Chg [] w w1) : Iterates P fv enc S Sp keep w1 :=
 fun W yv I Ix hW => h W yv I Ix (hc.trans0 hW)
theorem append_pseq {w : World} {fv : Value} {S Sp : List (Int × Int) → Prop} {keep : List Nat} (hf : IsFn Tryz.prog fv) (hi : Iterates Tryz.prog fv (fun x : Int × Int => #[.agg #[.int .i64 x.1, .int .i64 x.2]]) S Sp keep w) (hk : ∀ i ∈ keep, i < w.heap.size)
  (hle : ∀ pre, Sp pre → pre.length ≤ 1000000000000) :
  Calls Tryz.prog 75 #[.slice none 0 0, fv] w fun e w' => ∃ (p : Option Addr) (n c : Nat), e = .returned (.slice p n c) ∧ ∃ xs, S xs ∧ n = xs.length ∧ RowAt w' 25 2 p n c (xs.flatMap encPl) ∧ Chg [] w w' ∧ ∀ b ∈ rowB p, w.heap.size ≤ b := by
 refine go_slices_AppendSeq_194 _ _ _ _ _ _ ?_
 unfold W_slices_AppendSeq_194
 rintro b1 w1 ⟨hb1, hb2⟩ c1
 have s1 := c1.size
 refine ⟨S, Sp, keep, hf, Iterates_later hi c1, fun i h => Nat.lt_of_lt_of_le (hk i h) s1,
  fun p n c O pre w' => n = pre.length ∧ RowAt w' 25 2 p n c (pre.flatMap encPl) ∧ (∀ b ∈ rowB p, b ∉ O ∧ w1.heap.size ≤ b) ∧ Chg [] w w' ∧ w1.heap.size ≤ w'.heap.size, ?_, ?_, ?_, ?_⟩
 ·rintro p n c pre O O' A B ⟨k1, k2, k3, k4, k5⟩ hO hc hO' hg
  have hsz := hc.size
  refine ⟨k1, k2.chg hc (fun b hb => (k3 b hb).1), fun b hb => ⟨fun hm => ?_, (k3 b hb).2⟩, k4.trans hc (fun i hi hlt => by have := (hO i hi).1; omega), by omega⟩
  rcases hg _ hm with h | h
  ·exact (k3 b hb).1 h
  ·have := k2.lt b hb; omega
 ·intro O w2 c2 hO
  exact ⟨rfl, RowAt.nil, by simp [rowB], c1.trans0 c2, c2.size⟩
 ·rintro l1 O pre x1 x2 p n c w2 hO hl1 hsp ⟨k1, k2, k3, k4, k5⟩ b2 w3 ⟨q1, q2⟩ c3
  have s3 := c3.size
  have hl := hO l1 hl1
  have hlp : ∀ b ∈ rowB p, b ∉ [l1] := fun b hb hm => by simp at hm; subst hm; exact (k3 _ hb).1 hl1
  refine v_alloc fun b3 w4 e2 hb2' c4 => ?_
  have s4 := c4.size
  have hlen := hle _ hsp
  simp at hlen
  have hr4 : RowAt w4 25 2 p n c (pre.flatMap encPl) := (k2.chg c3 hlp).chg c4 (by simp)
  obtain ⟨p', c', w5, hrun, hr5, c5, hnew⟩ := hr4.append (P := Tryz.prog) (t := 34) (ty := 34) (i := Tryz.t25) (z := .agg #[.int .i64 0, .int .i64 0]) (bytes := 16) (by kernel_rfl) (by kernel_rfl) (by kernel_rfl) (by kernel_rfl) (by kernel_rfl) rfl (by omega) (a := ⟨b3, 0, none⟩) (m := 1) (mc := 1) (news := [Value.int .i64 x1, Value.int .i64 x2]) (by simp)
   (fun j u hj => by
    match j, hj with
    | 0, hj => simp at hj; subst hj; rw [add_at, cell_of hb2']; rfl
    | 1, hj => simp at hj; subst hj; rw [add_at, cell_of hb2']; rfl
    | j + 2, hj => simp at hj) (by simp; exact ⟨rfl, rfl⟩) (by subst k1; unfold maxLen; omega) (by omega)
  have s5 := c5.size
  refine ⟨p', n + 1, c', w5, hrun, Same.of c5 (fun b hb => ⟨by simp at hb; omega, fun hm => by simp at hb; have := (k3 _ hm).2; omega⟩), fun w6 c6 => ?_⟩
  have s6 := c6.size
  have hnew' : ∀ b ∈ rowB p', b ∉ O ∧ w1.heap.size ≤ b := fun b hb => by
   rcases hnew b hb with h | h
   ·exact k3 b h
   ·exact ⟨fun hm => by have := (hO _ hm).2; omega, by omega⟩
  have c46 : Chg (b1 :: rowB p) w4 w6 := (c5.mono (fun i hi _ => List.mem_cons_of_mem _ hi)).trans c6 (fun i hi _ => by simp at hi; simp [hi])
  have c36 : Chg (b1 :: rowB p) w3 w6 := (c4.nil (f := b1 :: rowB p)).trans c46 (fun i hi _ => hi)
  refine ⟨by omega, ⟨by simp [k1], ?_, hnew', ?_, by omega⟩, ?_⟩
  ·rw [List.flatMap_append]
   exact hr5.chg c6 (fun b hb hm => by simp at hm; have := (hnew' b hb).2; omega)
  ·have c03 : Chg [] w w3 := k4.trans c3 (fun i hi hlt => by simp at hi; omega)
   exact c03.trans c36 (fun i hi hlt => by
    rcases List.mem_cons.1 hi with h | h
    ·omega
    ·have := (k3 i h).2; omega)
  ·refine Same.of c36 (fun b hb => ?_)
   rcases List.mem_append.1 hb with h | h
   ·have := hk b h
    refine ⟨by omega, fun hm => ?_⟩
    rcases List.mem_cons.1 hm with h | h
    ·omega
    ·have := (k3 b h).2; omega
   ·have := hO b h
    refine ⟨by omega, fun hm => ?_⟩
    rcases List.mem_cons.1 hm with h' | h'
    ·omega
    ·exact (k3 b h').1 h
 ·rintro d O xs p n c w7 hO hd hS ⟨k1, k2, k3, k4, k5⟩ w8 c8
  exact ⟨xs, hS, k1, k2.chg c8 (fun b hb hm => by simp at hm; subst hm; exact (k3 _ hb).1 hd), k4.trans c8 (fun i hi hlt => by simp at hi; subst hi; have := (hO _ hd).1; omega), fun b hb => by have := (k3 b hb).2; omega⟩
end Go.Proofs.YtfcfkhbkkfpehaaGreatDoor
end
section
namespace Go.Proofs.YtfcfkhbkkfpehaaGreatDoor
open Go Go.X
/- maps.Keys[map[pomander/api.Place]int,pomander/api.Place,int] -/
def W_maps_Keys_262 (m1 : Option Nat) (w : World) (R : Value → World → Prop) : Prop :=
 ∀ b1 : Nat, b1 = World.size w → ∀ w1 : World, w1 = World.alloc w (.cells #[.map m1] 84) → (R (.func (.func 56) #[] #[.pointer (some (⟨b1, 0, none⟩ : Addr))]) w1)
set_option maxRecDepth 100000 in
theorem go_maps_Keys_262 (m1 : Option Nat) (w : World) (R : Value → World → Prop) (h : W_maps_Keys_262 m1 w R) : Calls Tryz.prog 31 #[.map m1] w (fun e w' => ∃ (r1 : Value), e = .returned (r1) ∧ R r1 w') := by
 unfold W_maps_Keys_262 at h
 refine enter (N := 4) Tryz.func31 rfl rfl ?_
 refine CW.seq ?_
 refine CW.region fun L hL => ?_
 obtain ⟨b1, hb_b1⟩ : ∃ b1, b1 = World.size w := ⟨_, rfl⟩
 obtain ⟨w1, hw_w1⟩ : ∃ w1, w1 = World.alloc w (.cells #[.map m1] 84) := ⟨_, rfl⟩
 replace h := h b1 hb_b1 w1 hw_w1
 refine LW.val hL rfl (Wants.free rfl) rfl (boxE hb_b1 hw_w1 (Vl.box (v := .map m1) rfl)) ?_
 refine LW.rd hL rfl (Wants.free rfl) rfl (Rd.assign (v := .nilFunc) rfl) ?_
 refine LW.nil hL rfl ?_
 refine NW.then ?_
 refine CW.seq ?_
 refine CW.region fun L hL => ?_
 refine LW.rd hL rfl (Wants.free rfl) rfl (Rd.makeFunc rfl) ?_
 refine LW.rd hL rfl (Wants.free rfl) rfl (Rd.assign (v := .func (.func 56) #[] #[.pointer (some (⟨b1, 0, none⟩ : Addr))]) rfl) ?_
 refine LW.nil hL rfl ?_
 refine NW.then ?_
 refine CW.ret ?_
 exact res1 rfl rfl ⟨.func (.func 56) #[] #[.pointer (some (⟨b1, 0, none⟩ : Addr))], rfl, h⟩
/- maps.Keys[map[pomander/api.Place]int,pomander/api.Place,int]$1 -/
def W_maps_Keys_262_1 (yield1 : Value) (cap1 : Addr) (w : World) (R : World → Prop) : Prop :=
 ∃ (t1 : Option Nat), w.cell? cap1 = some (.map t1) ∧ (∃ (it1 : Option Addr) (w1 : World), (Instr.range 84 (.map t1)).run Tryz.prog w = .ok (.pointer it1) w1 ∧ (∃ (I1 : World → Prop) (m1 : World → Nat), I1 w1 ∧ ∀ (w2 : World), I1 w2 → ∃ (nx1 : Array Value) (ok1 : Bool) (w3 : World), (Instr.next (.pointer it1) false 0).run Tryz.prog w2 = .ok (.tuple nx1) w3 ∧ nx1[0]? = some (.bool ok1) ∧ ((ok1 = true → ∃ (k1 : Int) (k2 : Int) (v1 : Int), (Instr.entry (.pointer it1)).run Tryz.prog w3 = .ok (.tuple #[.agg #[.int .i64 k1, .int .i64 k2], .int .i64 v1]) w3 ∧ (∀ (b1 : Nat) (w5 : World), (w3.heap.size ≤ b1 ∧ b1 < w5.heap.size) → Chg [] w3 w5 → (XR.CallsY Tryz.prog yield1 #[.agg #[.int .i64 k1, .int .i64 k2]] w5 fun e w6 => ∃ (r1 : Bool), e = .returned (.bool r1) ∧ (((!r1) = true → R w6) ∧ ((!r1) = false → (I1 w6 ∧ m1 w6 < m1 w2)))))) ∧ (ok1 = false → R w3))))
set_option maxRecDepth 100000 in
theorem go_maps_Keys_262_1 (yield1 : Value) (cap1 : Addr) (w : World) (R : World → Prop) (h : W_maps_Keys_262_1 yield1 cap1 w R) : Calls Tryz.prog 56 #[yield1, .pointer (some cap1)] w (fun e w' => e = .returned (.tuple #[]) ∧ R w') := by
 unfold W_maps_Keys_262_1 at h
 refine enter (N := 14) Tryz.func56 rfl rfl ?_
 refine CW.seq ?_
 refine CW.region fun L hL => ?_
 obtain ⟨t1, hc1, h⟩ := h
 refine LW.rd hL rfl (Wants.free rfl) rfl (Rd.ld (v := .map t1) rfl (by kernel_rfl) (eqs hc1)) ?_
 obtain ⟨it1, w1, hm1, h⟩ := h
 refine LW.val hL rfl (Wants.free rfl) rfl (Vl.range (v := .pointer it1) rfl hm1) ?_
 refine LW.nil hL rfl ?_
 refine NW.then ?_
 refine CW.block ?_
 obtain ⟨I1, m1, hI1, h⟩ := h
 refine CW.loop (S := Unit) (fun s1 => [(0, yield1), (5, .pointer it1)]) (fun s1 w2 => I1 w2) (fun s1 w2 => m1 w2) () (by exact ⟨rfl, rfl, trivial⟩) hI1 (fun s1 w2 hI1 => ?_)
 replace h := h w2 hI1
 refine CW.seq ?_
 refine CW.region fun L hL => ?_
 obtain ⟨nx1, ok1, w3, hm2, hk1, h⟩ := h
 refine LW.val hL rfl (Wants.free rfl) rfl (Vl.next (v := .tuple nx1) rfl hm2) ?_
 refine LW.rd hL rfl (Wants.free rfl) rfl (Rd.extract (v := .bool ok1) rfl hk1) ?_
 refine LW.nil hL rfl ?_
 refine NW.then ?_
 refine CW.seq ?_
 refine CW.cond rfl (fun hb1 => ?_) (fun hb1 => ?_)
 ·replace h := h.1 hb1
  refine CW.skip ?_
  refine NW.then ?_
  refine CW.block ?_
  refine CW.seq ?_
  refine CW.region fun L hL => ?_
  obtain ⟨k1, k2, v1, hl1, h⟩ := h
  refine LW.rd hL rfl (Wants.free rfl) rfl (Rd.entry (v := .tuple #[.agg #[.int .i64 k1, .int .i64 k2], .int .i64 v1]) rfl (fun _ e => e ▸ hl1)) ?_
  refine LW.rd hL rfl (Wants.free rfl) rfl (Rd.extract (v := .agg #[.int .i64 k1, .int .i64 k2]) rfl rfl) ?_
  obtain ⟨b1, hb_b1⟩ : ∃ b1, b1 = World.size w3 := ⟨_, rfl⟩
  obtain ⟨w4, hw_w4⟩ : ∃ w4, w4 = World.alloc w3 (.cells #[.int .i64 0, .int .i64 0] 25) := ⟨_, rfl⟩
  refine LW.val hL rfl (Wants.free rfl) rfl (boxE hb_b1 hw_w4 (Vl.alloc (z := .agg #[.int .i64 0, .int .i64 0]) (by kernel_rfl))) ?_
  have hB := Boxes.alloc (cs := [.int .i64 0, .int .i64 0]) (T := 25) (Boxes.nil w3) hb_b1 hw_w4
  have hlo_b1 := sil_lo (Chg.refl [] w3) hb_b1
  have hc_w4 := sil_alloc (Chg.refl [] w3) hw_w4
  obtain ⟨w5, hw_w5⟩ : ∃ x, x = setCells w4 (⟨b1, 0, none⟩ : Addr) 0 [.int .i64 k1, .int .i64 k2] := ⟨_, rfl⟩
  refine LW.eff hL rfl (Wants.free rfl) rfl (stNE hw_w5 (Ef.stN (cs := [.int .i64 k1, .int .i64 k2]) rfl rfl (by kernel_rfl) (List.forall_mem_cons.2 ⟨rfl, (List.forall_mem_cons.2 ⟨rfl, (List.forall_mem_nil _)⟩)⟩) (has_of (hB.at (i := 0) rfl) (by simp)) (free_of' (hB.at (i := 0) rfl)))) ?_
  replace hB : Boxes w5 [(b1, [.int .i64 k1, .int .i64 k2], 25)] := Boxes.store (vs := [.int .i64 k1, .int .i64 k2]) (i := 0) (o := 0) hB rfl rfl rfl rfl hw_w5
  have hc_w5 := sil_new hc_w4 (sil_cN hw_w5) hlo_b1
  refine LW.nil hL rfl ?_
  refine NW.then ?_
  refine CW.seq ?_
  refine XR.CW.un ?_
  refine XR.CW.region fun L hL => ?_
  refine XR.LW.rd hL rfl (Wants.free rfl) rfl (Rd.move (v := yield1) rfl) ?_
  refine XR.LW.rd hL rfl (Wants.free rfl) rfl (Rd.ldN (cs := [.int .i64 k1, .int .i64 k2]) rfl (by kernel_rfl) (by kernel_rfl) (cellsS (box_cells (hB.at (i := 0) rfl) rfl))) ?_
  replace h := h b1 w5 ⟨hlo_b1, lt_of_heap (hB.at (i := 0) rfl)⟩ hc_w5
  refine XR.LW.callY hL rfl (Wants.free rfl) rfl rfl rfl h (fun e w6 h_ => ?_)
  clear h
  obtain ⟨r1, rfl, h⟩ := h_
  refine ⟨_, rfl, ?_⟩
  refine XR.LW.rd hL rfl (Wants.free rfl) rfl (Rd.un (v := .bool (!r1)) rfl (fun _ => by kernel_rfl)) ?_
  refine XR.LW.nil hL rfl ?_
  refine NW.then ?_
  refine CW.cond rfl (fun hb2 => ?_) (fun hb2 => ?_)
  ·replace h := h.1 hb2
   refine CW.ret ?_
   refine RW.block ?_
   refine RW.then ?_
   refine RW.block ?_
   exact res0 rfl ⟨rfl, h⟩
  ·replace h := h.2 hb2
   refine CW.skip ?_
   refine NW.block ?_
   exact NW.loop (S := Unit) (Ek := fun s1 => [(0, yield1), (5, .pointer it1)]) () (by exact ⟨rfl, rfl, trivial⟩) h
 ·replace h := h.2 hb1
  refine CW.exit ?_
  refine XW.then ?_
  refine XW.then ?_
  refine XW.hit ?_
  exact res0n rfl (by exact ⟨rfl, h⟩)
end Go.Proofs.YtfcfkhbkkfpehaaGreatDoor
end
section
/- query.order, slices.SortedFunc by it, maps.Keys over map[api.Place]int (the flow's texts, turned). -/
namespace Go.Proofs.YtfcfkhbkkfpehaaGreatDoor
open Go Go.RowKit Go.X Go.XR Go.Shelf Go.Sort
theorem uMQ : Tryz.prog.underlying 84 = some (.map 25 3) := by kernel_rfl
set_option maxHeartbeats 1000000 in
theorem orderQ (x y : Int × Int) (W : World) : Calls Tryz.prog 32 #[.agg #[.int .i64 x.1, .int .i64 x.2], .agg #[.int .i64 y.1, .int .i64 y.2]] W fun e w' => e = .returned (.int .i64 (cmpP x y)) ∧ ∃ q os', w' = grow (W.drewN q) os' := by
 have h1 := fun W' => cmp122 W' x.1 y.1
 have h2 := fun W' => cmp123 W' x.2 y.2
 unfold cmpP
 generalize cmpI x.1 y.1 = r1 at h1 ⊢
 generalize cmpI x.2 y.2 = r2 at h2 ⊢
 go_enter Tryz.func32, Tryz.ntmps32
 go_wp2_with (first
  | (go_at_call 57; refine (h1 _).mono ?_; rintro e w' ⟨_, rfl, rfl, rfl⟩)
  | (go_at_call 58; refine (h2 _).mono ?_; rintro e w' ⟨_, rfl, rfl, rfl⟩))
 all_goals first
  | (exfalso; simp_all; done)
  | (go_ret; exact ⟨by simp_all, 0, _, by rw [alloc_eq_grow, alloc_eq_grow, grow_grow]; rfl⟩)
theorem cmpLaysQ (blk off size : Nat) (w : World) : CmpLays Tryz.prog 32 #[] encPl 2 cmpP blk off size w :=
 fun _ _ _ _ x y => orderQ x y _
theorem sort_placesQ {w : World} {p : Option Addr} {n c : Nat} {xs : List (Int × Int)} (h : RowAt w 25 2 p n c (xs.flatMap encPl)) (hn : n = xs.length) (hle : n ≤ 1000000000000) :
  Calls Tryz.prog 55 #[.slice p n c, .func (.func 32) #[] #[]] w fun e w' => e = .returned (.tuple #[]) ∧ ∃ ys : List (Int × Int), ys.Perm xs ∧ ys.Pairwise (fun a b => ¬ ltPl b a) ∧ RowAt w' 25 2 p n c (ys.flatMap encPl) ∧ Chg (rowB p) w w' := by
 subst hn
 rcases h.2 with ⟨hv, hz⟩ | ⟨g, cap, cur, hv, hb, hg, h1, h2, h3, h4⟩
 ·obtain rfl : xs = [] := List.eq_nil_of_length_eq_zero hz
  cases hv
  refine (AnyF.slices_SortFunc_none sortP none 0 _ w).mono ?_
  rintro e w' ⟨rfl, rfl⟩
  exact ⟨rfl, [], List.Perm.refl _, List.Pairwise.nil, h, Chg.refl _ _⟩
 ·cases hv
  have eg : ∀ args w, (callFunc 32 args).run Tryz.prog w = .ok (.enter 32 args) w := enters_of Tryz.func32 (by kernel_rfl) rfl
  have hH : HoldsK encPl 2 w g 0 xs.toArray := by
   unfold HoldsK
   rw [flatK_eq]
   intro j hj
   have hj' : j < (xs.flatMap encPl).length := by simpa using hj
   refine ⟨?_, by simp [World.frozen?, hg]⟩
   have e1 : cur.toList[j]? = (xs.flatMap encPl)[j]? := by
    rw [← h4, List.getElem?_take_of_lt (by rw [flat_length2] at hj'; omega)]
   simp only [World.cell?, hg, Nat.zero_add, Option.isSome_none, Bool.false_eq_true, if_false]
   rw [← Array.getElem?_toList, e1, List.getElem?_eq_getElem hj', getElem!_pos _ j (by simpa using hj')]
   simp
  have hcon := AnyQ.slices_SortFunc sortP 2 Tryz.isAgg25 Tryz.sizeOf25 encPl (fun _ => rfl) (fun x v hv => by simp [encPl] at hv; rcases hv with rfl | rfl <;> rfl) cmpP swoP 32 #[] g 0 c xs.toArray w eg (cmpLaysQ g 0 _ w) hH (lt_of_heap hg) (by simp; omega)
  rw [List.size_toArray] at hcon
  refine Calls.mono hcon ?_
  rintro e w' ⟨rfl, d', nn, os, ⟨hs, _, hperm⟩, hsort, rfl⟩
  have hd : d'.toList.Perm xs := by
   have hs' : d'.size = xs.length := by simpa using hs
   have e1 : d'.extract 0 xs.length = d' := by rw [← hs']; simp
   have e2 : xs.toArray.extract 0 xs.length = xs.toArray := by simp
   rw [e1, e2] at hperm
   simpa using hperm
  have hlen : d'.toList.length = xs.length := hd.length_eq
  have hds : d' = d'.toList.toArray := by simp
  refine ⟨rfl, d'.toList, hd, ?_, ?_, ?_⟩
  ·rw [List.pairwise_iff_getElem]
   intro i j hi hj hij
   have := hsort i j (Nat.zero_le _) hij (by omega)
   rw [lt_cmpP] at this
   have := of_decide_eq_false this
   rw [getElem!_pos d' j (by simpa using hj), getElem!_pos d' i (by simpa using hi)] at this
   simpa using this
  ·unfold sortWorldK putRowK
   rw [hds, flatK_eq]
   have hF : ((d'.toList.flatMap encPl).toArray).size = xs.length * 2 := by rw [List.size_toArray, flat_length2, hlen]
   refine ⟨by rw [List.toList_toArray, flat_length2, hlen], .inr ⟨g, c, _, rfl, Nat.zero_le _, heap_sortedV _ hg, h1, h2, by simp [putCells, h3], ?_⟩⟩
   have := take_putCellsV cur (d'.toList.flatMap encPl).toArray (by rw [hF, h3]; exact Nat.mul_le_mul_right 2 h1)
   rw [hF] at this
   simpa using this
  ·unfold sortWorldK putRowK
   simpa [rowB] using chg_sortedV (w := w) (g := g) (n := nn) (os := os) (flatK encPl 2 d')
theorem maps_qkeys (w : World) (m : Option Nat) : Calls Tryz.prog 31 #[.map m] w fun e w' => ∃ r : Value, e = .returned r ∧ ∃ cb, r = .func (.func 56) #[] #[.pointer (some ⟨cb, 0, none⟩)] ∧ cb = w.heap.size ∧ w'.heap[cb]? = some (.cells #[.map m] 84 (0, 0)) ∧ Chg [] w w' := by
 refine go_maps_Keys_262 _ _ _ ?_
 unfold W_maps_Keys_262
 exact v_alloc fun b w1 e h c => ⟨b, rfl, e, h, c⟩
theorem isFnQ (cb : Nat) : IsFn Tryz.prog (.func (.func 56) #[] #[.pointer (some ⟨cb, 0, none⟩)]) := ⟨56, Tryz.f56, _, rfl, Tryz.func56, by kernel_rfl, by kernel_rfl⟩
theorem iterates_qkeys {w : World} {cb m : Nat} {l : List ((Int × Int) × Int)} (hcb : w.heap[cb]? = some (.cells #[.map (some m)] 84 (0, 0))) (hm : MapIs w m encP (fun n : Int => .int .i64 n) l) :
  Iterates Tryz.prog (.func (.func 56) #[] #[.pointer (some ⟨cb, 0, none⟩)]) (fun x : Int × Int => #[.agg #[.int .i64 x.1, .int .i64 x.2]]) (allS Prod.fst l) (allSp Prod.fst l) [cb, m] w := by
 intro W yv I Ix hW hI hIx h0 hround
 refine ⟨56, #[.pointer (some ⟨cb, 0, none⟩)], Tryz.f56, rfl, Tryz.func56, by kernel_rfl, by kernel_rfl, ?_⟩
 have hcW := hW.obj (by simp) hcb
 have hmW := hm.chg hW (by simp)
 have hlm := hmW.lt
 refine (go_maps_Keys_262_1 yv ⟨cb, 0, none⟩ W (fun w' => ∃ Own, InO W Own w' ∧ ((∃ xs, allS Prod.fst l xs ∧ I Own xs w') ∨ ∃ pre, allSp Prod.fst l pre ∧ Ix Own pre w')) ?_).mono (fun e w' h => ⟨⟨_, h.1⟩, h.2⟩)
 unfold W_maps_Keys_262_1
 obtain ⟨it, w1, hrg, c1, hit, hI1⟩ := iter_range (P := Tryz.prog) (T := 84) hmW uMQ
 refine ⟨_, by rw [cell_of hcW]; rfl, _, w1, hrg, ?_⟩
 have hne : it ≠ m := by omega
 have s1 := c1.size
 have hitlt := hI1.lt
 refine ⟨fun w2 => ∃ done, I [it] (done.map Prod.fst) w2 ∧ IterAt w2 it m encP (fun n : Int => .int .i64 n) l done ∧ w1.heap.size ≤ w2.heap.size, fun w2 => l.length - seenN w2 it, ⟨[], ?_, hI1, Nat.le_refl _⟩, ?_⟩
 ·exact hI [] [] [it] W w1 h0 (by intro i hi; cases hi) c1 (by intro i hi; simp at hi; omega) (by intro i hi; simp at hi; omega)
 rintro w2 ⟨done, hi, hIt, s2⟩
 have hin : ∀ {A : World}, w1.heap.size ≤ A.heap.size → InO W [it] A := fun hA i hi => by simp at hi; omega
 rcases iter_next (P := Tryz.prog) hIt hne encP_inj 0 with ⟨hnx, hall⟩ | ⟨k, v, w3, hkl, hnew, hrun, c3, hI3, hent⟩
 ·exact ⟨_, false, w2, hnx, rfl, fun h => by simp at h, fun _ => ⟨[it], hin s2, .inl ⟨_, ⟨done, rfl, hIt.sub.2.1, hIt.sub.1, hall⟩, hi⟩⟩⟩
 ·have s3 := c3.size
  refine ⟨_, true, w3, hrun, rfl, fun _ => ⟨k.1, k.2, v, hent, ?_⟩, fun h => by simp at h⟩
  rintro b1 w5 ⟨q1, q2⟩ c5
  have s5 := c5.size
  have hI5 := hI3.chg c5 (by simp) (by simp)
  have hi3 := hI (done.map Prod.fst) [it] [it] w2 w3 hi (hin s2) c3 (hin (by omega)) (fun i h => .inl h)
  have hi5 := hI (done.map Prod.fst) [it] [it] w3 w5 hi3 (hin (by omega)) c5.nil (hin (by omega)) (fun i h => .inl h)
  have e1 : done.map Prod.fst ++ [k] = (done ++ [(k, v)]).map Prod.fst := by simp
  refine (hround [it] (done.map Prod.fst) k w5 (hin (by omega)) ⟨done ++ [(k, v)], e1, hI3.sub.2.1, hI3.sub.1⟩ hi5).mono ?_
  rintro e w4 ⟨s4, ⟨rfl, hi4, hs4⟩ | ⟨rfl, hx4⟩⟩
  ·refine ⟨true, rfl, fun h => by simp at h, fun _ => ⟨⟨done ++ [(k, v)], by rw [← e1]; exact hi4, hI5.eq (hs4 it (by simp)) (hs4 m (by simp)), by omega⟩, ?_⟩⟩
   have a1 := hIt.count
   have a2 := hI5.count
   have a3 := hIt.more hkl hnew
   have a4 : seenN w4 it = seenN w5 it := by unfold seenN; rw [hs4 it (by simp)]
   simp at a2
   simp only []
   omega
  ·exact ⟨false, rfl, fun _ => ⟨[it], hin (by omega), .inr ⟨_, ⟨done ++ [(k, v)], e1, hI3.sub.2.1, hI3.sub.1⟩, hx4⟩⟩, fun h => by simp at h⟩
theorem sorted_placesQ {w : World} {fv : Value} {S Sp : List (Int × Int) → Prop} {keep : List Nat} (hf : IsFn Tryz.prog fv) (hi : Iterates Tryz.prog fv (fun x : Int × Int => #[.agg #[.int .i64 x.1, .int .i64 x.2]]) S Sp keep w) (hk : ∀ i ∈ keep, i < w.heap.size)
  (hle : ∀ pre, Sp pre → pre.length ≤ 1000000000000) (hSp : ∀ xs, S xs → Sp xs) :
  Calls Tryz.prog 30 #[fv, .func (.func 32) #[] #[]] w fun e w' => ∃ (p : Option Addr) (n c : Nat), e = .returned (.slice p n c) ∧ ∃ xs ys : List (Int × Int), S xs ∧ ys.Perm xs ∧ ys.Pairwise (fun a b => ¬ ltPl b a) ∧ n = ys.length ∧ RowAt w' 25 2 p n c (ys.flatMap encPl) ∧ Chg [] w w' ∧ ∀ b ∈ rowB p, w.heap.size ≤ b := by
 refine go_slices_SortedFunc_841 _ _ _ _ ?_
 unfold W_slices_SortedFunc_841
 refine (go_slices_Collect_841 _ _ (fun p n c w' => ∃ xs, S xs ∧ n = xs.length ∧ RowAt w' 25 2 p n c (xs.flatMap encPl) ∧ Chg [] w w' ∧ ∀ b ∈ rowB p, w.heap.size ≤ b) ?_).mono ?_
 ·unfold W_slices_Collect_841
  refine (append_pseq hf hi hk hle).mono ?_
  rintro _ w1 ⟨p, n, c, rfl, h⟩
  exact ⟨p, n, c, rfl, h⟩
 rintro _ w1 ⟨p, n, c, rfl, xs, hS, hn, hr, c1, hb⟩
 refine ⟨p, n, c, rfl, ?_⟩
 refine (sort_placesQ hr hn (by have := hle _ (hSp _ hS); omega)).mono ?_
 rintro _ w2 ⟨rfl, ys, hp, hs, hr2, c2⟩
 exact ⟨rfl, xs, ys, hS, hp, hs, by rw [hp.length_eq]; exact hn, hr2, c1.trans c2 (fun i hi hlt => by have := hb i hi; omega), hb⟩
end Go.Proofs.YtfcfkhbkkfpehaaGreatDoor
end
