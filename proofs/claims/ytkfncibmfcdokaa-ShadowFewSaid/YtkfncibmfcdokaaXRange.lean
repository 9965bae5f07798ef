/- Ranges over functions: the engine's rules within a round; what an iterator does; the statement. -/
import Derived.Test.YtkfncibmfcdokaaXLoc
import Derived.RangeFuncSeq
import Derived.RangeFuncRecord
import Derived.RangeFuncLeaves
import Derived.TacticsIn
set_option linter.unusedVariables false
set_option linter.unusedSimpArgs false
set_option linter.unusedSectionVars false
namespace Go.XR
open Go Go.X Go.RowKit

def FR (ro : Option Nat) : Fence := { Fence.wide with round := ro }
theorem FR.fn (ro : Option Nat) (f : FuncId) : (FR ro).fn f := trivial
theorem FR.callsIn {ro : Option Nat} {n : Nat} {P : Program} {f : FuncId} {args : Array Value} {w : World} {R : Ending → World → Prop} (h : Calls P f args w R) : CallsIn (FR ro) n P f args w R := callsIn_wide.2 h

def isDefer (o : Oper) : Bool := match o.op with | .defer _ => true | _ => false
theorem semAt_of {ro : Option Nat} {o : Oper} (h : isDefer o = false) (ρ : Operand → Value) : Oper.semAt ro ρ o = execOp ρ o :=
  Oper.semAt_eq ro ρ o fun c hc => by simp [isDefer, hc] at h

section
variable {ro : Option Nat} {P : Program} {N : Nat} {D : List Deferred} {Q : Exit → Act → World → Prop} {E : Env} {w w' : World}

def CW (ro : Option Nat) (P : Program) (N : Nat) (D : List Deferred) (c : Code) (Q : Exit → Act → World → Prop) (E : Env) (w : World) : Prop := ∀ a, Sat N D E a → c.wpIn (FR ro) 0 P Q a w
theorem CW.plain {c : Code} (h : X.CW P N D c Q E w) : CW none P N D c Q E w := fun a ha => wpIn_wide.2 (h a ha)
theorem _root_.Go.X.CW.plain' {c : Code} (h : X.CW P N D c Q E w) : CW none P N D c Q E w := fun a ha => wpIn_wide.2 (h a ha)
theorem CW.un {c : Code} (h : CW none P N D c Q E w) : X.CW P N D c Q E w := fun a ha => wpIn_wide.1 (h a ha)
theorem CW.sub {c : Code} {F : Env} (s : Sub E F) (h : CW ro P N D c Q E w) : CW ro P N D c Q F w := fun a ha => h a (ha.sub s)
theorem CW.seq {x y : Code} (h : CW ro P N D x (Exit.then (y.wpIn (FR ro) 0 P Q) Q) E w) : CW ro P N D (.seq x y) Q E w := fun a ha => wpIn_seq (h a ha)
theorem NW.then {y : Code} (h : CW ro P N D y Q E w) : NW N D (Exit.then (y.wpIn (FR ro) 0 P Q) Q) E w := fun a ha => h a ha
theorem CW.skip (h : NW N D Q E w) : CW ro P N D .skip Q E w := fun a ha => wpIn_skip (h a ha)
theorem CW.label {l : Nat} (h : NW N D Q E w) : CW ro P N D (.label l) Q E w := fun a ha => wpIn_label (h a ha)
theorem CW.cond {c : Operand} {x y : Code} {b : Bool} (hc : opd E c = some (.bool b)) (h1 : b = true → CW ro P N D x Q E w) (h2 : b = false → CW ro P N D y Q E w) : CW ro P N D (.cond c x y) Q E w :=
  fun a ha => wpIn_cond_split (ha.eval hc) (fun hb => h1 hb a ha) (fun hb => h2 hb a ha)
theorem CW.block {id : Nat} {c : Code} (h : CW ro P N D c (Exit.inBlock id Q) E w) : CW ro P N D (.block id c) Q E w := fun a ha => wpIn_block (h a ha)
theorem CW.exit {id : Nat} (h : XW N D id Q E w) : CW ro P N D (.exit id) Q E w := fun a ha => wpIn_exit (h a ha)
theorem CW.ret (h : RW N D Q E w) : CW ro P N D .ret Q E w := fun a ha => wpIn_ret (h a ha)
theorem CW.goto {l : Nat} (h : GW N D l Q E w) : CW ro P N D (.goto l) Q E w := fun a ha => wpIn_goto (h a ha)
theorem CW.cut {S : Type} {x y : Code} (Ek : S → Env) (I : S → World → Prop) (hk : ∀ s w, I s w → CW ro P N D y Q (Ek s) w)
    (h : CW ro P N D x (Exit.then (fun a w => ∃ s, Sat N D (Ek s) a ∧ I s w) Q) E w) : CW ro P N D (.seq x y) Q E w := fun a ha =>
  wpIn_seq (wpIn_mono (h a ha) fun e a' w' hq => by
    cases e with
    | normal => obtain ⟨s, hs, hI⟩ := hq; exact hk s w' hI a' hs
    | _ => exact hq)
theorem CW.loop {S : Type} {c : Code} (El : S → Env) (I : S → World → Prop) (μ : S → World → Nat) (s₀ : S) (hs : Sub (El s₀) E) (hI : I s₀ w)
    (round : ∀ s w, I s w → CW ro P N D c (Exit.then (fun a' w' => ∃ s', Sat N D (El s') a' ∧ (I s' w' ∧ μ s' w' < μ s w)) Q) (El s) w) : CW ro P N D (.loop c) Q E w := by
  intro a ha b k cs hro hb hr
  have key : ∀ j s a w, μ s w = j → Sat N D (El s) a → I s w →
      ∃ e a' w', Q e a' w' ∧ ArrivesIn (Machine.fenced P (FR ro)) P (lone (b.atR a (.code c :: .inLoop c :: k)) cs w) b k cs e a' w' := by
    intro j
    induction j using Nat.strongRecOn with
    | _ j ih =>
      intro s a w hn ha hI
      obtain ⟨e, a₁, w₁, hq, harr⟩ := round s w hI a ha b (.inLoop c :: k) cs hro hb hr
      cases e with
      | normal =>
        obtain ⟨s', hs', hI', hlt⟩ := hq
        obtain ⟨e₂, a₂, w₂, hq₂, harr₂⟩ := ih (μ s' w₁) (hn ▸ hlt) s' a₁ w₁ rfl hs' hI'
        exact ⟨e₂, a₂, w₂, hq₂, .of_steps (StepsIn.trans harr (.one (fenced_calm hb hr rfl) stepR_inLoop)) harr₂⟩
      | exit id => exact ⟨_, a₁, w₁, hq, .pass (x := .inLoop c) rfl (fun _ _ => .inl (by simp)) harr⟩
      | goto l => exact ⟨_, a₁, w₁, hq, .pass (x := .inLoop c) rfl (fun _ _ => .inl (by simp)) harr⟩
      | ret => exact ⟨_, a₁, w₁, hq, .pass (x := .inLoop c) rfl (fun _ _ => .inl (by simp)) harr⟩
      | panic ch => exact ⟨_, a₁, w₁, hq, .pass (x := .inLoop c) rfl (fun _ _ => .inl (by simp)) harr⟩
      | outgrown => exact ⟨_, a₁, w₁, hq, .pass (x := .inLoop c) rfl (fun _ _ => .inl (by simp)) harr⟩
  obtain ⟨e, a', w', hq, harr⟩ := key _ s₀ a w rfl (ha.sub hs) hI
  exact ⟨e, a', w', hq, .of_steps (.one (fenced_calm hb hr rfl) stepR_loop) harr⟩
end

/-! ### A region in the text's order -/
/-- A call of a function value: a function's, or a round's. -/
def CallsY (P : Program) (fv : Value) (args : Array Value) (w : World) (R : Ending → World → Prop) : Prop :=
  X.CallsV P fv args w R ∨ ∃ l, fv = .func (.yield l) #[] #[] ∧ YieldAt Fence.wide 0 P l args w R
theorem CallsY.mono {P : Program} {fv : Value} {args : Array Value} {w : World} {R R' : Ending → World → Prop} (h : CallsY P fv args w R) (k : ∀ e w', R e w' → R' e w') : CallsY P fv args w R' := by
  rcases h with ⟨f, cap, fn, h1, h2, h3, h4, h5⟩ | ⟨l, h1, fn, tmps, as', bd, h2, h3⟩
  · exact .inl ⟨f, cap, fn, h1, h2, h3, h4, h5.mono k⟩
  · exact .inr ⟨l, h1, fn, tmps, as', bd, h2, h3.mono k⟩
section
variable {ro : Option Nat} {P : Program} {N : Nat} {D : List Deferred} {ops : Array Oper} {Q : Exit → Act → World → Prop} {E : Env} {w w' : World} {L : Nat → Env → World → Prop} {i : Nat} {o : Oper} {v : Value}
def LW (ro : Option Nat) (P : Program) (N : Nat) (D : List Deferred) (ops : Array Oper) (Q : Exit → Act → World → Prop) (i : Nat) (E : Env) (w : World) : Prop :=
  ∀ a, Sat N D E a → wpListIn (FR ro) 0 P ops Q (ops.toList.drop i) a w
theorem CW.region {id : Nat} (h : ∀ L, L = LW ro P N D ops Q → L 0 E w) : CW ro P N D (.region id ops false) Q E w :=
  fun a ha => wpIn_region_list (by have := h _ rfl a ha; simpa using this)
theorem LW.step (hL : L = LW ro P N D ops Q) (ho : ops[i]? = some o) (hw : Wants N ops E o)
    (h : ∀ a, Sat N D E a → o.wpIn (FR ro) 0 P a w (wpListIn (FR ro) 0 P ops Q (ops.toList.drop (i + 1))) Q) : L i E w := by
  subst hL
  intro a ha
  rw [drop_at ho]
  unfold wpListIn
  rw [if_pos (hw _ _ ha)]
  exact h a ha
theorem LW.val (hL : L = LW ro P N D ops Q) (ho : ops[i]? = some o) (hw : Wants N ops E o) (hd : okd N o.dst = true)
    (hv : ∀ a, Sat N D E a → (execOp a.eval o).run P w = .ok (.value v) w') (k : L (i + 1) (putE o.dst v E) w') (hn : isDefer o = false := by rfl) : L i E w :=
  LW.step hL ho hw fun a ha => by
    refine ⟨fun _ _ => trivial, ?_⟩
    rw [semAt_of hn, hv a ha, Oper.uponIn_value]
    rw [hL] at k; exact k _ (ha.put hd)
theorem LW.rd (hL : L = LW ro P N D ops Q) (ho : ops[i]? = some o) (hw : Wants N ops E o) (hd : okd N o.dst = true)
    (hv : Rd P N D E o v (fun w' => w' = w)) (k : L (i + 1) (putE o.dst v E) w) (hn : isDefer o = false := by rfl) : L i E w := LW.val hL ho hw hd (fun a ha => hv a ha w rfl) k hn
theorem LW.eff (hL : L = LW ro P N D ops Q) (ho : ops[i]? = some o) (hw : Wants N ops E o) (hd : okd N o.dst = true)
    (hv : ∀ a, Sat N D E a → (execOp a.eval o).run P w = .ok .skip w') (k : L (i + 1) (putE o.dst undef E) w') (hn : isDefer o = false := by rfl) : L i E w :=
  LW.step hL ho hw fun a ha => by
    refine ⟨fun _ _ => trivial, ?_⟩
    rw [semAt_of hn, hv a ha, Oper.uponIn_skip]
    rw [hL] at k; exact k _ (ha.put hd)
theorem LW.call {f : Nat} {args : Array Value} {R : Ending → World → Prop} (hL : L = LW ro P N D ops Q) (ho : ops[i]? = some o) (hw : Wants N ops E o) (hd : okd N o.dst = true)
    (hv : ∀ a, Sat N D E a → (execOp a.eval o).run P w = .ok (.enter f args) w') (hc : Calls P f args w' R)
    (k : ∀ e w'', R e w'' → ∃ v, e = .returned v ∧ L (i + 1) (putE o.dst v E) w'') (hn : isDefer o = false := by rfl) : L i E w :=
  LW.step hL ho hw fun a ha => by
    refine ⟨fun _ _ => trivial, ?_⟩
    rw [semAt_of hn, hv a ha, Oper.uponIn_enter]
    refine ⟨fun h => (by cases h), FR.callsIn (hc.mono fun e w'' hR => ?_)⟩
    obtain ⟨v, rfl, hk⟩ := k e w'' hR
    rw [hL] at hk; exact hk _ (ha.put hd)
theorem LW.skip (hL : L = LW ro P N D ops Q) (ho : ops[i]? = some o) (hs : Skips N ops E o) (hd : okd N o.dst = true) (k : L (i + 1) (putE o.dst undef E) w) : L i E w := by
  subst hL
  intro a ha
  rw [drop_at ho]
  unfold wpListIn
  rw [if_neg (by rw [hs _ _ ha]; simp)]
  exact ⟨fun _ _ => trivial, k _ (ha.put hd)⟩
theorem LW.nil (hL : L = LW ro P N D ops Q) (hi : ops[i]? = none) (k : NW N D Q E w) : L i E w := by
  subst hL
  intro a ha
  have : ops.toList.drop i = [] := List.drop_eq_nil_of_le (by simpa using hi)
  rw [this]; exact k a ha
theorem LW.sub (hL : L = LW ro P N D ops Q) {F : Env} (s : Sub E F) (k : L i E w) : L i F w := by
  subst hL; exact fun a ha => k a (ha.sub s)
/-- A call of a function value. -/
theorem LW.callY {x : Operand} {args : Array Operand} {ts : Array TypeId} {d : Option Nat} {T : TypeId} {p : String} {af : Array Edge} {gd : Option (Nat × Bool)} {fv : Value} {vs : List Value} {R : Ending → World → Prop}
    (hL : L = LW none P N D ops Q) (ho : ops[i]? = some ⟨d, .call ⟨.value x, args, ts⟩, T, p, af, gd⟩) (hw : Wants N ops E ⟨d, .call ⟨.value x, args, ts⟩, T, p, af, gd⟩) (hd : okd N d = true)
    (hx : opd E x = some fv) (ha' : opdL E args.toList = some vs) (hc : CallsY P fv vs.toArray w R)
    (k : ∀ e w'', R e w'' → ∃ v, e = .returned v ∧ L (i + 1) (putE d v E) w'') : L i E w := by
  rcases hc with ⟨f, cap, fn, rfl, h2, h3, h4, h5⟩ | ⟨l, rfl, fn, tmps, as', bd, h2, h3⟩
  · exact LW.call hL ho hw hd (Cl.fv hx ha' h2 h3 h4) h5 k
  · refine LW.step hL ho hw fun a ha => ⟨fun _ _ => trivial, ?_⟩
    have e1 : (execOp a.eval ⟨d, .call ⟨.value x, args, ts⟩, T, p, af, gd⟩).run P w = .ok (.round l fn tmps as' bd) w := by
      have e2 : args.map a.eval = vs.toArray := opdL_map ha ha'
      simp [execOp, resolve, ha.eval hx, Deferred.ofValue, invoke, e2, h2]
    rw [semAt_of rfl, e1, Oper.uponIn_round]
    refine ⟨fun h => (by cases h), h3.mono fun e w'' hR => ?_⟩
    obtain ⟨v, rfl, hk⟩ := k e w'' hR
    rw [hL] at hk; exact hk _ (ha.put hd)
end

/-! ### Iterators, and the statement -/
/-- Blocks that are newer than a world. -/
def InO (w0 : World) (O : List Nat) (W : World) : Prop := ∀ i ∈ O, w0.heap.size ≤ i ∧ i < W.heap.size
/-- It stands whatever becomes of the others' blocks O, which may grow. -/
def Stab (w0 : World) (I : List Nat → World → Prop) : Prop := ∀ O O' W W', I O W → InO w0 O W → Chg O W W' → InO w0 O' W' → (∀ i ∈ O', i ∈ O ∨ W.heap.size ≤ i) → I O' W'
/-- What an iterator does: it hands elements to yield, whole sequences S, beginnings Sp; it turns none but its own blocks; the blocks keep, and its own, are to be left as they are. -/
def Iterates {α : Type} (P : Program) (fv : Value) (enc : α → Array Value) (S Sp : List α → Prop) (keep : List Nat) (w : World) : Prop :=
  ∀ (W : World) (yv : Value) (I Ix : List Nat → List α → World → Prop), Chg [] w W → (∀ pre, Stab W (fun O => I O pre)) → (∀ pre, Stab W (fun O => Ix O pre)) → I [] [] W →
    (∀ Own pre x W1, InO W Own W1 → Sp (pre ++ [x]) → I Own pre W1 → CallsY P yv (enc x) W1 fun e W' => W1.heap.size ≤ W'.heap.size ∧
      ((e = .returned (.bool true) ∧ I Own (pre ++ [x]) W' ∧ Same W1 W' (keep ++ Own)) ∨ (e = .returned (.bool false) ∧ Ix Own (pre ++ [x]) W'))) →
    X.CallsV P fv #[yv] W fun e W' => (∃ v, e = .returned v) ∧ ∃ Own, InO W Own W' ∧ ((∃ xs, S xs ∧ I Own xs W') ∨ ∃ pre, Sp pre ∧ Ix Own pre W')

def envPs : List Tmp → List Value → Env → Env
  | p :: ps, v :: vs, E => envPs ps vs ((p, v) :: E)
  | _, _, E => E
theorem sat_ps {N : Nat} : ∀ (ps : List Tmp) (vs : List Value) (E : Env) (tmps : Array Value), (∀ p ∈ ps, Nat.blt p N = true) → Sat N [] E { tmps := tmps, defers := [] } →
    Sat N [] (envPs ps vs E) { tmps := (ps.zip vs).foldl (fun t (p, v) => t.setIfInBounds p v) tmps, defers := [] }
  | [], _, E, tmps, _, h => by simpa [envPs] using h
  | p :: ps, [], E, tmps, _, h => by simpa [envPs] using h
  | p :: ps, v :: vs, E, tmps, hp, h => by
    have h1 : Sat N [] ((p, v) :: E) { tmps := tmps.setIfInBounds p v, defers := [] } := by
      have := h.put (d := some p) (v := v) (by simpa [okd] using hp p (.head _))
      simpa [putE, Act.put] using this
    simpa [envPs] using sat_ps ps vs ((p, v) :: E) _ (fun q hq => hp q (.tail _ hq)) h1

theorem Chg.putObj {w : World} {l : Nat} (o : Obj) : Chg [l] w (w.putObj l o) := Chg.put

section
variable {P : Program} {N : Nat} {D : List Deferred} {Q : Exit → Act → World → Prop} {E : Env} {w : World} {α : Type}
/-- What is asked at a round's end. -/
def EndQ (keep O : List Nat) (I : List Nat → List α → World → Prop) (Ix : Code → List Nat → List α → World → Prop) (pre : List α) (W₂ : World) : Exit → Act → World → Prop
  | .normal, _, W' => W₂.heap.size ≤ W'.heap.size ∧ I O pre W' ∧ Same W₂ W' (keep ++ O)
  | .ret, _, W' => W₂.heap.size ≤ W'.heap.size ∧ Ix .ret O pre W' ∧ Same W₂ W' (keep ++ O)
  | .exit id, _, W' => W₂.heap.size ≤ W'.heap.size ∧ Ix (.exit id) O pre W' ∧ Same W₂ W' (keep ++ O)
  | .goto t, _, W' => W₂.heap.size ≤ W'.heap.size ∧ Ix (.goto t) O pre W' ∧ Same W₂ W' (keep ++ O)
  | .panic _, _, _ => False
  | .outgrown, _, _ => False
/-- What is asked behind the assignment to the loop's variables. -/
def BeginK (P : Program) (l : Nat) (keep O : List Nat) (I : List Nat → List α → World → Prop) (Ix : Code → List Nat → List α → World → Prop) (pre : List α) (x : α) (body : Code) (W : World) (a₁ : Act) (W₁ : World) : Prop :=
  Chg [] W W₁ ∧ ∀ W₂, Chg [l] W₁ W₂ → InO W O W₂ ∨ True → (∃ r, W₁.heap[l]? = some (.loop r)) → I O pre W₂ → body.wpIn (FR (some l)) 0 P (EndQ keep O I Ix (pre ++ [x]) W₂) a₁ W₂
def mk (d : Nat) : Deferred := { target := .collected d, args := #[] }

theorem CW.rangeFunc {g : Operand} {ps : Array Tmp} {assign body : Code} {gf : Nat} {fn : Func} {lb : Array Value} (hg : opd E g = some (.func (.func gf) #[] lb)) (hgf : P.funcs[gf]? = some fn) (hgn : (fn.name == "runtime.NumGoroutine") = false) (hgb : fn.body.isNone = false)
    {enc : α → Array Value} (hps : ∀ x, (enc x).size = ps.size) (hpN : ∀ p ∈ ps.toList, Nat.blt p N = true) {S Sp : List α → Prop} {keep : List Nat} (hseq : Iterates P (.func (.func gf) #[] lb) enc S Sp keep w)
    (I : List Nat → List α → World → Prop) (Ix : Code → List Nat → List α → World → Prop) (hI : ∀ pre, Stab w (fun O => I O pre)) (hIx : ∀ c pre, Stab w (fun O => Ix c O pre))
    (h0 : ∀ O W, Chg [] w W → InO w O W → I O [] W) (hkeep : ∀ i ∈ keep, i < w.heap.size)
    (hround : ∀ (l : Nat) (O : List Nat) (pre : List α) (x : α) (W : World), InO w O W → l ∈ O → Sp (pre ++ [x]) → I O pre W →
      CW (some l) P N [] assign (Exit.then (BeginK P l keep O I Ix pre x body W) (fun _ _ _ => False)) (envPs ps.toList (enc x).toList E) W)
    (hdone : ∀ (d : Nat) (O : List Nat) (xs : List α) (W : World), InO w O W → d ∈ O → W.heap[d]? = some (.deferred (some [])) → S xs → I O xs W → NW N (mk d :: D) Q E W)
    (hstop : ∀ (d : Nat) (c : Code) (O : List Nat) (pre : List α) (W : World), InO w O W → d ∈ O → W.heap[d]? = some (.deferred (some [])) → Sp pre → Ix c O pre W → CW none P N (mk d :: D) c Q E W) :
    CW none P N D (.rangeFunc g ps assign body) Q E w := by
  intro a ha
  refine wpIn_rangeFunc ?_
  intro fnc hfn
  have hro : (FR none).round = none := rfl
  rw [hro]
  obtain ⟨rec, hrec⟩ : ∃ rec : LoopState → Option Code → Loop, rec = fun st pe => { state := st, pending := pe, fn := fnc, tmps := a.tmps, params := ps, assign, body, defers := w.heap.size } := ⟨_, rfl⟩
  obtain ⟨W1, hW1⟩ : ∃ W1, (w.alloc (.deferred (some []))).alloc (.loop (rec .ready none)) = W1 := ⟨_, rfl⟩
  have hL1 : W1.heap[w.heap.size + 1]? = some (.loop (rec .ready none)) := by
    rw [← hW1]; have := World.alloc_heap_new (w.alloc (.deferred (some []))) (.loop (rec .ready none)); rwa [World.size_alloc] at this
  have hK1 : W1.heap[w.heap.size]? = some (.deferred (some [])) := by
    rw [← hW1]; exact (Below.heap_alloc _ _ _ (by simp)).trans (World.alloc_heap_new w _)
  have c1 : Chg [] w W1 := by rw [← hW1]; exact (Chg.alloc _ _).trans0 (Chg.alloc _ _)
  have hs1 : W1.heap.size = w.heap.size + 2 := by rw [← hW1]; simp
  generalize hl : w.heap.size + 1 = l at hL1
  have hsat0 : Sat N [] E { tmps := a.tmps, defers := [] } := ⟨ha.size, rfl, ha.get⟩
  refine ⟨l, [mk w.heap.size], W1, { target := .fn (.func gf) lb, args := #[.func (.yield l) #[] #[]] }, W1, gf, #[.func (.yield l) #[] #[]] ++ lb, W1, ?_, ?_, ?_, ?_, fun h => (by cases h), ?_⟩
  · rw [← hW1, hrec, ← hl]; exact run_enterLoop_outer _ _ _ _ _
  · simp only [resolve, ha.eval hg]
    simp [go_sem]
  · intro f' hf'; trivial
  · simp [invoke, go_sem, run_call hgf hgn hgb]
  refine FR.callsIn ?_
  have hOK : ∀ (A B : World) (Own Own' : List Nat), InO W1 Own A → InO W1 Own' B → (∀ i ∈ Own', i ∈ Own ∨ A.heap.size ≤ i) → Chg Own A B → W1.heap.size ≤ A.heap.size →
      InO w (Own ++ [l, w.heap.size]) A ∧ InO w (Own' ++ [l, w.heap.size]) B ∧ (∀ i ∈ Own' ++ [l, w.heap.size], i ∈ Own ++ [l, w.heap.size] ∨ A.heap.size ≤ i) ∧ Chg (Own ++ [l, w.heap.size]) A B ∧ l ∉ Own ∧ w.heap.size ∉ Own := by
    intro A B Own Own' h1 h2 h3 h4 h5
    have h6 := h4.size
    refine ⟨fun i hi => ?_, fun i hi => ?_, fun i hi => ?_, h4.mono (fun i hi _ => List.mem_append_left _ hi), fun hm => ?_, fun hm => ?_⟩
    · rcases List.mem_append.1 hi with hi | hi
      · have := h1 i hi; omega
      · simp at hi; omega
    · rcases List.mem_append.1 hi with hi | hi
      · have := h2 i hi; omega
      · simp at hi; omega
    · rcases List.mem_append.1 hi with hi | hi
      · exact (h3 i hi).imp (List.mem_append_left _) id
      · exact .inl (List.mem_append_right _ hi)
    · have := h1 _ hm; omega
    · have := h1 _ hm; omega
  have hit := hseq W1 (.func (.yield l) #[] #[])
    (fun Own pre W => I (Own ++ [l, w.heap.size]) pre W ∧ W1.heap.size ≤ W.heap.size ∧ W.heap[l]? = some (.loop (rec .ready none)) ∧ W.heap[w.heap.size]? = some (.deferred (some [])))
    (fun Own pre W => ∃ c, Ix c (Own ++ [l, w.heap.size]) pre W ∧ W1.heap.size ≤ W.heap.size ∧ W.heap[l]? = some (.loop (rec .done (some c))) ∧ W.heap[w.heap.size]? = some (.deferred (some [])))
    c1
    (fun pre Own Own' A B h hO hc hO' hg => by
      obtain ⟨k1, k2, k3, k4, k5, k6⟩ := hOK A B Own Own' hO hO' hg hc h.2.1
      exact ⟨hI pre _ _ A B h.1 k1 k4 k2 k3, by have := hc.size; have := h.2.1; omega, hc.obj k5 h.2.2.1, hc.obj k6 h.2.2.2⟩)
    (fun pre Own Own' A B h hO hc hO' hg => by
      obtain ⟨c, h1, h2, h3, h4⟩ := h
      obtain ⟨k1, k2, k3, k4, k5, k6⟩ := hOK A B Own Own' hO hO' hg hc h2
      exact ⟨c, hIx c pre _ _ A B h1 k1 k4 k2 k3, by have := hc.size; omega, hc.obj k5 h3, hc.obj k6 h4⟩)
    ⟨h0 _ W1 c1 (fun i hi => by simp at hi; omega), Nat.le_refl _, hL1, hK1⟩ ?_
  · obtain ⟨f', cap', fn', he, hf', hn', hb', hcalls⟩ := hit
    cases he
    refine hcalls.mono ?_
    rintro e W' ⟨⟨v, rfl⟩, Own, hOwn, hres⟩
    have hsz : ∀ {A : World} (o : Obj), (A.putObj l o).heap.size = A.heap.size := fun o => by simp [World.putObj]
    have hInO : ∀ {A : World}, W1.heap.size ≤ A.heap.size → InO W1 Own A → InO w (Own ++ [l, w.heap.size]) A := fun h1 h2 i hi => by
      rcases List.mem_append.1 hi with hi | hi
      · have := h2 i hi; omega
      · simp at hi; omega
    have hput : ∀ {A : World} (o : Obj) (J : List Nat → World → Prop), Stab w J → W1.heap.size ≤ A.heap.size → InO W1 Own A → J (Own ++ [l, w.heap.size]) A → J (Own ++ [l, w.heap.size]) (A.putObj l o) := fun o J hJ h1 h2 hj =>
      hJ _ _ _ _ hj (hInO h1 h2) ((Chg.putObj o).mono (fun i hi _ => by simp at hi; simp [hi])) (by
        have := hInO h1 h2
        intro i hi; rw [hsz]; exact this i hi) (fun i hi => .inl hi)
    rcases hres with ⟨xs, hS, hi, hle, hlp, hk⟩ | ⟨pre, hSp, c, hi, hle, hlp, hk⟩
    · refine ⟨none, _, by have := run_endLoop (P := P) hlp (by rw [hrec]; simp); rw [hrec] at this; exact this, ?_⟩
      have hA : Sat N (mk w.heap.size :: D) E { a with defers := [mk w.heap.size] ++ a.defers } := ⟨ha.size, by simp [ha.defers], ha.get⟩
      exact hdone w.heap.size (Own ++ [l, w.heap.size]) xs _ (fun i hi' => by rw [hsz]; exact hInO hle hOwn i hi') (by simp) ((World.putObj_heap_other (by omega)).trans hk) hS (hput _ (fun O => I O xs) (hI xs) hle hOwn hi) _ hA
    · refine ⟨some c, _, by have := run_endLoop (P := P) hlp (by rw [hrec]; simp); rw [hrec] at this; exact this, ?_⟩
      have hA : Sat N (mk w.heap.size :: D) E { a with defers := [mk w.heap.size] ++ a.defers } := ⟨ha.size, by simp [ha.defers], ha.get⟩
      exact hstop w.heap.size c (Own ++ [l, w.heap.size]) pre _ (fun i hi' => by rw [hsz]; exact hInO hle hOwn i hi') (by simp) ((World.putObj_heap_other (by omega)).trans hk) hSp (hput _ (fun O => Ix c O pre) (hIx c pre) hle hOwn hi) _ hA
  · rintro Own pre x W hOwn hSp ⟨hI0, hle, hlp, hk⟩
    have hlt : l < W.heap.size := lt_of_heap hlp
    have hy := run_yield (P := P) (args := enc x) hlp (by rw [hrec]; exact hps x)
    rw [hrec] at hy
    have hInO : InO w (Own ++ [l, w.heap.size]) W := fun i hi => by
      rcases List.mem_append.1 hi with hi | hi
      · have := hOwn i hi; omega
      · simp at hi; omega
    have hrd := hround l (Own ++ [l, w.heap.size]) pre x W hInO (by simp) hSp hI0
    have hsat := sat_ps ps.toList (enc x).toList E a.tmps hpN hsat0
    have hr2 := hrd _ hsat
    have htm : (ps.zip (enc x)).foldl (fun t (p, v) => t.setIfInBounds p v) a.tmps = (ps.toList.zip (enc x).toList).foldl (fun t (p, v) => t.setIfInBounds p v) a.tmps := by
      rw [← Array.foldl_toList, Array.toList_zip]
    refine .inr ⟨l, rfl, fnc, _, assign, body, hy, ?_⟩
    rw [htm]
    refine roundIn_of_wpIn (F := Fence.wide) trivial ?_
    refine wpIn_mono hr2 ?_
    intro e a₁ W₁ hq
    cases e with
    | normal =>
      obtain ⟨hc1, hbody⟩ := hq
      have hl1 := hc1.obj (by simp) hlp
      have hk1 := hc1.obj (by simp) hk
      have hW2 := run_beginRound (P := P) hl1 (by rw [hrec])
      refine ⟨_, hW2, ?_⟩
      generalize hW2e : W₁.putObj l (.loop { rec .ready none with state := .busy }) = W₂ at hW2
      have c2 : Chg [l] W₁ W₂ := by rw [← hW2e]; exact Chg.putObj _
      have hl2 : W₂.heap[l]? = some (.loop { rec .ready none with state := .busy }) := by rw [← hW2e]; exact World.putObj_heap_same (lt_of_heap hl1)
      have hk2 : W₂.heap[w.heap.size]? = some (.deferred (some [])) := by rw [← hW2e]; exact (World.putObj_heap_other (by omega)).trans hk1
      have hs12 := hc1.size
      have hs22 := c2.size
      have hInO2 : InO w (Own ++ [l, w.heap.size]) W₂ := fun i hi => by have := hInO i hi; omega
      have hI2 : I (Own ++ [l, w.heap.size]) pre W₂ := by
        have h1 := hI pre _ (Own ++ [l, w.heap.size]) W W₁ hI0 hInO (hc1.mono (by simp)) (fun i hi => by have := hInO i hi; omega) (fun i hi => .inl hi)
        exact hI pre _ (Own ++ [l, w.heap.size]) W₁ W₂ h1 (fun i hi => by have := hInO i hi; omega) (c2.mono (fun i hi _ => by simp at hi; simp [hi])) hInO2 (fun i hi => .inl hi)
      have hb := hbody W₂ c2 (.inr trivial) ⟨_, hl1⟩ hI2
      refine wpIn_mono hb ?_
      have hsz : ∀ {A : World} (o : Obj), (A.putObj l o).heap.size = A.heap.size := fun o => by simp [World.putObj]
      have hput : ∀ {A : World} (o : Obj) (J : List Nat → World → Prop), Stab w J → W₂.heap.size ≤ A.heap.size → J (Own ++ [l, w.heap.size]) A → J (Own ++ [l, w.heap.size]) (A.putObj l o) := fun {A} o J hJ hle hj => by
        have hin : InO w (Own ++ [l, w.heap.size]) A := fun i hi => by have := hInO2 i hi; omega
        exact hJ _ _ _ _ hj hin ((Chg.putObj o).mono (fun i hi _ => by simp at hi; simp [hi])) (fun i hi => by rw [hsz]; exact hin i hi) (fun i hi => .inl hi)
      have hsame : ∀ {A : World} (o : Obj), Same W₂ A (keep ++ (Own ++ [l, w.heap.size])) → Same W (A.putObj l o) (keep ++ Own) := fun {A} o hs i hi => by
        have hne : i ≠ l := fun e => by
          subst e
          rcases List.mem_append.1 hi with h | h
          · have := hkeep _ h; omega
          · have := hOwn _ h; omega
        have hiW : i < W.heap.size := by
          rcases List.mem_append.1 hi with h | h
          · have := hkeep _ h; have := c1.size; omega
          · exact (hOwn _ h).2
        rw [World.putObj_heap_other hne, hs i (by
          rcases List.mem_append.1 hi with h | h
          · exact List.mem_append_left _ h
          · exact List.mem_append_right _ (List.mem_append_left _ h)), c2.block i (by omega) (by simpa using hne), hc1.block i hiW (by simp)]
      have fin : ∀ (jump : Option Code) (A : World), Same W₂ A (keep ++ (Own ++ [l, w.heap.size])) →
          (Instr.endRound l jump).run P A = .ok (.bool jump.isNone) (A.putObj l (.loop (rec (if jump.isNone then .ready else .done) jump))) ∧ (A.putObj l (.loop (rec (if jump.isNone then .ready else .done) jump))).heap[l]? = some (.loop (rec (if jump.isNone then .ready else .done) jump)) ∧
          (A.putObj l (.loop (rec (if jump.isNone then .ready else .done) jump))).heap[w.heap.size]? = some (.deferred (some [])) := fun jump A hs => by
        have hlA : A.heap[l]? = some (.loop { rec .ready none with state := .busy }) := (hs l (by simp)).trans hl2
        have hkA : A.heap[w.heap.size]? = some (.deferred (some [])) := (hs w.heap.size (by simp)).trans hk2
        have := run_endRound (P := P) jump hlA
        rw [hrec] at this ⊢
        exact ⟨this, World.putObj_heap_same (lt_of_heap hlA), (World.putObj_heap_other (by omega)).trans hkA⟩
      intro e a₃ A hp
      cases e with
      | normal =>
        obtain ⟨hle3, hi3, hs3⟩ := hp
        obtain ⟨f1, f2, f3⟩ := fin none A hs3
        exact ⟨_, _, f1, by rw [hsz]; omega, .inl ⟨rfl, ⟨hput _ (fun O => I O (pre ++ [x])) (hI _) hle3 hi3, by rw [hsz]; omega, f2, f3⟩, hsame _ hs3⟩⟩
      | ret =>
        obtain ⟨hle3, hi3, hs3⟩ := hp
        obtain ⟨f1, f2, f3⟩ := fin (some .ret) A hs3
        exact ⟨_, _, f1, by rw [hsz]; omega, .inr ⟨rfl, .ret, hput _ (fun O => Ix .ret O (pre ++ [x])) (hIx _ _) hle3 hi3, by rw [hsz]; omega, f2, f3⟩⟩
      | exit id =>
        obtain ⟨hle3, hi3, hs3⟩ := hp
        obtain ⟨f1, f2, f3⟩ := fin (some (.exit id)) A hs3
        exact ⟨_, _, f1, by rw [hsz]; omega, .inr ⟨rfl, .exit id, hput _ (fun O => Ix (.exit id) O (pre ++ [x])) (hIx _ _) hle3 hi3, by rw [hsz]; omega, f2, f3⟩⟩
      | goto t =>
        obtain ⟨hle3, hi3, hs3⟩ := hp
        obtain ⟨f1, f2, f3⟩ := fin (some (.goto t)) A hs3
        exact ⟨_, _, f1, by rw [hsz]; omega, .inr ⟨rfl, .goto t, hput _ (fun O => Ix (.goto t) O (pre ++ [x])) (hIx _ _) hle3 hi3, by rw [hsz]; omega, f2, f3⟩⟩
      | panic ch => exact hp.elim
      | outgrown => exact hp.elim
    | exit id => exact hq.elim
    | goto t => exact hq.elim
    | ret => exact hq.elim
    | panic ch => exact hq.elim
    | outgrown => exact hq.elim

theorem NW.begin {l : Nat} {keep O : List Nat} {I : List Nat → List α → World → Prop} {Ix : Code → List Nat → List α → World → Prop} {pre : List α} {x : α} {body : Code} {W W₁ : World} {Q' : Exit → Act → World → Prop}
    (hc : Chg [] W W₁) (h : ∀ W₂, Chg [l] W₁ W₂ → (∃ r, W₁.heap[l]? = some (.loop r)) → I O pre W₂ → CW (some l) P N [] body (EndQ keep O I Ix (pre ++ [x]) W₂) E W₂) :
    NW N [] (Exit.then (BeginK P l keep O I Ix pre x body W) Q') E W₁ := fun a ha => ⟨hc, fun W₂ c _ hl hi => h W₂ c hl hi a ha⟩

/-- A function value that can be called. -/
def IsFn (P : Program) (fv : Value) : Prop := ∃ gf fn lb, fv = .func (.func gf) #[] lb ∧ P.funcs[gf]? = some fn ∧ (fn.name == "runtime.NumGoroutine") = false ∧ fn.body.isNone = false
theorem CW.rangeV {g : Operand} {ps : Array Tmp} {assign body : Code} {fv : Value} (hg : opd E g = some fv) (hf : IsFn P fv)
    {enc : α → Array Value} (hps : ∀ x, (enc x).size = ps.size) (hpN : ∀ p ∈ ps.toList, Nat.blt p N = true) {S Sp : List α → Prop} {keep : List Nat} (hseq : Iterates P fv enc S Sp keep w)
    (I : List Nat → List α → World → Prop) (Ix : Code → List Nat → List α → World → Prop) (hI : ∀ pre, Stab w (fun O => I O pre)) (hIx : ∀ c pre, Stab w (fun O => Ix c O pre))
    (h0 : ∀ O W, Chg [] w W → InO w O W → I O [] W) (hkeep : ∀ i ∈ keep, i < w.heap.size)
    (hround : ∀ (l : Nat) (O : List Nat) (pre : List α) (x : α) (W : World), InO w O W → l ∈ O → Sp (pre ++ [x]) → I O pre W →
      CW (some l) P N [] assign (Exit.then (BeginK P l keep O I Ix pre x body W) (fun _ _ _ => False)) (envPs ps.toList (enc x).toList E) W)
    (hdone : ∀ (d : Nat) (O : List Nat) (xs : List α) (W : World), InO w O W → d ∈ O → W.heap[d]? = some (.deferred (some [])) → S xs → I O xs W → NW N (mk d :: D) Q E W)
    (hstop : ∀ (d : Nat) (c : Code) (O : List Nat) (pre : List α) (W : World), InO w O W → d ∈ O → W.heap[d]? = some (.deferred (some [])) → Sp pre → Ix c O pre W → X.CW P N (mk d :: D) c Q E W) :
    X.CW P N D (.rangeFunc g ps assign body) Q E w := by
  obtain ⟨gf, fn, lb, rfl, h1, h2, h3⟩ := hf
  exact (CW.rangeFunc hg h1 h2 h3 hps hpN hseq I Ix hI hIx h0 hkeep hround hdone (fun d c O pre W a b e f g' => (hstop d c O pre W a b e f g').plain')).un
theorem _root_.Go.X.Boxes.stab {w A B : World} {l l0 : List (Nat × List Value × TypeId)} {O : List Nat} (h : Boxes A l) (h0 : Boxes w l0) (hn : l.map (·.1) = l0.map (·.1)) (hO : InO w O A) (hc : Chg O A B) : Boxes B l :=
  h.chg hc fun x hx hm => by
    have h1 := (hO _ hm).1
    have : x.1 ∈ l0.map (·.1) := hn ▸ List.mem_map.2 ⟨x, hx, rfl⟩
    obtain ⟨y, hy, e⟩ := List.mem_map.1 this
    have := lt_of_heap (h0.heap y hy)
    omega
theorem _root_.Go.X.Boxes.notloop {A B : World} {l : Nat} {bs : List (Nat × List Value × TypeId)} (h : Boxes A bs) (hl : ∃ r, A.heap[l]? = some (.loop r)) (hc : Chg [l] A B) : Boxes B bs :=
  h.chg hc fun x hx hm => by
    simp at hm
    obtain ⟨r, hr⟩ := hl
    have := h.heap x hx
    rw [hm, hr] at this; cases this
theorem _root_.Go.X.Boxes.sameS {w w1 : World} {l : List (Nat × List Value × TypeId)} {ns : List Nat} (h : Boxes w l) (hs : Same w w1 ns) (hl : ∀ x ∈ l, x.1 ∈ ns) : Boxes w1 l := ⟨fun x hx => (hs _ (hl x hx)).trans (h.heap x hx), h.nodup⟩
/-! ### A function with such a statement -/
def Marks (w : World) (ms : List Nat) : Prop := ms.Nodup ∧ ∀ m ∈ ms, w.heap[m]? = some (.deferred (some []))
theorem enterM {f : Nat} {fn : Func} {c : Code} {args : Array Value} {R : Ending → World → Prop} (hf : P.funcs[f]? = some fn) (hb : fn.body = some c) (hN : fn.ntmps = N)
    (h : X.CW P N [] c (bodyPostM Fence.wide 0 P fn R) (envOf 0 args.toList) w) : Calls P f args w R := by
  refine callsIn_wide.1 (callsIn_of_wp_marks (n := 0) hf hb trivial (wpIn_wide.2 (h _ ⟨?_, rfl, fun t v hg => ?_⟩)))
  · rw [← hN]; simp; omega
  · obtain ⟨_, h2⟩ := envOf_get _ _ _ _ hg
    have h3 : args[t]? = some v := by simpa using h2
    obtain ⟨hlt, h4⟩ := Array.getElem?_eq_some_iff.1 h3
    show (args ++ _).getD t undef = v
    simp [Array.getElem?_append_left hlt, h3]
theorem leavesM {fn : Func} {tmps : Array Value} {R : Ending → World → Prop} : ∀ (ms : List Nat) (w : World), Marks w ms → (∀ w', Chg ms w w' → ∃ v, (results fn tmps).run P w' = .ok v w' ∧ R (.returned v) w') →
    LeavesInM Fence.wide 0 P fn tmps R (ms.map mk) .returning w
  | [], w, _, h => by
    obtain ⟨v, h1, h2⟩ := h w (Chg.refl _ _)
    exact ⟨v, h1, h2⟩
  | m :: ms, w, hm, h => by
    obtain ⟨hnd, hall⟩ := hm
    have h1 := hall m (.head _)
    refine ⟨by simp, .inl ⟨m, _, rfl, run_takeDeferred h1, leavesM ms _ ⟨(List.nodup_cons.1 hnd).2, fun k hk => ?_⟩ fun w' hc => h w' ?_⟩⟩
    · have hne : k ≠ m := fun e => (List.nodup_cons.1 hnd).1 (e ▸ hk)
      exact (World.putObj_heap_other hne).trans (hall k (.tail _ hk))
    · exact ((Chg.putObj _).mono (fun i hi _ => by simp at hi; simp [hi])).trans hc (fun i hi _ => List.mem_cons_of_mem _ hi)
theorem resM {fn : Func} {R : Ending → World → Prop} {ms : List Nat} {vs : List Value} {x : Value} (hm : Marks w ms) (hx : x = match vs with | [v] => v | _ => .tuple vs.toArray) (h : ∀ w', Chg ms w w' → ResOK P E w' fn.results.toList vs ∧ R (.returned x) w')
    (a : Act) (ha : Sat N (ms.map mk) E a) : bodyPostM Fence.wide 0 P fn R .ret a w := by
  show LeavesInM Fence.wide 0 P fn a.tmps R a.defers .returning w
  rw [ha.defers]
  refine leavesM ms w hm fun w' hc => ?_
  obtain ⟨h1, hR⟩ := h w' hc
  refine ⟨x, ?_, hR⟩
  have h2 := ResOK.run ha _ _ h1
  change (do let vs ← fn.results.mapM (resF a); pure (if h : vs.size = 1 then vs[0] else .tuple vs) : Sem Value).run P w' = .ok x w'
  rw [Array.mapM_eq_mapM_toList]
  simp only [Sem.run_bind, Sem.run_map, h2, Result.andThen_ok, Sem.run_pure]
  subst hx
  match vs with
  | [] => simp
  | [v] => simp
  | v :: u :: r => simp
theorem res0M {fn : Func} {R : Ending → World → Prop} {vs : List Value} {x : Value} (h : ResOK P E w fn.results.toList vs) (hx : x = match vs with | [v] => v | _ => .tuple vs.toArray) (hR : R (.returned x) w)
    (a : Act) (ha : Sat N [] E a) : bodyPostM Fence.wide 0 P fn R .ret a w := by
  have h0 : bodyPost P fn R .ret a w := resN h hx hR a ha
  obtain ⟨hd, v, h1, h2⟩ := h0
  show LeavesInM Fence.wide 0 P fn a.tmps R a.defers .returning w
  rw [hd]
  exact ⟨v, h1, h2⟩
theorem resMn {fn : Func} {R : Ending → World → Prop} {ms : List Nat} (hm : Marks w ms) (hr : fn.results = #[]) (h : ∀ w', Chg ms w w' → R (.returned (.tuple #[])) w') : NW N (ms.map mk) (bodyPostM Fence.wide 0 P fn R) E w := fun a ha => by
  show LeavesInM Fence.wide 0 P fn a.tmps R a.defers .returning w
  rw [ha.defers]
  exact leavesM ms w hm fun w' hc => ⟨_, results_none hr _ _ _, h w' hc⟩
theorem Marks.stab {w A B : World} {ms O : List Nat} (h : Marks A ms) (h0 : Marks w ms) (hO : InO w O A) (hc : Chg O A B) : Marks B ms :=
  ⟨h.1, fun m hm => hc.obj (fun hm' => by have := (hO _ hm').1; have := lt_of_heap (h0.2 m hm); omega) (h.2 m hm)⟩
theorem Marks.notloop {A B : World} {l : Nat} {ms : List Nat} (h : Marks A ms) (hl : ∃ r, A.heap[l]? = some (.loop r)) (hc : Chg [l] A B) : Marks B ms :=
  ⟨h.1, fun m hm => hc.obj (fun hm' => by
    simp at hm'
    obtain ⟨r, hr⟩ := hl
    have := h.2 m hm
    rw [hm', hr] at this; cases this) (h.2 m hm)⟩
theorem _root_.Go.X.Boxes.marks {w w' : World} {ms : List Nat} {l : List (Nat × List Value × TypeId)} (h : Boxes w l) (hK : Marks w ms) (hc : Chg ms w w') : Boxes w' l :=
  h.chg hc fun x hx hm => by
    have h1 := hK.2 _ hm
    rw [h.heap x hx] at h1; cases h1
theorem Marks.nil (w : World) : Marks w [] := ⟨by simp, by simp⟩
theorem Marks.chg {f ms : List Nat} {w w' : World} (h : Marks w ms) (hc : Chg f w w') (hf : ∀ m ∈ ms, m ∉ f) : Marks w' ms := ⟨h.1, fun m hm => hc.obj (hf m hm) (h.2 m hm)⟩
theorem Marks.same {ms l : List Nat} {w w' : World} (h : Marks w ms) (hs : Same w w' l) (hl : ∀ m ∈ ms, m ∈ l) : Marks w' ms := ⟨h.1, fun m hm => (hs m (hl m hm)).trans (h.2 m hm)⟩
theorem Marks.grow {ms : List Nat} {w w' : World} {o : Obj} (h : Marks w ms) (hw : w' = World.alloc w o) : Marks w' ms := h.chg (f := []) (by subst hw; exact Chg.alloc _ _) (by simp)
theorem Marks.drew {ms : List Nat} {w w' : World} (h : Marks w ms) (hw : w' = World.drew w) : Marks w' ms := h.chg (f := []) (by subst hw; exact Chg.drew _) (by simp)
theorem Marks.set {ms : List Nat} {w w' : World} {b : Nat} {cs : Array Value} {T : TypeId} {fr : Nat × Nat} (h : Marks w ms) (hb : w.heap[b]? = some (.cells cs T fr)) (hc : Chg [b] w w') : Marks w' ms := h.chg hc fun m hm hm' => by
  simp at hm'; subst hm'
  have := h.2 _ hm
  rw [hb] at this; cases this
theorem Marks.cons {ms : List Nat} {w : World} {d : Nat} (h : Marks w ms) (hd : w.heap[d]? = some (.deferred (some []))) (hn : d ∉ ms) : Marks w (d :: ms) := ⟨List.nodup_cons.2 ⟨hn, h.1⟩, fun m hm => by
  rcases List.mem_cons.1 hm with rfl | hm
  · exact hd
  · exact h.2 m hm⟩
theorem Marks.cons2 {ms : List Nat} {w W : World} {d : Nat} (h : Marks W ms) (h0 : Marks w ms) (hd : w.heap.size ≤ d) (hdh : W.heap[d]? = some (.deferred (some []))) : Marks W (d :: ms) :=
  h.cons hdh fun hm => by have := lt_of_heap (h0.2 _ hm); omega
end
end Go.XR
