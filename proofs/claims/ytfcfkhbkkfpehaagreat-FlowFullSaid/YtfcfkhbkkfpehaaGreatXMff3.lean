/- Texts of the claim, merged: XRange XG1 XApply XPol2 XActs XJoin XRefs XRefA XG2 XDoes XGood XPlay12 XG3 XMapIter XG6 XCollect XSort XShCopy XAll XG7 XR03 XShadow3 XG9 XIs XG4 XG5. -/
import Derived.Test.YtfcfkhbkkfpehaaGreatXMff2
import Derived.RangeFuncSeq
import Derived.RangeFuncRecord
import Derived.RangeFuncLeaves
import Derived.TacticsIn
import Derived.Test.YtfcfkhbkkfpehaaGreatProg
import Derived.Shelf.SortM.Plain
import Derived.Shelf.SortM.SortNone
import Derived.Sort.OwnSortedInts
import Derived.Laws.OwnMore
set_option linter.unusedSectionVars false
set_option linter.unusedSimpArgs false
set_option linter.unusedVariables false
set_option maxRecDepth 100000
section
/- Ranges over functions: the engine's rules within a round; what an iterator does; the statement. -/
namespace Go.XR
open Go Go.X Go.RowKit
def FR (ro : Option Nat) : Fence := { Fence.wide with round := ro }
theorem FR.fn (ro : Option Nat) (f : FuncId) : (FR ro).fn f := trivial
theorem FR.callsIn {ro : Option Nat} {n : Nat} {P : Program} {f : FuncId} {args : Array Value} {w : World} {R : Ending → World → Prop} (h : Calls P f args w R) : CallsIn (FR ro) n P f args w R := callsIn_wide.2 h
def isDefer (o : Oper) : Bool := match o.op with | .defer _ => true | _ => false
theorem semAt_of {ro : Option Nat} {o : Oper} (h : isDefer o = false) (ρ : Operand → Value) : Oper.semAt ro ρ o = execOp ρ o :=
 Oper.semAt_eq ro ρ o fun c hc => by simp [isDefer, hc] at h
section
variable {ro : Option Nat} {P : Program} {N : Nat} {D : List Deferred} {Q : Exit → Act → World → Prop} {E : Env} {w w' : World}
def CW (ro : Option Nat) (P : Program) (N : Nat) (D : List Deferred) (c : Code) (Q : Exit → Act → World → Prop) (E : Env) (w : World) : Prop := ∀ a, Sat N D E a → c.wpIn (FR ro) 0 P Q a w
theorem CW.plain {c : Code} (h : X.CW P N D c Q E w) : CW none P N D c Q E w := fun a ha => wpIn_wide.2 (h a ha)
theorem _root_.Go.X.CW.plain' {c : Code} (h : X.CW P N D c Q E w) : CW none P N D c Q E w := fun a ha => wpIn_wide.2 (h a ha)
theorem CW.un {c : Code} (h : CW none P N D c Q E w) : X.CW P N D c Q E w := fun a ha => wpIn_wide.1 (h a ha)
theorem CW.sub {c : Code} {F : Env} (s : Sub E F) (h : CW ro P N D c Q E w) : CW ro P N D c Q F w := fun a ha => h a (ha.sub s)
theorem CW.seq {x y : Code} (h : CW ro P N D x (Exit.then (y.wpIn (FR ro) 0 P Q) Q) E w) : CW ro P N D (.seq x y) Q E w := fun a ha => wpIn_seq (h a ha)
theorem NW.then {y : Code} (h : CW ro P N D y Q E w) : NW N D (Exit.then (y.wpIn (FR ro) 0 P Q) Q) E w := fun a ha => h a ha
theorem CW.skip (h : NW N D Q E w) : CW ro P N D .skip Q E w := fun a ha => wpIn_skip (h a ha)
theorem CW.label {l : Nat} (h : NW N D Q E w) : CW ro P N D (.label l) Q E w := fun a ha => wpIn_label (h a ha)
theorem CW.cond {c : Operand} {x y : Code} {b : Bool} (hc : opd E c = some (.bool b)) (h1 : b = true → CW ro P N D x Q E w) (h2 : b = false → CW ro P N D y Q E w) : CW ro P N D (.cond c x y) Q E w :=
 fun a ha => wpIn_cond_split (ha.eval hc) (fun hb => h1 hb a ha) (fun hb => h2 hb a ha)
theorem CW.block {id : Nat} {c : Code} (h : CW ro P N D c (Exit.inBlock id Q) E w) : CW ro P N D (.block id c) Q E w := fun a ha => wpIn_block (h a ha)
theorem CW.exit {id : Nat} (h : XW N D id Q E w) : CW ro P N D (.exit id) Q E w := fun a ha => wpIn_exit (h a ha)
theorem CW.ret (h : RW N D Q E w) : CW ro P N D .ret Q E w := fun a ha => wpIn_ret (h a ha)
theorem CW.goto {l : Nat} (h : GW N D l Q E w) : CW ro P N D (.goto l) Q E w := fun a ha => wpIn_goto (h a ha)
theorem CW.cut {S : Type} {x y : Code} (Ek : S → Env) (I : S → World → Prop) (hk : ∀ s w, I s w → CW ro P N D y Q (Ek s) w)
  (h : CW ro P N D x (Exit.then (fun a w => ∃ s, Sat N D (Ek s) a ∧ I s w) Q) E w) : CW ro P N D (.seq x y) Q E w := fun a ha =>
 wpIn_seq (wpIn_mono (h a ha) fun e a' w' hq => by
  cases e with
  | normal => obtain ⟨s, hs, hI⟩ := hq; exact hk s w' hI a' hs
  | _ => exact hq)
theorem CW.loop {S : Type} {c : Code} (El : S → Env) (I : S → World → Prop) (μ : S → World → Nat) (s₀ : S) (hs : Sub (El s₀) E) (hI : I s₀ w)
  (round : ∀ s w, I s w → CW ro P N D c (Exit.then (fun a' w' => ∃ s', Sat N D (El s') a' ∧ (I s' w' ∧ μ s' w' < μ s w)) Q) (El s) w) : CW ro P N D (.loop c) Q E w := by
 intro a ha b k cs hro hb hr
 have key : ∀ j s a w, μ s w = j → Sat N D (El s) a → I s w →
   ∃ e a' w', Q e a' w' ∧ ArrivesIn (Machine.fenced P (FR ro)) P (lone (b.atR a (.code c :: .inLoop c :: k)) cs w) b k cs e a' w' := by
  intro j
  induction j using Nat.strongRecOn with
  | _ j ih =>
   intro s a w hn ha hI
   obtain ⟨e, a₁, w₁, hq, harr⟩ := round s w hI a ha b (.inLoop c :: k) cs hro hb hr
   cases e with
   | normal =>
    obtain ⟨s', hs', hI', hlt⟩ := hq
    obtain ⟨e₂, a₂, w₂, hq₂, harr₂⟩ := ih (μ s' w₁) (hn ▸ hlt) s' a₁ w₁ rfl hs' hI'
    exact ⟨e₂, a₂, w₂, hq₂, .of_steps (StepsIn.trans harr (.one (fenced_calm hb hr rfl) stepR_inLoop)) harr₂⟩
   | exit id => exact ⟨_, a₁, w₁, hq, .pass (x := .inLoop c) rfl (fun _ _ => .inl (by simp)) harr⟩
   | goto l => exact ⟨_, a₁, w₁, hq, .pass (x := .inLoop c) rfl (fun _ _ => .inl (by simp)) harr⟩
   | ret => exact ⟨_, a₁, w₁, hq, .pass (x := .inLoop c) rfl (fun _ _ => .inl (by simp)) harr⟩
   | panic ch => exact ⟨_, a₁, w₁, hq, .pass (x := .inLoop c) rfl (fun _ _ => .inl (by simp)) harr⟩
   | outgrown => exact ⟨_, a₁, w₁, hq, .pass (x := .inLoop c) rfl (fun _ _ => .inl (by simp)) harr⟩
 obtain ⟨e, a', w', hq, harr⟩ := key _ s₀ a w rfl (ha.sub hs) hI
 exact ⟨e, a', w', hq, .of_steps (.one (fenced_calm hb hr rfl) stepR_loop) harr⟩
end
/-! ### A region in the text's order -/
def CallsY (P : Program) (fv : Value) (args : Array Value) (w : World) (R : Ending → World → Prop) : Prop :=
 X.CallsV P fv args w R ∨ ∃ l, fv = .func (.yield l) #[] #[] ∧ YieldAt Fence.wide 0 P l args w R
theorem CallsY.mono {P : Program} {fv : Value} {args : Array Value} {w : World} {R R' : Ending → World → Prop} (h : CallsY P fv args w R) (k : ∀ e w', R e w' → R' e w') : CallsY P fv args w R' := by
 rcases h with ⟨f, cap, fn, h1, h2, h3, h4, h5⟩ | ⟨l, h1, fn, tmps, as', bd, h2, h3⟩
 ·exact .inl ⟨f, cap, fn, h1, h2, h3, h4, h5.mono k⟩
 ·exact .inr ⟨l, h1, fn, tmps, as', bd, h2, h3.mono k⟩
section
variable {ro : Option Nat} {P : Program} {N : Nat} {D : List Deferred} {ops : Array Oper} {Q : Exit → Act → World → Prop} {E : Env} {w w' : World} {L : Nat → Env → World → Prop} {i : Nat} {o : Oper} {v : Value}
def LW (ro : Option Nat) (P : Program) (N : Nat) (D : List Deferred) (ops : Array Oper) (Q : Exit → Act → World → Prop) (i : Nat) (E : Env) (w : World) : Prop :=
 ∀ a, Sat N D E a → wpListIn (FR ro) 0 P ops Q (ops.toList.drop i) a w
theorem CW.region {id : Nat} (h : ∀ L, L = LW ro P N D ops Q → L 0 E w) : CW ro P N D (.region id ops false) Q E w :=
 fun a ha => wpIn_region_list (by have := h _ rfl a ha; simpa using this)
theorem LW.step (hL : L = LW ro P N D ops Q) (ho : ops[i]? = some o) (hw : Wants N ops E o)
  (h : ∀ a, Sat N D E a → o.wpIn (FR ro) 0 P a w (wpListIn (FR ro) 0 P ops Q (ops.toList.drop (i + 1))) Q) : L i E w := by
 subst hL
 intro a ha
 rw [drop_at ho]
 unfold wpListIn
 rw [if_pos (hw _ _ ha)]
 exact h a ha
theorem LW.val (hL : L = LW ro P N D ops Q) (ho : ops[i]? = some o) (hw : Wants N ops E o) (hd : okd N o.dst = true)
  (hv : ∀ a, Sat N D E a → (execOp a.eval o).run P w = .ok (.value v) w') (k : L (i + 1) (putE o.dst v E) w') (hn : isDefer o = false := by rfl) : L i E w :=
 LW.step hL ho hw fun a ha => by
  refine ⟨fun _ _ => trivial, ?_⟩
  rw [semAt_of hn, hv a ha, Oper.uponIn_value]
  rw [hL] at k; exact k _ (ha.put hd)
theorem LW.rd (hL : L = LW ro P N D ops Q) (ho : ops[i]? = some o) (hw : Wants N ops E o) (hd : okd N o.dst = true)
  (hv : Rd P N D E o v (fun w' => w' = w)) (k : L (i + 1) (putE o.dst v E) w) (hn : isDefer o = false := by rfl) : L i E w := LW.val hL ho hw hd (fun a ha => hv a ha w rfl) k hn
theorem LW.eff (hL : L = LW ro P N D ops Q) (ho : ops[i]? = some o) (hw : Wants N ops E o) (hd : okd N o.dst = true)
  (hv : ∀ a, Sat N D E a → (execOp a.eval o).run P w = .ok .skip w') (k : L (i + 1) (putE o.dst undef E) w') (hn : isDefer o = false := by rfl) : L i E w :=
 LW.step hL ho hw fun a ha => by
  refine ⟨fun _ _ => trivial, ?_⟩
  rw [semAt_of hn, hv a ha, Oper.uponIn_skip]
  rw [hL] at k; exact k _ (ha.put hd)
theorem LW.call {f : Nat} {args : Array Value} {R : Ending → World → Prop} (hL : L = LW ro P N D ops Q) (ho : ops[i]? = some o) (hw : Wants N ops E o) (hd : okd N o.dst = true)
  (hv : ∀ a, Sat N D E a → (execOp a.eval o).run P w = .ok (.enter f args) w') (hc : Calls P f args w' R)
  (k : ∀ e w'', R e w'' → ∃ v, e = .returned v ∧ L (i + 1) (putE o.dst v E) w'') (hn : isDefer o = false := by rfl) : L i E w :=
 LW.step hL ho hw fun a ha => by
  refine ⟨fun _ _ => trivial, ?_⟩
  rw [semAt_of hn, hv a ha, Oper.uponIn_enter]
  refine ⟨fun h => (by cases h), FR.callsIn (hc.mono fun e w'' hR => ?_)⟩
  obtain ⟨v, rfl, hk⟩ := k e w'' hR
  rw [hL] at hk; exact hk _ (ha.put hd)
theorem LW.skip (hL : L = LW ro P N D ops Q) (ho : ops[i]? = some o) (hs : Skips N ops E o) (hd : okd N o.dst = true) (k : L (i + 1) (putE o.dst undef E) w) : L i E w := by
 subst hL
 intro a ha
 rw [drop_at ho]
 unfold wpListIn
 rw [if_neg (by rw [hs _ _ ha]; simp)]
 exact ⟨fun _ _ => trivial, k _ (ha.put hd)⟩
theorem LW.nil (hL : L = LW ro P N D ops Q) (hi : ops[i]? = none) (k : NW N D Q E w) : L i E w := by
 subst hL
 intro a ha
 have : ops.toList.drop i = [] := List.drop_eq_nil_of_le (by simpa using hi)
 rw [this]; exact k a ha
theorem LW.sub (hL : L = LW ro P N D ops Q) {F : Env} (s : Sub E F) (k : L i E w) : L i F w := by
 subst hL; exact fun a ha => k a (ha.sub s)
theorem LW.callY {x : Operand} {args : Array Operand} {ts : Array TypeId} {d : Option Nat} {T : TypeId} {p : String} {af : Array Edge} {gd : Option (Nat × Bool)} {fv : Value} {vs : List Value} {R : Ending → World → Prop}
  (hL : L = LW none P N D ops Q) (ho : ops[i]? = some ⟨d, .call ⟨.value x, args, ts⟩, T, p, af, gd⟩) (hw : Wants N ops E ⟨d, .call ⟨.value x, args, ts⟩, T, p, af, gd⟩) (hd : okd N d = true)
  (hx : opd E x = some fv) (ha' : opdL E args.toList = some vs) (hc : CallsY P fv vs.toArray w R)
  (k : ∀ e w'', R e w'' → ∃ v, e = .returned v ∧ L (i + 1) (putE d v E) w'') : L i E w := by
 rcases hc with ⟨f, cap, fn, rfl, h2, h3, h4, h5⟩ | ⟨l, rfl, fn, tmps, as', bd, h2, h3⟩
 ·exact LW.call hL ho hw hd (Cl.fv hx ha' h2 h3 h4) h5 k
 ·refine LW.step hL ho hw fun a ha => ⟨fun _ _ => trivial, ?_⟩
  have e1 : (execOp a.eval ⟨d, .call ⟨.value x, args, ts⟩, T, p, af, gd⟩).run P w = .ok (.round l fn tmps as' bd) w := by
   have e2 : args.map a.eval = vs.toArray := opdL_map ha ha'
   simp [execOp, resolve, ha.eval hx, Deferred.ofValue, invoke, e2, h2]
  rw [semAt_of rfl, e1, Oper.uponIn_round]
  refine ⟨fun h => (by cases h), h3.mono fun e w'' hR => ?_⟩
  obtain ⟨v, rfl, hk⟩ := k e w'' hR
  rw [hL] at hk; exact hk _ (ha.put hd)
end
/-! ### Iterators, and the statement -/
def InO (w0 : World) (O : List Nat) (W : World) : Prop := ∀ i ∈ O, w0.heap.size ≤ i ∧ i < W.heap.size
def Stab (w0 : World) (I : List Nat → World → Prop) : Prop := ∀ O O' W W', I O W → InO w0 O W → Chg O W W' → InO w0 O' W' → (∀ i ∈ O', i ∈ O ∨ W.heap.size ≤ i) → I O' W'
def Iterates {α : Type} (P : Program) (fv : Value) (enc : α → Array Value) (S Sp : List α → Prop) (keep : List Nat) (w : World) : Prop :=
 ∀ (W : World) (yv : Value) (I Ix : List Nat → List α → World → Prop), Chg [] w W → (∀ pre, Stab W (fun O => I O pre)) → (∀ pre, Stab W (fun O => Ix O pre)) → I [] [] W →
  (∀ Own pre x W1, InO W Own W1 → Sp (pre ++ [x]) → I Own pre W1 → CallsY P yv (enc x) W1 fun e W' => W1.heap.size ≤ W'.heap.size ∧
   ((e = .returned (.bool true) ∧ I Own (pre ++ [x]) W' ∧ Same W1 W' (keep ++ Own)) ∨ (e = .returned (.bool false) ∧ Ix Own (pre ++ [x]) W'))) →
  X.CallsV P fv #[yv] W fun e W' => (∃ v, e = .returned v) ∧ ∃ Own, InO W Own W' ∧ ((∃ xs, S xs ∧ I Own xs W') ∨ ∃ pre, Sp pre ∧ Ix Own pre W')
def envPs : List Tmp → List Value → Env → Env
 | p :: ps, v :: vs, E => envPs ps vs ((p, v) :: E)
 | _, _, E => E
theorem sat_ps {N : Nat} : ∀ (ps : List Tmp) (vs : List Value) (E : Env) (tmps : Array Value), (∀ p ∈ ps, Nat.blt p N = true) → Sat N [] E { tmps := tmps, defers := [] } →
  Sat N [] (envPs ps vs E) { tmps := (ps.zip vs).foldl (fun t (p, v) => t.setIfInBounds p v) tmps, defers := [] }
 | [], _, E, tmps, _, h => by simpa [envPs] using h
 | p :: ps, [], E, tmps, _, h => by simpa [envPs] using h
 | p :: ps, v :: vs, E, tmps, hp, h => by
  have h1 : Sat N [] ((p, v) :: E) { tmps := tmps.setIfInBounds p v, defers := [] } := by
   have := h.put (d := some p) (v := v) (by simpa [okd] using hp p (.head _))
   simpa [putE, Act.put] using this
  simpa [envPs] using sat_ps ps vs ((p, v) :: E) _ (fun q hq => hp q (.tail _ hq)) h1
theorem Chg.putObj {w : World} {l : Nat} (o : Obj) : Chg [l] w (w.putObj l o) := Chg.put
section
variable {P : Program} {N : Nat} {D : List Deferred} {Q : Exit → Act → World → Prop} {E : Env} {w : World} {α : Type}
def EndQ (keep O : List Nat) (I : List Nat → List α → World → Prop) (Ix : Code → List Nat → List α → World → Prop) (pre : List α) (W₂ : World) : Exit → Act → World → Prop
 | .normal, _, W' => W₂.heap.size ≤ W'.heap.size ∧ I O pre W' ∧ Same W₂ W' (keep ++ O)
 | .ret, _, W' => W₂.heap.size ≤ W'.heap.size ∧ Ix .ret O pre W' ∧ Same W₂ W' (keep ++ O)
 | .exit id, _, W' => W₂.heap.size ≤ W'.heap.size ∧ Ix (.exit id) O pre W' ∧ Same W₂ W' (keep ++ O)
 | .goto t, _, W' => W₂.heap.size ≤ W'.heap.size ∧ Ix (.goto t) O pre W' ∧ Same W₂ W' (keep ++ O)
 | .panic _, _, _ => False
 | .outgrown, _, _ => False
def BeginK (P : Program) (l : Nat) (keep O : List Nat) (I : List Nat → List α → World → Prop) (Ix : Code → List Nat → List α → World → Prop) (pre : List α) (x : α) (body : Code) (W : World) (a₁ : Act) (W₁ : World) : Prop :=
 Chg [] W W₁ ∧ ∀ W₂, Chg [l] W₁ W₂ → InO W O W₂ ∨ True → (∃ r, W₁.heap[l]? = some (.loop r)) → I O pre W₂ → body.wpIn (FR (some l)) 0 P (EndQ keep O I Ix (pre ++ [x]) W₂) a₁ W₂
def mk (d : Nat) : Deferred := { target := .collected d, args := #[] }
theorem CW.rangeFunc {g : Operand} {ps : Array Tmp} {assign body : Code} {gf : Nat} {fn : Func} {lb : Array Value} (hg : opd E g = some (.func (.func gf) #[] lb)) (hgf : P.funcs[gf]? = some fn) (hgn : (fn.name == "runtime.NumGoroutine") = false) (hgb : fn.body.isNone = false)
  {enc : α → Array Value} (hps : ∀ x, (enc x).size = ps.size) (hpN : ∀ p ∈ ps.toList, Nat.blt p N = true) {S Sp : List α → Prop} {keep : List Nat} (hseq : Iterates P (.func (.func gf) #[] lb) enc S Sp keep w)
  (I : List Nat → List α → World → Prop) (Ix : Code → List Nat → List α → World → Prop) (hI : ∀ pre, Stab w (fun O => I O pre)) (hIx : ∀ c pre, Stab w (fun O => Ix c O pre))
  (h0 : ∀ O W, Chg [] w W → InO w O W → I O [] W) (hkeep : ∀ i ∈ keep, i < w.heap.size)
  (hround : ∀ (l : Nat) (O : List Nat) (pre : List α) (x : α) (W : World), InO w O W → l ∈ O → Sp (pre ++ [x]) → I O pre W →
   CW (some l) P N [] assign (Exit.then (BeginK P l keep O I Ix pre x body W) (fun _ _ _ => False)) (envPs ps.toList (enc x).toList E) W)
  (hdone : ∀ (d : Nat) (O : List Nat) (xs : List α) (W : World), InO w O W → d ∈ O → W.heap[d]? = some (.deferred (some [])) → S xs → I O xs W → NW N (mk d :: D) Q E W)
  (hstop : ∀ (d : Nat) (c : Code) (O : List Nat) (pre : List α) (W : World), InO w O W → d ∈ O → W.heap[d]? = some (.deferred (some [])) → Sp pre → Ix c O pre W → CW none P N (mk d :: D) c Q E W) :
  CW none P N D (.rangeFunc g ps assign body) Q E w := by
 intro a ha
 refine wpIn_rangeFunc ?_
 intro fnc hfn
 have hro : (FR none).round = none := rfl
 rw [hro]
 obtain ⟨rec, hrec⟩ : ∃ rec : LoopState → Option Code → Loop, rec = fun st pe => { state := st, pending := pe, fn := fnc, tmps := a.tmps, params := ps, assign, body, defers := w.heap.size } := ⟨_, rfl⟩
 obtain ⟨W1, hW1⟩ : ∃ W1, (w.alloc (.deferred (some []))).alloc (.loop (rec .ready none)) = W1 := ⟨_, rfl⟩
 have hL1 : W1.heap[w.heap.size + 1]? = some (.loop (rec .ready none)) := by
  rw [← hW1]; have := World.alloc_heap_new (w.alloc (.deferred (some []))) (.loop (rec .ready none)); rwa [World.size_alloc] at this
 have hK1 : W1.heap[w.heap.size]? = some (.deferred (some [])) := by
  rw [← hW1]; exact (Below.heap_alloc _ _ _ (by simp)).trans (World.alloc_heap_new w _)
 have c1 : Chg [] w W1 := by rw [← hW1]; exact (Chg.alloc _ _).trans0 (Chg.alloc _ _)
 have hs1 : W1.heap.size = w.heap.size + 2 := by rw [← hW1]; simp
 generalize hl : w.heap.size + 1 = l at hL1
 have hsat0 : Sat N [] E { tmps := a.tmps, defers := [] } := ⟨ha.size, rfl, ha.get⟩
 refine ⟨l, [mk w.heap.size], W1, { target := .fn (.func gf) lb, args := #[.func (.yield l) #[] #[]] }, W1, gf, #[.func (.yield l) #[] #[]] ++ lb, W1, ?_, ?_, ?_, ?_, fun h => (by cases h), ?_⟩
 ·rw [← hW1, hrec, ← hl]; exact run_enterLoop_outer _ _ _ _ _
 ·simp only [resolve, ha.eval hg]
  simp [go_sem]
 ·intro f' hf'; trivial
 ·simp [invoke, go_sem, run_call hgf hgn hgb]
 refine FR.callsIn ?_
 have hOK : ∀ (A B : World) (Own Own' : List Nat), InO W1 Own A → InO W1 Own' B → (∀ i ∈ Own', i ∈ Own ∨ A.heap.size ≤ i) → Chg Own A B → W1.heap.size ≤ A.heap.size →
   InO w (Own ++ [l, w.heap.size]) A ∧ InO w (Own' ++ [l, w.heap.size]) B ∧ (∀ i ∈ Own' ++ [l, w.heap.size], i ∈ Own ++ [l, w.heap.size] ∨ A.heap.size ≤ i) ∧ Chg (Own ++ [l, w.heap.size]) A B ∧ l ∉ Own ∧ w.heap.size ∉ Own := by
  intro A B Own Own' h1 h2 h3 h4 h5
  have h6 := h4.size
  refine ⟨fun i hi => ?_, fun i hi => ?_, fun i hi => ?_, h4.mono (fun i hi _ => List.mem_append_left _ hi), fun hm => ?_, fun hm => ?_⟩
  ·rcases List.mem_append.1 hi with hi | hi
   ·have := h1 i hi; omega
   ·simp at hi; omega
  ·rcases List.mem_append.1 hi with hi | hi
   ·have := h2 i hi; omega
   ·simp at hi; omega
  ·rcases List.mem_append.1 hi with hi | hi
   ·exact (h3 i hi).imp (List.mem_append_left _) id
   ·exact .inl (List.mem_append_right _ hi)
  ·have := h1 _ hm; omega
  ·have := h1 _ hm; omega
 have hit := hseq W1 (.func (.yield l) #[] #[])
  (fun Own pre W => I (Own ++ [l, w.heap.size]) pre W ∧ W1.heap.size ≤ W.heap.size ∧ W.heap[l]? = some (.loop (rec .ready none)) ∧ W.heap[w.heap.size]? = some (.deferred (some [])))
  (fun Own pre W => ∃ c, Ix c (Own ++ [l, w.heap.size]) pre W ∧ W1.heap.size ≤ W.heap.size ∧ W.heap[l]? = some (.loop (rec .done (some c))) ∧ W.heap[w.heap.size]? = some (.deferred (some [])))
  c1
  (fun pre Own Own' A B h hO hc hO' hg => by
   obtain ⟨k1, k2, k3, k4, k5, k6⟩ := hOK A B Own Own' hO hO' hg hc h.2.1
   exact ⟨hI pre _ _ A B h.1 k1 k4 k2 k3, by have := hc.size; have := h.2.1; omega, hc.obj k5 h.2.2.1, hc.obj k6 h.2.2.2⟩)
  (fun pre Own Own' A B h hO hc hO' hg => by
   obtain ⟨c, h1, h2, h3, h4⟩ := h
   obtain ⟨k1, k2, k3, k4, k5, k6⟩ := hOK A B Own Own' hO hO' hg hc h2
   exact ⟨c, hIx c pre _ _ A B h1 k1 k4 k2 k3, by have := hc.size; omega, hc.obj k5 h3, hc.obj k6 h4⟩)
  ⟨h0 _ W1 c1 (fun i hi => by simp at hi; omega), Nat.le_refl _, hL1, hK1⟩ ?_
 ·obtain ⟨f', cap', fn', he, hf', hn', hb', hcalls⟩ := hit
  cases he
  refine hcalls.mono ?_
  rintro e W' ⟨⟨v, rfl⟩, Own, hOwn, hres⟩
  have hsz : ∀ {A : World} (o : Obj), (A.putObj l o).heap.size = A.heap.size := fun o => by simp [World.putObj]
  have hInO : ∀ {A : World}, W1.heap.size ≤ A.heap.size → InO W1 Own A → InO w (Own ++ [l, w.heap.size]) A := fun h1 h2 i hi => by
   rcases List.mem_append.1 hi with hi | hi
   ·have := h2 i hi; omega
   ·simp at hi; omega
  have hput : ∀ {A : World} (o : Obj) (J : List Nat → World → Prop), Stab w J → W1.heap.size ≤ A.heap.size → InO W1 Own A → J (Own ++ [l, w.heap.size]) A → J (Own ++ [l, w.heap.size]) (A.putObj l o) := fun o J hJ h1 h2 hj =>
   hJ _ _ _ _ hj (hInO h1 h2) ((Chg.putObj o).mono (fun i hi _ => by simp at hi; simp [hi])) (by
    have := hInO h1 h2
    intro i hi; rw [hsz]; exact this i hi) (fun i hi => .inl hi)
  rcases hres with ⟨xs, hS, hi, hle, hlp, hk⟩ | ⟨pre, hSp, c, hi, hle, hlp, hk⟩
  ·refine ⟨none, _, by have := run_endLoop (P := P) hlp (by rw [hrec]; simp); rw [hrec] at this; exact this, ?_⟩
   have hA : Sat N (mk w.heap.size :: D) E { a with defers := [mk w.heap.size] ++ a.defers } := ⟨ha.size, by simp [ha.defers], ha.get⟩
   exact hdone w.heap.size (Own ++ [l, w.heap.size]) xs _ (fun i hi' => by rw [hsz]; exact hInO hle hOwn i hi') (by simp) ((World.putObj_heap_other (by omega)).trans hk) hS (hput _ (fun O => I O xs) (hI xs) hle hOwn hi) _ hA
  ·refine ⟨some c, _, by have := run_endLoop (P := P) hlp (by rw [hrec]; simp); rw [hrec] at this; exact this, ?_⟩
   have hA : Sat N (mk w.heap.size :: D) E { a with defers := [mk w.heap.size] ++ a.defers } := ⟨ha.size, by simp [ha.defers], ha.get⟩
   exact hstop w.heap.size c (Own ++ [l, w.heap.size]) pre _ (fun i hi' => by rw [hsz]; exact hInO hle hOwn i hi') (by simp) ((World.putObj_heap_other (by omega)).trans hk) hSp (hput _ (fun O => Ix c O pre) (hIx c pre) hle hOwn hi) _ hA
 ·rintro Own pre x W hOwn hSp ⟨hI0, hle, hlp, hk⟩
  have hlt : l < W.heap.size := lt_of_heap hlp
  have hy := run_yield (P := P) (args := enc x) hlp (by rw [hrec]; exact hps x)
  rw [hrec] at hy
  have hInO : InO w (Own ++ [l, w.heap.size]) W := fun i hi => by
   rcases List.mem_append.1 hi with hi | hi
   ·have := hOwn i hi; omega
   ·simp at hi; omega
  have hrd := hround l (Own ++ [l, w.heap.size]) pre x W hInO (by simp) hSp hI0
  have hsat := sat_ps ps.toList (enc x).toList E a.tmps hpN hsat0
  have hr2 := hrd _ hsat
  have htm : (ps.zip (enc x)).foldl (fun t (p, v) => t.setIfInBounds p v) a.tmps = (ps.toList.zip (enc x).toList).foldl (fun t (p, v) => t.setIfInBounds p v) a.tmps := by
   rw [← Array.foldl_toList, Array.toList_zip]
  refine .inr ⟨l, rfl, fnc, _, assign, body, hy, ?_⟩
  rw [htm]
  refine roundIn_of_wpIn (F := Fence.wide) trivial ?_
  refine wpIn_mono hr2 ?_
  intro e a₁ W₁ hq
  cases e with
  | normal =>
   obtain ⟨hc1, hbody⟩ := hq
   have hl1 := hc1.obj (by simp) hlp
   have hk1 := hc1.obj (by simp) hk
   have hW2 := run_beginRound (P := P) hl1 (by rw [hrec])
   refine ⟨_, hW2, ?_⟩
   generalize hW2e : W₁.putObj l (.loop { rec .ready none with state := .busy }) = W₂ at hW2
   have c2 : Chg [l] W₁ W₂ := by rw [← hW2e]; exact Chg.putObj _
   have hl2 : W₂.heap[l]? = some (.loop { rec .ready none with state := .busy }) := by rw [← hW2e]; exact World.putObj_heap_same (lt_of_heap hl1)
   have hk2 : W₂.heap[w.heap.size]? = some (.deferred (some [])) := by rw [← hW2e]; exact (World.putObj_heap_other (by omega)).trans hk1
   have hs12 := hc1.size
   have hs22 := c2.size
   have hInO2 : InO w (Own ++ [l, w.heap.size]) W₂ := fun i hi => by have := hInO i hi; omega
   have hI2 : I (Own ++ [l, w.heap.size]) pre W₂ := by
    have h1 := hI pre _ (Own ++ [l, w.heap.size]) W W₁ hI0 hInO (hc1.mono (by simp)) (fun i hi => by have := hInO i hi; omega) (fun i hi => .inl hi)
    exact hI pre _ (Own ++ [l, w.heap.size]) W₁ W₂ h1 (fun i hi => by have := hInO i hi; omega) (c2.mono (fun i hi _ => by simp at hi; simp [hi])) hInO2 (fun i hi => .inl hi)
   have hb := hbody W₂ c2 (.inr trivial) ⟨_, hl1⟩ hI2
   refine wpIn_mono hb ?_
   have hsz : ∀ {A : World} (o : Obj), (A.putObj l o).heap.size = A.heap.size := fun o => by simp [World.putObj]
   have hput : ∀ {A : World} (o : Obj) (J : List Nat → World → Prop), Stab w J → W₂.heap.size ≤ A.heap.size → J (Own ++ [l, w.heap.size]) A → J (Own ++ [l, w.heap.size]) (A.putObj l o) := fun {A} o J hJ hle hj => by
    have hin : InO w (Own ++ [l, w.heap.size]) A := fun i hi => by have := hInO2 i hi; omega
    exact hJ _ _ _ _ hj hin ((Chg.putObj o).mono (fun i hi _ => by simp at hi; simp [hi])) (fun i hi => by rw [hsz]; exact hin i hi) (fun i hi => .inl hi)
   have hsame : ∀ {A : World} (o : Obj), Same W₂ A (keep ++ (Own ++ [l, w.heap.size])) → Same W (A.putObj l o) (keep ++ Own) := fun {A} o hs i hi => by
    have hne : i ≠ l := fun e => by
     subst e
     rcases List.mem_append.1 hi with h | h
     ·have := hkeep _ h; omega
     ·have := hOwn _ h; omega
    have hiW : i < W.heap.size := by
     rcases List.mem_append.1 hi with h | h
     ·have := hkeep _ h; have := c1.size; omega
     ·exact (hOwn _ h).2
    rw [World.putObj_heap_other hne, hs i (by
     rcases List.mem_append.1 hi with h | h
     ·exact List.mem_append_left _ h
     ·exact List.mem_append_right _ (List.mem_append_left _ h)), c2.block i (by omega) (by simpa using hne), hc1.block i hiW (by simp)]
   have fin : ∀ (jump : Option Code) (A : World), Same W₂ A (keep ++ (Own ++ [l, w.heap.size])) →
     (Instr.endRound l jump).run P A = .ok (.bool jump.isNone) (A.putObj l (.loop (rec (if jump.isNone then .ready else .done) jump))) ∧ (A.putObj l (.loop (rec (if jump.isNone then .ready else .done) jump))).heap[l]? = some (.loop (rec (if jump.isNone then .ready else .done) jump)) ∧
     (A.putObj l (.loop (rec (if jump.isNone then .ready else .done) jump))).heap[w.heap.size]? = some (.deferred (some [])) := fun jump A hs => by
    have hlA : A.heap[l]? = some (.loop { rec .ready none with state := .busy }) := (hs l (by simp)).trans hl2
    have hkA : A.heap[w.heap.size]? = some (.deferred (some [])) := (hs w.heap.size (by simp)).trans hk2
    have := run_endRound (P := P) jump hlA
    rw [hrec] at this ⊢
    exact ⟨this, World.putObj_heap_same (lt_of_heap hlA), (World.putObj_heap_other (by omega)).trans hkA⟩
   intro e a₃ A hp
   cases e with
   | normal =>
    obtain ⟨hle3, hi3, hs3⟩ := hp
    obtain ⟨f1, f2, f3⟩ := fin none A hs3
    exact ⟨_, _, f1, by rw [hsz]; omega, .inl ⟨rfl, ⟨hput _ (fun O => I O (pre ++ [x])) (hI _) hle3 hi3, by rw [hsz]; omega, f2, f3⟩, hsame _ hs3⟩⟩
   | ret =>
    obtain ⟨hle3, hi3, hs3⟩ := hp
    obtain ⟨f1, f2, f3⟩ := fin (some .ret) A hs3
    exact ⟨_, _, f1, by rw [hsz]; omega, .inr ⟨rfl, .ret, hput _ (fun O => Ix .ret O (pre ++ [x])) (hIx _ _) hle3 hi3, by rw [hsz]; omega, f2, f3⟩⟩
   | exit id =>
    obtain ⟨hle3, hi3, hs3⟩ := hp
    obtain ⟨f1, f2, f3⟩ := fin (some (.exit id)) A hs3
    exact ⟨_, _, f1, by rw [hsz]; omega, .inr ⟨rfl, .exit id, hput _ (fun O => Ix (.exit id) O (pre ++ [x])) (hIx _ _) hle3 hi3, by rw [hsz]; omega, f2, f3⟩⟩
   | goto t =>
    obtain ⟨hle3, hi3, hs3⟩ := hp
    obtain ⟨f1, f2, f3⟩ := fin (some (.goto t)) A hs3
    exact ⟨_, _, f1, by rw [hsz]; omega, .inr ⟨rfl, .goto t, hput _ (fun O => Ix (.goto t) O (pre ++ [x])) (hIx _ _) hle3 hi3, by rw [hsz]; omega, f2, f3⟩⟩
   | panic ch => exact hp.elim
   | outgrown => exact hp.elim
  | exit id => exact hq.elim
  | goto t => exact hq.elim
  | ret => exact hq.elim
  | panic ch => exact hq.elim
  | outgrown => exact hq.elim
theorem NW.begin {l : Nat} {keep O : List Nat} {I : List Nat → List α → World → Prop} {Ix : Code → List Nat → List α → World → Prop} {pre : List α} {x : α} {body : Code} {W W₁ : World} {Q' : Exit → Act → World → Prop}
  (hc : Chg [] W W₁) (h : ∀ W₂, Chg [l] W₁ W₂ → (∃ r, W₁.heap[l]? = some (.loop r)) → I O pre W₂ → CW (some l) P N [] body (EndQ keep O I Ix (pre ++ [x]) W₂) E W₂) :
  NW N [] (Exit.then (BeginK P l keep O I Ix pre x body W) Q') E W₁ := fun a ha => ⟨hc, fun W₂ c _ hl hi => h W₂ c hl hi a ha⟩
def IsFn (P : Program) (fv : Value) : Prop := ∃ gf fn lb, fv = .func (.func gf) #[] lb ∧ P.funcs[gf]? = some fn ∧ (fn.name == "runtime.NumGoroutine") = false ∧ fn.body.isNone = false
theorem CW.rangeV {g : Operand} {ps : Array Tmp} {assign body : Code} {fv : Value} (hg : opd E g = some fv) (hf : IsFn P fv)
  {enc : α → Array Value} (hps : ∀ x, (enc x).size = ps.size) (hpN : ∀ p ∈ ps.toList, Nat.blt p N = true) {S Sp : List α → Prop} {keep : List Nat} (hseq : Iterates P fv enc S Sp keep w)
  (I : List Nat → List α → World → Prop) (Ix : Code → List Nat → List α → World → Prop) (hI : ∀ pre, Stab w (fun O => I O pre)) (hIx : ∀ c pre, Stab w (fun O => Ix c O pre))
  (h0 : ∀ O W, Chg [] w W → InO w O W → I O [] W) (hkeep : ∀ i ∈ keep, i < w.heap.size)
  (hround : ∀ (l : Nat) (O : List Nat) (pre : List α) (x : α) (W : World), InO w O W → l ∈ O → Sp (pre ++ [x]) → I O pre W →
   CW (some l) P N [] assign (Exit.then (BeginK P l keep O I Ix pre x body W) (fun _ _ _ => False)) (envPs ps.toList (enc x).toList E) W)
  (hdone : ∀ (d : Nat) (O : List Nat) (xs : List α) (W : World), InO w O W → d ∈ O → W.heap[d]? = some (.deferred (some [])) → S xs → I O xs W → NW N (mk d :: D) Q E W)
  (hstop : ∀ (d : Nat) (c : Code) (O : List Nat) (pre : List α) (W : World), InO w O W → d ∈ O → W.heap[d]? = some (.deferred (some [])) → Sp pre → Ix c O pre W → X.CW P N (mk d :: D) c Q E W) :
  X.CW P N D (.rangeFunc g ps assign body) Q E w := by
 obtain ⟨gf, fn, lb, rfl, h1, h2, h3⟩ := hf
 exact (CW.rangeFunc hg h1 h2 h3 hps hpN hseq I Ix hI hIx h0 hkeep hround hdone (fun d c O pre W a b e f g' => (hstop d c O pre W a b e f g').plain')).un
theorem _root_.Go.X.Boxes.stab {w A B : World} {l l0 : List (Nat × List Value × TypeId)} {O : List Nat} (h : Boxes A l) (h0 : Boxes w l0) (hn : l.map (·.1) = l0.map (·.1)) (hO : InO w O A) (hc : Chg O A B) : Boxes B l :=
 h.chg hc fun x hx hm => by
  have h1 := (hO _ hm).1
  have : x.1 ∈ l0.map (·.1) := hn ▸ List.mem_map.2 ⟨x, hx, rfl⟩
  obtain ⟨y, hy, e⟩ := List.mem_map.1 this
  have := lt_of_heap (h0.heap y hy)
  omega
theorem _root_.Go.X.Boxes.notloop {A B : World} {l : Nat} {bs : List (Nat × List Value × TypeId)} (h : Boxes A bs) (hl : ∃ r, A.heap[l]? = some (.loop r)) (hc : Chg [l] A B) : Boxes B bs :=
 h.chg hc fun x hx hm => by
  simp at hm
  obtain ⟨r, hr⟩ := hl
  have := h.heap x hx
  rw [hm, hr] at this; cases this
theorem _root_.Go.X.Boxes.sameS {w w1 : World} {l : List (Nat × List Value × TypeId)} {ns : List Nat} (h : Boxes w l) (hs : Same w w1 ns) (hl : ∀ x ∈ l, x.1 ∈ ns) : Boxes w1 l := ⟨fun x hx => (hs _ (hl x hx)).trans (h.heap x hx), h.nodup⟩
/-! ### A function with such a statement -/
def Marks (w : World) (ms : List Nat) : Prop := ms.Nodup ∧ ∀ m ∈ ms, w.heap[m]? = some (.deferred (some []))
theorem enterM {f : Nat} {fn : Func} {c : Code} {args : Array Value} {R : Ending → World → Prop} (hf : P.funcs[f]? = some fn) (hb : fn.body = some c) (hN : fn.ntmps = N)
  (h : X.CW P N [] c (bodyPostM Fence.wide 0 P fn R) (envOf 0 args.toList) w) : Calls P f args w R := by
 refine callsIn_wide.1 (callsIn_of_wp_marks (n := 0) hf hb trivial (wpIn_wide.2 (h _ ⟨?_, rfl, fun t v hg => ?_⟩)))
 ·rw [← hN]; simp; omega
 ·obtain ⟨_, h2⟩ := envOf_get _ _ _ _ hg
  have h3 : args[t]? = some v := by simpa using h2
  obtain ⟨hlt, h4⟩ := Array.getElem?_eq_some_iff.1 h3
  show (args ++ _).getD t undef = v
  simp [Array.getElem?_append_left hlt, h3]
theorem leavesM {fn : Func} {tmps : Array Value} {R : Ending → World → Prop} : ∀ (ms : List Nat) (w : World), Marks w ms → (∀ w', Chg ms w w' → ∃ v, (results fn tmps).run P w' = .ok v w' ∧ R (.returned v) w') →
  LeavesInM Fence.wide 0 P fn tmps R (ms.map mk) .returning w
 | [], w, _, h => by
  obtain ⟨v, h1, h2⟩ := h w (Chg.refl _ _)
  exact ⟨v, h1, h2⟩
 | m :: ms, w, hm, h => by
  obtain ⟨hnd, hall⟩ := hm
  have h1 := hall m (.head _)
  refine ⟨by simp, .inl ⟨m, _, rfl, run_takeDeferred h1, leavesM ms _ ⟨(List.nodup_cons.1 hnd).2, fun k hk => ?_⟩ fun w' hc => h w' ?_⟩⟩
  ·have hne : k ≠ m := fun e => (List.nodup_cons.1 hnd).1 (e ▸ hk)
   exact (World.putObj_heap_other hne).trans (hall k (.tail _ hk))
  ·exact ((Chg.putObj _).mono (fun i hi _ => by simp at hi; simp [hi])).trans hc (fun i hi _ => List.mem_cons_of_mem _ hi)
theorem resM {fn : Func} {R : Ending → World → Prop} {ms : List Nat} {vs : List Value} {x : Value} (hm : Marks w ms) (hx : x = match vs with | [v] => v | _ => .tuple vs.toArray) (h : ∀ w', Chg ms w w' → ResOK P E w' fn.results.toList vs ∧ R (.returned x) w')
  (a : Act) (ha : Sat N (ms.map mk) E a) : bodyPostM Fence.wide 0 P fn R .ret a w := by
 show LeavesInM Fence.wide 0 P fn a.tmps R a.defers .returning w
 rw [ha.defers]
 refine leavesM ms w hm fun w' hc => ?_
 obtain ⟨h1, hR⟩ := h w' hc
 refine ⟨x, ?_, hR⟩
 have h2 := ResOK.run ha _ _ h1
 change (do let vs ← fn.results.mapM (resF a); pure (if h : vs.size = 1 then vs[0] else .tuple vs) : Sem Value).run P w' = .ok x w'
 rw [Array.mapM_eq_mapM_toList]
 simp only [Sem.run_bind, Sem.run_map, h2, Result.andThen_ok, Sem.run_pure]
 subst hx
 match vs with
 | [] => simp
 | [v] => simp
 | v :: u :: r => simp
theorem res0M {fn : Func} {R : Ending → World → Prop} {vs : List Value} {x : Value} (h : ResOK P E w fn.results.toList vs) (hx : x = match vs with | [v] => v | _ => .tuple vs.toArray) (hR : R (.returned x) w)
  (a : Act) (ha : Sat N [] E a) : bodyPostM Fence.wide 0 P fn R .ret a w := by
 have h0 : bodyPost P fn R .ret a w := resN h hx hR a ha
 obtain ⟨hd, v, h1, h2⟩ := h0
 show LeavesInM Fence.wide 0 P fn a.tmps R a.defers .returning w
 rw [hd]
 exact ⟨v, h1, h2⟩
theorem Marks.stab {w A B : World} {ms O : List Nat} (h : Marks A ms) (h0 : Marks w ms) (hO : InO w O A) (hc : Chg O A B) : Marks B ms :=
 ⟨h.1, fun m hm => hc.obj (fun hm' => by have := (hO _ hm').1; have := lt_of_heap (h0.2 m hm); omega) (h.2 m hm)⟩
theorem Marks.notloop {A B : World} {l : Nat} {ms : List Nat} (h : Marks A ms) (hl : ∃ r, A.heap[l]? = some (.loop r)) (hc : Chg [l] A B) : Marks B ms :=
 ⟨h.1, fun m hm => hc.obj (fun hm' => by
  simp at hm'
  obtain ⟨r, hr⟩ := hl
  have := h.2 m hm
  rw [hm', hr] at this; cases this) (h.2 m hm)⟩
theorem _root_.Go.X.Boxes.marks {w w' : World} {ms : List Nat} {l : List (Nat × List Value × TypeId)} (h : Boxes w l) (hK : Marks w ms) (hc : Chg ms w w') : Boxes w' l :=
 h.chg hc fun x hx hm => by
  have h1 := hK.2 _ hm
  rw [h.heap x hx] at h1; cases h1
theorem Marks.nil (w : World) : Marks w [] := ⟨by simp, by simp⟩
theorem Marks.chg {f ms : List Nat} {w w' : World} (h : Marks w ms) (hc : Chg f w w') (hf : ∀ m ∈ ms, m ∉ f) : Marks w' ms := ⟨h.1, fun m hm => hc.obj (hf m hm) (h.2 m hm)⟩
theorem Marks.same {ms l : List Nat} {w w' : World} (h : Marks w ms) (hs : Same w w' l) (hl : ∀ m ∈ ms, m ∈ l) : Marks w' ms := ⟨h.1, fun m hm => (hs m (hl m hm)).trans (h.2 m hm)⟩
theorem Marks.grow {ms : List Nat} {w w' : World} {o : Obj} (h : Marks w ms) (hw : w' = World.alloc w o) : Marks w' ms := h.chg (f := []) (by subst hw; exact Chg.alloc _ _) (by simp)
theorem Marks.drew {ms : List Nat} {w w' : World} (h : Marks w ms) (hw : w' = World.drew w) : Marks w' ms := h.chg (f := []) (by subst hw; exact Chg.drew _) (by simp)
theorem Marks.set {ms : List Nat} {w w' : World} {b : Nat} {cs : Array Value} {T : TypeId} {fr : Nat × Nat} (h : Marks w ms) (hb : w.heap[b]? = some (.cells cs T fr)) (hc : Chg [b] w w') : Marks w' ms := h.chg hc fun m hm hm' => by
 simp at hm'; subst hm'
 have := h.2 _ hm
 rw [hb] at this; cases this
theorem Marks.cons {ms : List Nat} {w : World} {d : Nat} (h : Marks w ms) (hd : w.heap[d]? = some (.deferred (some []))) (hn : d ∉ ms) : Marks w (d :: ms) := ⟨List.nodup_cons.2 ⟨hn, h.1⟩, fun m hm => by
 rcases List.mem_cons.1 hm with rfl | hm
 ·exact hd
 ·exact h.2 m hm⟩
theorem Marks.cons2 {ms : List Nat} {w W : World} {d : Nat} (h : Marks W ms) (h0 : Marks w ms) (hd : w.heap.size ≤ d) (hdh : W.heap[d]? = some (.deferred (some []))) : Marks W (d :: ms) :=
 h.cons hdh fun hm => by have := lt_of_heap (h0.2 _ hm); omega
end
end Go.XR
/-! ### Ways that meet, and loops, where ranges over functions were begun: the frame's deferred ones are of the state -/
namespace Go.X
open Go
section
variable {P : Program} {N : Nat} {D : List Deferred} {Q : Exit → Act → World → Prop} {E : Env} {w : World}
theorem CW.cutD {S : Type} {x y : Code} (Ek : S → Env) (Dk : S → List Deferred) (I : S → World → Prop) (hk : ∀ s w, I s w → CW P N (Dk s) y Q (Ek s) w)
  (h : CW P N D x (Exit.then (fun a w => ∃ s, Sat N (Dk s) (Ek s) a ∧ I s w) Q) E w) : CW P N D (.seq x y) Q E w := fun a ha =>
 wp_seq (wp_mono (h a ha) fun e a' w' hq => by
  cases e with
  | normal => obtain ⟨s, hs, hI⟩ := hq; exact hk s w' hI a' hs
  | _ => exact hq)
theorem NW.cutD {S : Type} {Ek : S → Env} {Dk : S → List Deferred} {I : S → World → Prop} {Q' : Exit → Act → World → Prop} (s : S) (hs : Sub (Ek s) E) (hD : Dk s = D) (hI : I s w) : NW N D (Exit.then (fun a w => ∃ s, Sat N (Dk s) (Ek s) a ∧ I s w) Q') E w :=
 fun a ha => ⟨s, hD ▸ ha.sub hs, hI⟩
theorem CW.loopD {S : Type} {c : Code} (El : S → Env) (Dl : S → List Deferred) (I : S → World → Prop) (μ : S → World → Nat) (s₀ : S) (hs : Sub (El s₀) E) (hD : Dl s₀ = D) (hI : I s₀ w)
  (round : ∀ s w, I s w → CW P N (Dl s) c (Exit.then (fun a' w' => ∃ s', Sat N (Dl s') (El s') a' ∧ (I s' w' ∧ μ s' w' < μ s w)) Q) (El s) w) : CW P N D (.loop c) Q E w := by
 intro a ha b k cs
 have key : ∀ n s a w, μ s w = n → Sat N (Dl s) (El s) a → I s w →
   ∃ e a' w', Q e a' w' ∧ Arrives P (lone (b.at a (.code c :: .inLoop c :: k)) cs w) b k cs e a' w' := by
  intro n
  induction n using Nat.strongRecOn with
  | _ n ih =>
   intro s a w hn ha hI
   obtain ⟨e, a₁, w₁, hq, harr⟩ := round s w hI a ha b (.inLoop c :: k) cs
   cases e with
   | normal =>
    obtain ⟨s', hs', hI', hlt⟩ := hq
    obtain ⟨e₂, a₂, w₂, hq₂, harr₂⟩ := ih (μ s' w₁) (hn ▸ hlt) s' a₁ w₁ rfl hs' hI'
    exact ⟨e₂, a₂, w₂, hq₂, .of_steps (Steps.trans harr (.one step_inLoop)) harr₂⟩
   | exit id => exact ⟨_, a₁, w₁, hq, .pass (x := .inLoop c) rfl (fun _ _ => .inl (by simp)) harr⟩
   | goto l => exact ⟨_, a₁, w₁, hq, .pass (x := .inLoop c) rfl (fun _ _ => .inl (by simp)) harr⟩
   | ret => exact ⟨_, a₁, w₁, hq, .pass (x := .inLoop c) rfl (fun _ _ => .inl (by simp)) harr⟩
   | panic ch => exact ⟨_, a₁, w₁, hq, .pass (x := .inLoop c) rfl (fun _ _ => .inl (by simp)) harr⟩
   | outgrown => exact ⟨_, a₁, w₁, hq, .pass (x := .inLoop c) rfl (fun _ _ => .inl (by simp)) harr⟩
 obtain ⟨e, a', w', hq, harr⟩ := key _ s₀ a w rfl (hD ▸ ha.sub hs) hI
 exact ⟨e, a', w', hq, .of_steps (.one step_loop) harr⟩
theorem NW.loopD {S : Type} {Ek : S → Env} {Dk : S → List Deferred} {I : S → World → Prop} {μ : S → World → Nat} {n : Nat} {Q' : Exit → Act → World → Prop} (s : S) (hs : Sub (Ek s) E) (hD : Dk s = D) (hI : I s w ∧ μ s w < n) :
  NW N D (Exit.then (fun a w => ∃ s, Sat N (Dk s) (Ek s) a ∧ (I s w ∧ μ s w < n)) Q') E w :=
 fun a ha => ⟨s, hD ▸ ha.sub hs, hI⟩
end
end Go.X
end
section
namespace Go.Proofs.YtfcfkhbkkfpehaaGreat
open Go Go.X
/- pomander/pomanderlaw12.vast -/
def W_pomanderlaw12_vast (l1 : Option Addr) (l1n : Nat) (l1c : Nat) (w : World) (R : Bool → World → Prop) : Prop :=
 ((decide ((l1n : Int) > 30)) = true → R true w) ∧ ((decide ((l1n : Int) > 30)) = false → ∃ (I1 : Bool → Int → World → Prop) (m1 : Bool → Int → World → Nat), I1 false 0 w ∧ ∀ (x1 : Bool) (i1 : Int) (w1 : World), I1 x1 i1 w1 → ((decide (i1 < (l1n : Int))) = true → ∃ a1 : Addr, l1 = some a1 ∧ (0 : Int) ≤ i1 ∧ i1 < (l1n : Int) ∧ (∃ (t1 : Int), w1.cell? ((a1.add (Int.toNat i1 * 6)).add 1) = some (.int .i64 t1) ∧ (∃ J1 : Bool → World → Prop, (∀ (b1 : Bool) (w2 : World), J1 b1 w2 → ∃ J2 : Bool → World → Prop, (∀ (b2 : Bool) (w3 : World), J2 b2 w3 → (b2 = true → R true w3) ∧ (b2 = false → (I1 x1 (IntKind.wrap .i64 (i1 + 1)) w3 ∧ m1 x1 (IntKind.wrap .i64 (i1 + 1)) w3 < m1 x1 i1 w1))) ∧ ((b1 = false → ∃ (t2 : Option Addr) (t2n : Nat) (t2c : Nat), w2.cell? ((a1.add (Int.toNat i1 * 6)).add 5) = some (.slice t2 t2n t2c) ∧ (Calls Tryz.prog 56 #[.slice t2 t2n t2c] w2 fun e w4 => ∃ (r2 : Bool), e = .returned (.bool r2) ∧ (J2 r2 w4))) ∧ (b1 = true → J2 true w2))) ∧ (((decide (t1 > 200)) = true → J1 (decide (t1 ≤ 65536)) w1) ∧ ((decide (t1 > 200)) = false → J1 false w1))))) ∧ ((decide (i1 < (l1n : Int))) = false → R false w1))
set_option maxRecDepth 100000 in
theorem go_pomanderlaw12_vast (l1 : Option Addr) (l1n : Nat) (l1c : Nat) (w : World) (R : Bool → World → Prop) (h : W_pomanderlaw12_vast l1 l1n l1c w R) : Calls Tryz.prog 24 #[.slice l1 l1n l1c] w (fun e w' => ∃ (r1 : Bool), e = .returned (.bool r1) ∧ R r1 w') := by
 unfold W_pomanderlaw12_vast at h
 refine enter (N := 35) Tryz.func24 rfl rfl ?_
 refine CW.seq ?_
 refine CW.region fun L hL => ?_
 refine LW.rd hL rfl (Wants.free rfl) rfl (Rd.assign (v := .bool false) rfl) ?_
 refine LW.nil hL rfl ?_
 refine NW.then ?_
 refine CW.seq ?_
 refine CW.seq ?_
 refine CW.region fun L hL => ?_
 refine LW.rd hL rfl (Wants.free rfl) rfl (Rd.move (v := .slice l1 l1n l1c) rfl) ?_
 refine LW.rd hL rfl (Wants.free rfl) rfl (Rd.builtin (v := .int .i64 (l1n : Int)) rfl (fun _ _ => by kernel_rfl)) ?_
 refine LW.rd hL rfl (Wants.free rfl) rfl (Rd.bin (v := .bool (decide ((l1n : Int) > 30))) rfl rfl (fun w => by kernel_rfl)) ?_
 refine LW.nil hL rfl ?_
 refine NW.then ?_
 refine CW.cond rfl (fun hb1 => ?_) (fun hb1 => ?_)
 ·replace h := h.1 hb1
  refine CW.seq ?_
  refine CW.region fun L hL => ?_
  refine LW.rd hL rfl (Wants.free rfl) rfl (Rd.assign (v := .bool true) rfl) ?_
  refine LW.nil hL rfl ?_
  refine NW.then ?_
  refine CW.ret ?_
  refine RW.then ?_
  exact res1 rfl rfl ⟨true, rfl, h⟩
 ·replace h := h.2 hb1
  refine CW.skip ?_
  refine NW.then ?_
  refine CW.seq ?_
  refine CW.seq ?_
  refine CW.region fun L hL => ?_
  refine LW.rd hL rfl (Wants.free rfl) rfl (Rd.assign (v := .int .i64 0) rfl) ?_
  refine LW.nil hL rfl ?_
  refine NW.then ?_
  refine CW.block ?_
  obtain ⟨I1, m1, hI1, h⟩ := h
  refine CW.loop (S := Bool × Int) (fun s1 => [(0, .slice l1 l1n l1c), (2, .bool s1.1), (3, .int .i64 s1.2)]) (fun s1 w1 => I1 s1.1 s1.2 w1) (fun s1 w1 => m1 s1.1 s1.2 w1) (false, 0) (by exact ⟨rfl, rfl, rfl, trivial⟩) hI1 (fun s1 w1 hI1 => ?_)
  obtain ⟨x1, i1⟩ := s1; replace h := h x1 i1 w1 hI1
  refine CW.seq ?_
  refine CW.seq ?_
  refine CW.region fun L hL => ?_
  refine LW.rd hL rfl (Wants.free rfl) rfl (Rd.move (v := .int .i64 i1) rfl) ?_
  refine LW.rd hL rfl (Wants.free rfl) rfl (Rd.move (v := .slice l1 l1n l1c) rfl) ?_
  refine LW.rd hL rfl (Wants.free rfl) rfl (Rd.builtin (v := .int .i64 (l1n : Int)) rfl (fun _ _ => by kernel_rfl)) ?_
  refine LW.rd hL rfl (Wants.free rfl) rfl (Rd.bin (v := .bool (decide (i1 < (l1n : Int)))) rfl rfl (fun w => by kernel_rfl)) ?_
  refine LW.nil hL rfl ?_
  refine NW.then ?_
  refine CW.cond rfl (fun hb2 => ?_) (fun hb2 => ?_)
  ·replace h := h.1 hb2
   refine CW.skip ?_
   refine NW.then ?_
   refine CW.seq ?_
   refine CW.block ?_
   refine CW.seq ?_
   refine CW.region fun L hL => ?_
   refine LW.rd hL rfl (Wants.free rfl) rfl (Rd.move (v := .slice l1 l1n l1c) rfl) ?_
   refine LW.rd hL rfl (Wants.free rfl) rfl (Rd.move (v := .int .i64 i1) rfl) ?_
   obtain ⟨a1, he1, hi1, hi2, h⟩ := h
   refine LW.rd hL rfl (Wants.free rfl) rfl (Rd.iaS (q := a1) (sz := 6) (by rw [← he1]; rfl) rfl Tryz.underlying69 (by kernel_rfl) hi1 hi2) ?_
   refine LW.rd hL rfl (Wants.free rfl) rfl (Rd.fa (v := .pointer (some ((a1.add (Int.toNat i1 * 6)).add 1))) rfl (fun _ => by kernel_rfl)) ?_
   obtain ⟨t1, hc1, h⟩ := h
   refine LW.rd hL rfl (Wants.free rfl) rfl (Rd.ld (v := .int .i64 t1) rfl (by kernel_rfl) (eqs hc1)) ?_
   refine LW.rd hL rfl (Wants.free rfl) rfl (Rd.bin (v := .bool (decide (t1 > 200))) rfl rfl (fun w => by kernel_rfl)) ?_
   refine LW.rd hL rfl (Wants.free rfl) rfl (Rd.move (v := .bool (decide (t1 > 200))) rfl) ?_
   obtain ⟨J1, hJ1, h1_J1, h0_J1⟩ := h
   suffices K1 : ∀ (b1 : Bool) (w2 : World), J1 b1 w2 → L 14 [(0, .slice l1 l1n l1c), (2, .bool x1), (3, .int .i64 i1), (26, .bool b1)] w2 by
    rcases Bool.eq_false_or_eq_true (decide (t1 > 200)) with hb3 | hb3
    ·have h := h1_J1 hb3
     refine LW.rd hL rfl (Wants.on rfl rfl rfl rfl rfl hb3) rfl (Rd.move (v := .slice l1 l1n l1c) rfl) ?_
     refine LW.rd hL rfl (Wants.on rfl rfl rfl rfl rfl hb3) rfl (Rd.move (v := .int .i64 i1) rfl) ?_
     refine LW.rd hL rfl (Wants.on rfl rfl rfl rfl rfl hb3) rfl (Rd.iaS (q := a1) (sz := 6) (by rw [← he1]; rfl) rfl Tryz.underlying69 (by kernel_rfl) hi1 hi2) ?_
     refine LW.rd hL rfl (Wants.on rfl rfl rfl rfl rfl hb3) rfl (Rd.fa (v := .pointer (some ((a1.add (Int.toNat i1 * 6)).add 1))) rfl (fun _ => by kernel_rfl)) ?_
     refine LW.rd hL rfl (Wants.on rfl rfl rfl rfl rfl hb3) rfl (Rd.ld (v := .int .i64 t1) rfl (by kernel_rfl) (eqs hc1)) ?_
     refine LW.rd hL rfl (Wants.on rfl rfl rfl rfl rfl hb3) rfl (Rd.bin (v := .bool (decide (t1 ≤ 65536))) rfl rfl (fun w => by kernel_rfl)) ?_
     refine LW.rd hL rfl (Wants.free rfl) rfl (Rd.pickT rfl hb3 rfl) ?_
     exact LW.sub hL (by exact ⟨rfl, rfl, rfl, rfl, trivial⟩) (K1 (decide (t1 ≤ 65536)) w1 h)
    ·have h := h0_J1 hb3
     refine LW.skip hL rfl (Skips.on rfl rfl rfl rfl rfl hb3) rfl ?_
     refine LW.skip hL rfl (Skips.on rfl rfl rfl rfl rfl hb3) rfl ?_
     refine LW.skip hL rfl (Skips.on rfl rfl rfl rfl rfl hb3) rfl ?_
     refine LW.skip hL rfl (Skips.on rfl rfl rfl rfl rfl hb3) rfl ?_
     refine LW.skip hL rfl (Skips.on rfl rfl rfl rfl rfl hb3) rfl ?_
     refine LW.skip hL rfl (Skips.on rfl rfl rfl rfl rfl hb3) rfl ?_
     refine LW.rd hL rfl (Wants.free rfl) rfl (Rd.pickF rfl hb3 rfl) ?_
     exact LW.sub hL (by exact ⟨rfl, rfl, rfl, rfl, trivial⟩) (K1 false w1 h)
   intro b1 w2 h_
   have h := hJ1 b1 w2 h_; clear h_
   refine LW.rd hL rfl (Wants.free rfl) rfl (Rd.move (v := .bool b1) rfl) ?_
   obtain ⟨J2, hJ2, h1_J2, h0_J2⟩ := h
   suffices K2 : ∀ (b2 : Bool) (w3 : World), J2 b2 w3 → L 22 [(0, .slice l1 l1n l1c), (2, .bool x1), (3, .int .i64 i1), (34, .bool b2)] w3 by
    rcases Bool.eq_false_or_eq_true b1 with hb4 | hb4
    ·have h := h0_J2 hb4
     refine LW.skip hL rfl (Skips.on rfl rfl rfl rfl rfl hb4) rfl ?_
     refine LW.skip hL rfl (Skips.on rfl rfl rfl rfl rfl hb4) rfl ?_
     refine LW.skip hL rfl (Skips.on rfl rfl rfl rfl rfl hb4) rfl ?_
     refine LW.skip hL rfl (Skips.on rfl rfl rfl rfl rfl hb4) rfl ?_
     refine LW.skip hL rfl (Skips.on rfl rfl rfl rfl rfl hb4) rfl ?_
     refine LW.skip hL rfl (Skips.on rfl rfl rfl rfl rfl hb4) rfl ?_
     refine LW.rd hL rfl (Wants.free rfl) rfl (Rd.pickT rfl hb4 rfl) ?_
     exact LW.sub hL (by exact ⟨rfl, rfl, rfl, rfl, trivial⟩) (K2 true w2 h)
    ·have h := h1_J2 hb4
     refine LW.rd hL rfl (Wants.on rfl rfl rfl rfl rfl hb4) rfl (Rd.move (v := .slice l1 l1n l1c) rfl) ?_
     refine LW.rd hL rfl (Wants.on rfl rfl rfl rfl rfl hb4) rfl (Rd.move (v := .int .i64 i1) rfl) ?_
     refine LW.rd hL rfl (Wants.on rfl rfl rfl rfl rfl hb4) rfl (Rd.iaS (q := a1) (sz := 6) (by rw [← he1]; rfl) rfl Tryz.underlying69 (by kernel_rfl) hi1 hi2) ?_
     refine LW.rd hL rfl (Wants.on rfl rfl rfl rfl rfl hb4) rfl (Rd.fa (v := .pointer (some ((a1.add (Int.toNat i1 * 6)).add 5))) rfl (fun _ => by kernel_rfl)) ?_
     obtain ⟨t2, t2n, t2c, hc2, h⟩ := h
     refine LW.rd hL rfl (Wants.on rfl rfl rfl rfl rfl hb4) rfl (Rd.ld (v := .slice t2 t2n t2c) rfl (by kernel_rfl) (eqs hc2)) ?_
     refine LW.call hL rfl (Wants.on rfl rfl rfl rfl rfl hb4) rfl (Cl.fn (f := 56) rfl Tryz.func56 (by kernel_rfl) rfl) h (fun e w4 h_ => ?_)
     clear h
     obtain ⟨r2, rfl, h⟩ := h_
     refine ⟨_, rfl, ?_⟩
     refine LW.rd hL rfl (Wants.free rfl) rfl (Rd.pickF rfl hb4 rfl) ?_
     exact LW.sub hL (by exact ⟨rfl, rfl, rfl, rfl, trivial⟩) (K2 r2 w4 h)
   intro b2 w3 h_
   have h := hJ2 b2 w3 h_; clear h_
   refine LW.nil hL rfl ?_
   refine NW.then ?_
   refine CW.cond rfl (fun hb5 => ?_) (fun hb5 => ?_)
   ·replace h := h.1 hb5
    refine CW.seq ?_
    refine CW.region fun L hL => ?_
    refine LW.rd hL rfl (Wants.free rfl) rfl (Rd.assign (v := .bool true) rfl) ?_
    refine LW.nil hL rfl ?_
    refine NW.then ?_
    refine CW.ret ?_
    refine RW.block ?_
    refine RW.then ?_
    refine RW.then ?_
    refine RW.block ?_
    refine RW.then ?_
    exact res1 rfl rfl ⟨true, rfl, h⟩
   ·replace h := h.2 hb5
    refine CW.skip ?_
    refine NW.block ?_
    refine NW.then ?_
    refine CW.region fun L hL => ?_
    refine LW.rd hL rfl (Wants.free rfl) rfl (Rd.move (v := .int .i64 i1) rfl) ?_
    refine LW.rd hL rfl (Wants.free rfl) rfl (Rd.bin (v := .int .i64 (IntKind.wrap .i64 (i1 + 1))) rfl rfl (fun w => by kernel_rfl)) ?_
    refine LW.rd hL rfl (Wants.free rfl) rfl (Rd.assign (v := .int .i64 (IntKind.wrap .i64 (i1 + 1))) rfl) ?_
    refine LW.nil hL rfl ?_
    exact NW.loop (S := Bool × Int) (Ek := fun s1 => [(0, .slice l1 l1n l1c), (2, .bool s1.1), (3, .int .i64 s1.2)]) (x1, IntKind.wrap .i64 (i1 + 1)) (by exact ⟨rfl, rfl, rfl, trivial⟩) h
  ·replace h := h.2 hb2
   refine CW.exit ?_
   refine XW.then ?_
   refine XW.then ?_
   refine XW.hit ?_
   refine NW.then ?_
   refine CW.seq ?_
   refine CW.region fun L hL => ?_
   refine LW.rd hL rfl (Wants.free rfl) rfl (Rd.assign (v := .bool false) rfl) ?_
   refine LW.nil hL rfl ?_
   refine NW.then ?_
   refine CW.ret ?_
   exact res1 rfl rfl ⟨false, rfl, h⟩
/- pomander/pomanderlaw12.broad -/
def W_pomanderlaw12_broad (l1 : Option Addr) (l1n : Nat) (l1c : Nat) (w : World) (R : Bool → World → Prop) : Prop :=
 ((decide ((l1n : Int) > 20)) = true → R true w) ∧ ((decide ((l1n : Int) > 20)) = false → ∃ (I1 : Bool → Int → World → Prop) (m1 : Bool → Int → World → Nat), I1 false 0 w ∧ ∀ (x1 : Bool) (i1 : Int) (w1 : World), I1 x1 i1 w1 → ((decide (i1 < (l1n : Int))) = true → ∃ a1 : Addr, l1 = some a1 ∧ (0 : Int) ≤ i1 ∧ i1 < (l1n : Int) ∧ (∃ (t1 : Option Addr) (t1n : Nat) (t1c : Nat), w1.cell? ((a1.add (Int.toNat i1 * 3)).add 2) = some (.slice t1 t1n t1c) ∧ (((decide ((t1n : Int) > 20)) = true → R true w1) ∧ ((decide ((t1n : Int) > 20)) = false → (I1 x1 (IntKind.wrap .i64 (i1 + 1)) w1 ∧ m1 x1 (IntKind.wrap .i64 (i1 + 1)) w1 < m1 x1 i1 w1))))) ∧ ((decide (i1 < (l1n : Int))) = false → R false w1))
set_option maxRecDepth 100000 in
theorem go_pomanderlaw12_broad (l1 : Option Addr) (l1n : Nat) (l1c : Nat) (w : World) (R : Bool → World → Prop) (h : W_pomanderlaw12_broad l1 l1n l1c w R) : Calls Tryz.prog 56 #[.slice l1 l1n l1c] w (fun e w' => ∃ (r1 : Bool), e = .returned (.bool r1) ∧ R r1 w') := by
 unfold W_pomanderlaw12_broad at h
 refine enter (N := 20) Tryz.func56 rfl rfl ?_
 refine CW.seq ?_
 refine CW.region fun L hL => ?_
 refine LW.rd hL rfl (Wants.free rfl) rfl (Rd.assign (v := .bool false) rfl) ?_
 refine LW.nil hL rfl ?_
 refine NW.then ?_
 refine CW.seq ?_
 refine CW.seq ?_
 refine CW.region fun L hL => ?_
 refine LW.rd hL rfl (Wants.free rfl) rfl (Rd.move (v := .slice l1 l1n l1c) rfl) ?_
 refine LW.rd hL rfl (Wants.free rfl) rfl (Rd.builtin (v := .int .i64 (l1n : Int)) rfl (fun _ _ => by kernel_rfl)) ?_
 refine LW.rd hL rfl (Wants.free rfl) rfl (Rd.bin (v := .bool (decide ((l1n : Int) > 20))) rfl rfl (fun w => by kernel_rfl)) ?_
 refine LW.nil hL rfl ?_
 refine NW.then ?_
 refine CW.cond rfl (fun hb1 => ?_) (fun hb1 => ?_)
 ·replace h := h.1 hb1
  refine CW.seq ?_
  refine CW.region fun L hL => ?_
  refine LW.rd hL rfl (Wants.free rfl) rfl (Rd.assign (v := .bool true) rfl) ?_
  refine LW.nil hL rfl ?_
  refine NW.then ?_
  refine CW.ret ?_
  refine RW.then ?_
  exact res1 rfl rfl ⟨true, rfl, h⟩
 ·replace h := h.2 hb1
  refine CW.skip ?_
  refine NW.then ?_
  refine CW.seq ?_
  refine CW.seq ?_
  refine CW.region fun L hL => ?_
  refine LW.rd hL rfl (Wants.free rfl) rfl (Rd.assign (v := .int .i64 0) rfl) ?_
  refine LW.nil hL rfl ?_
  refine NW.then ?_
  refine CW.block ?_
  obtain ⟨I1, m1, hI1, h⟩ := h
  refine CW.loop (S := Bool × Int) (fun s1 => [(0, .slice l1 l1n l1c), (2, .bool s1.1), (3, .int .i64 s1.2)]) (fun s1 w1 => I1 s1.1 s1.2 w1) (fun s1 w1 => m1 s1.1 s1.2 w1) (false, 0) (by exact ⟨rfl, rfl, rfl, trivial⟩) hI1 (fun s1 w1 hI1 => ?_)
  obtain ⟨x1, i1⟩ := s1; replace h := h x1 i1 w1 hI1
  refine CW.seq ?_
  refine CW.seq ?_
  refine CW.region fun L hL => ?_
  refine LW.rd hL rfl (Wants.free rfl) rfl (Rd.move (v := .int .i64 i1) rfl) ?_
  refine LW.rd hL rfl (Wants.free rfl) rfl (Rd.move (v := .slice l1 l1n l1c) rfl) ?_
  refine LW.rd hL rfl (Wants.free rfl) rfl (Rd.builtin (v := .int .i64 (l1n : Int)) rfl (fun _ _ => by kernel_rfl)) ?_
  refine LW.rd hL rfl (Wants.free rfl) rfl (Rd.bin (v := .bool (decide (i1 < (l1n : Int)))) rfl rfl (fun w => by kernel_rfl)) ?_
  refine LW.nil hL rfl ?_
  refine NW.then ?_
  refine CW.cond rfl (fun hb2 => ?_) (fun hb2 => ?_)
  ·replace h := h.1 hb2
   refine CW.skip ?_
   refine NW.then ?_
   refine CW.seq ?_
   refine CW.block ?_
   refine CW.seq ?_
   refine CW.region fun L hL => ?_
   refine LW.rd hL rfl (Wants.free rfl) rfl (Rd.move (v := .slice l1 l1n l1c) rfl) ?_
   refine LW.rd hL rfl (Wants.free rfl) rfl (Rd.move (v := .int .i64 i1) rfl) ?_
   obtain ⟨a1, he1, hi1, hi2, h⟩ := h
   refine LW.rd hL rfl (Wants.free rfl) rfl (Rd.iaS (q := a1) (sz := 3) (by rw [← he1]; rfl) rfl Tryz.underlying27 (by kernel_rfl) hi1 hi2) ?_
   refine LW.rd hL rfl (Wants.free rfl) rfl (Rd.fa (v := .pointer (some ((a1.add (Int.toNat i1 * 3)).add 2))) rfl (fun _ => by kernel_rfl)) ?_
   obtain ⟨t1, t1n, t1c, hc1, h⟩ := h
   refine LW.rd hL rfl (Wants.free rfl) rfl (Rd.ld (v := .slice t1 t1n t1c) rfl (by kernel_rfl) (eqs hc1)) ?_
   refine LW.rd hL rfl (Wants.free rfl) rfl (Rd.builtin (v := .int .i64 (t1n : Int)) rfl (fun _ _ => by kernel_rfl)) ?_
   refine LW.rd hL rfl (Wants.free rfl) rfl (Rd.bin (v := .bool (decide ((t1n : Int) > 20))) rfl rfl (fun w => by kernel_rfl)) ?_
   refine LW.nil hL rfl ?_
   refine NW.then ?_
   refine CW.cond rfl (fun hb3 => ?_) (fun hb3 => ?_)
   ·replace h := h.1 hb3
    refine CW.seq ?_
    refine CW.region fun L hL => ?_
    refine LW.rd hL rfl (Wants.free rfl) rfl (Rd.assign (v := .bool true) rfl) ?_
    refine LW.nil hL rfl ?_
    refine NW.then ?_
    refine CW.ret ?_
    refine RW.block ?_
    refine RW.then ?_
    refine RW.then ?_
    refine RW.block ?_
    refine RW.then ?_
    exact res1 rfl rfl ⟨true, rfl, h⟩
   ·replace h := h.2 hb3
    refine CW.skip ?_
    refine NW.block ?_
    refine NW.then ?_
    refine CW.region fun L hL => ?_
    refine LW.rd hL rfl (Wants.free rfl) rfl (Rd.move (v := .int .i64 i1) rfl) ?_
    refine LW.rd hL rfl (Wants.free rfl) rfl (Rd.bin (v := .int .i64 (IntKind.wrap .i64 (i1 + 1))) rfl rfl (fun w => by kernel_rfl)) ?_
    refine LW.rd hL rfl (Wants.free rfl) rfl (Rd.assign (v := .int .i64 (IntKind.wrap .i64 (i1 + 1))) rfl) ?_
    refine LW.nil hL rfl ?_
    exact NW.loop (S := Bool × Int) (Ek := fun s1 => [(0, .slice l1 l1n l1c), (2, .bool s1.1), (3, .int .i64 s1.2)]) (x1, IntKind.wrap .i64 (i1 + 1)) (by exact ⟨rfl, rfl, rfl, trivial⟩) h
  ·replace h := h.2 hb2
   refine CW.exit ?_
   refine XW.then ?_
   refine XW.then ?_
   refine XW.hit ?_
   refine NW.then ?_
   refine CW.seq ?_
   refine CW.region fun L hL => ?_
   refine LW.rd hL rfl (Wants.free rfl) rfl (Rd.assign (v := .bool false) rfl) ?_
   refine LW.nil hL rfl ?_
   refine NW.then ?_
   refine CW.ret ?_
   exact res1 rfl rfl ⟨false, rfl, h⟩
/- pomander/pomanderlaw12.known -/
def W_pomanderlaw12_known  (w : World) (R : Bool → World → Prop) : Prop :=
 Calls Tryz.prog 26 #[.agg #[.int .i64 1, .int .i64 1], .int .i64 4] w fun e w1 => ∃ (r2 : Option Addr) (r3 : Int), e = .returned (.tuple #[.pointer r2, .int .i64 r3]) ∧ (∀ (b2 b1 : Nat) (w5 : World), (w1.heap.size ≤ b2 ∧ b2 < w5.heap.size) → (w1.heap.size ≤ b1 ∧ b1 < w5.heap.size) → Chg [] w1 w5 → (Calls Tryz.prog 31 #[.pointer r2, .agg #[.int .i64 13, .int .i64 0], .int .i64 2, .int .u32 1] w5 fun e w6 => ∃ (r4 : Int), e = .returned (.int .i64 r4) ∧ (Same w5 w6 [b2, b1] ∧ (∀ b3 : Nat, b3 = World.size w6 → ∀ w7 : World, w7 = World.alloc w6 (.cells #[.int .i64 13, .int .i64 0] 62) → (∀ b4 : Nat, b4 = World.size w7 → ∀ w8 : World, w8 = World.alloc w7 (.cells #[.int .i64 1, .int .i64 1, .slice (some (⟨b3, 0, none⟩ : Addr)) 1 1] 65) → (Calls Tryz.prog 32 #[.pointer r2, .slice (some (⟨b4, 0, none⟩ : Addr)) 1 1] w8 fun e w9 => ∃ (r5 : Int), e = .returned (.int .i64 r5) ∧ (Same w8 w9 [b2] ∧ (Calls Tryz.prog 35 #[.pointer r2, .agg #[.int .i64 1, .int .i64 1]] w9 fun e w10 => ∃ (r6 : Int) (r7 : Int), e = .returned (.tuple #[.int .u32 r6, .int .i64 r7]) ∧ (R ((((r3 == 0 && r4 == 0) && r5 == 0) && r6 == 1) && r7 == 0) w10)))))))))
set_option maxRecDepth 100000 in
theorem go_pomanderlaw12_known  (w : World) (R : Bool → World → Prop) (h : W_pomanderlaw12_known  w R) : Calls Tryz.prog 25 #[] w (fun e w' => ∃ (r1 : Bool), e = .returned (.bool r1) ∧ R r1 w') := by
 unfold W_pomanderlaw12_known at h
 refine enter (N := 50) Tryz.func25 rfl rfl ?_
 refine CW.seq ?_
 refine CW.region fun L hL => ?_
 refine LW.rd hL rfl (Wants.free rfl) rfl (Rd.assign (v := .bool false) rfl) ?_
 refine LW.nil hL rfl ?_
 refine NW.then ?_
 refine CW.seq ?_
 refine CW.region fun L hL => ?_
 refine LW.rd hL rfl (Wants.free rfl) rfl (Rd.build (v := .agg #[.int .i64 1, .int .i64 1]) rfl (fun _ => by kernel_rfl)) ?_
 refine LW.call hL rfl (Wants.free rfl) rfl (Cl.fn (f := 26) rfl Tryz.func26 (by kernel_rfl) rfl) h (fun e w1 h_ => ?_)
 clear h
 obtain ⟨r2, r3, rfl, h⟩ := h_
 refine ⟨_, rfl, ?_⟩
 refine LW.rd hL rfl (Wants.free rfl) rfl (Rd.move (v := .tuple #[.pointer r2, .int .i64 r3]) rfl) ?_
 refine LW.rd hL rfl (Wants.free rfl) rfl (Rd.extract (v := .pointer r2) rfl rfl) ?_
 refine LW.rd hL rfl (Wants.free rfl) rfl (Rd.extract (v := .int .i64 r3) rfl rfl) ?_
 refine LW.rd hL rfl (Wants.free rfl) rfl (Rd.assign (v := .pointer r2) rfl) ?_
 refine LW.rd hL rfl (Wants.free rfl) rfl (Rd.assign (v := .int .i64 r3) rfl) ?_
 refine LW.nil hL rfl ?_
 refine NW.then ?_
 refine CW.seq ?_
 refine CW.region fun L hL => ?_
 refine LW.rd hL rfl (Wants.free rfl) rfl (Rd.build (v := .agg #[.int .i64 13, .int .i64 0]) rfl (fun _ => by kernel_rfl)) ?_
 refine LW.rd hL rfl (Wants.free rfl) rfl (Rd.build (v := .agg #[.int .i64 1, .int .i64 1]) rfl (fun _ => by kernel_rfl)) ?_
 obtain ⟨b1, hb_b1⟩ : ∃ b1, b1 = World.size w1 := ⟨_, rfl⟩
 obtain ⟨w2, hw_w2⟩ : ∃ w2, w2 = World.alloc w1 (.cells #[.int .i64 0, .int .i64 0] 62) := ⟨_, rfl⟩
 refine LW.val hL rfl (Wants.free rfl) rfl (boxE hb_b1 hw_w2 (Vl.alloc (z := .agg #[.int .i64 0, .int .i64 0]) (by kernel_rfl))) ?_
 have hB := Boxes.alloc (cs := [.int .i64 0, .int .i64 0]) (T := 62) (Boxes.nil w1) hb_b1 hw_w2
 have hlo_b1 := sil_lo (Chg.refl [] w1) hb_b1
 have hc_w2 := sil_alloc (Chg.refl [] w1) hw_w2
 obtain ⟨b2, hb_b2⟩ : ∃ b2, b2 = World.size w2 := ⟨_, rfl⟩
 obtain ⟨w3, hw_w3⟩ : ∃ w3, w3 = World.alloc w2 (.cells #[.int .i64 0, .int .i64 0] 62) := ⟨_, rfl⟩
 refine LW.val hL rfl (Wants.free rfl) rfl (boxE hb_b2 hw_w3 (Vl.alloc (z := .agg #[.int .i64 0, .int .i64 0]) (by kernel_rfl))) ?_
 replace hB := Boxes.alloc (cs := [.int .i64 0, .int .i64 0]) (T := 62) hB hb_b2 hw_w3
 have hlo_b2 := sil_lo hc_w2 hb_b2
 have hc_w3 := sil_alloc hc_w2 hw_w3
 obtain ⟨w4, hw_w4⟩ : ∃ x, x = setCells w3 (⟨b1, 0, none⟩ : Addr) 0 [.int .i64 13, .int .i64 0] := ⟨_, rfl⟩
 refine LW.eff hL rfl (Wants.free rfl) rfl (stNE hw_w4 (Ef.stN (cs := [.int .i64 13, .int .i64 0]) rfl rfl (by kernel_rfl) (List.forall_mem_cons.2 ⟨rfl, (List.forall_mem_cons.2 ⟨rfl, (List.forall_mem_nil _)⟩)⟩) (has_of (hB.at (i := 1) rfl) (by simp)) (free_of' (hB.at (i := 1) rfl)))) ?_
 replace hB : Boxes w4 [(b2, [.int .i64 0, .int .i64 0], 62), (b1, [.int .i64 13, .int .i64 0], 62)] := Boxes.store (vs := [.int .i64 13, .int .i64 0]) (i := 1) (o := 0) hB rfl rfl rfl rfl hw_w4
 have hc_w4 := sil_new hc_w3 (sil_cN hw_w4) hlo_b1
 obtain ⟨w5, hw_w5⟩ : ∃ x, x = setCells w4 (⟨b2, 0, none⟩ : Addr) 0 [.int .i64 1, .int .i64 1] := ⟨_, rfl⟩
 refine LW.eff hL rfl (Wants.free rfl) rfl (stNE hw_w5 (Ef.stN (cs := [.int .i64 1, .int .i64 1]) rfl rfl (by kernel_rfl) (List.forall_mem_cons.2 ⟨rfl, (List.forall_mem_cons.2 ⟨rfl, (List.forall_mem_nil _)⟩)⟩) (has_of (hB.at (i := 0) rfl) (by simp)) (free_of' (hB.at (i := 0) rfl)))) ?_
 replace hB : Boxes w5 [(b2, [.int .i64 1, .int .i64 1], 62), (b1, [.int .i64 13, .int .i64 0], 62)] := Boxes.store (vs := [.int .i64 1, .int .i64 1]) (i := 0) (o := 0) hB rfl rfl rfl rfl hw_w5
 have hc_w5 := sil_new hc_w4 (sil_cN hw_w5) hlo_b2
 refine LW.nil hL rfl ?_
 refine NW.then ?_
 refine CW.seq ?_
 refine CW.region fun L hL => ?_
 refine LW.rd hL rfl (Wants.free rfl) rfl (Rd.move (v := .pointer r2) rfl) ?_
 refine LW.rd hL rfl (Wants.free rfl) rfl (Rd.ldN (cs := [.int .i64 13, .int .i64 0]) rfl (by kernel_rfl) (by kernel_rfl) (cellsS (box_cells (hB.at (i := 1) rfl) rfl))) ?_
 replace h := h b2 b1 w5 ⟨hlo_b2, lt_of_heap (hB.at (i := 0) rfl)⟩ ⟨hlo_b1, lt_of_heap (hB.at (i := 1) rfl)⟩ hc_w5
 refine LW.call hL rfl (Wants.free rfl) rfl (Cl.fn (f := 31) rfl Tryz.func31 (by kernel_rfl) rfl) h (fun e w6 h_ => ?_)
 clear h
 obtain ⟨r4, rfl, h⟩ := h_
 obtain ⟨hsm1, h⟩ := h
 replace hB := Boxes.sameS hB hsm1 (by simp)
 refine ⟨_, rfl, ?_⟩
 refine LW.rd hL rfl (Wants.free rfl) rfl (Rd.assign (v := .int .i64 r4) rfl) ?_
 refine LW.nil hL rfl ?_
 refine NW.then ?_
 refine CW.seq ?_
 refine CW.region fun L hL => ?_
 refine LW.rd hL rfl (Wants.free rfl) rfl (Rd.move (v := .pointer r2) rfl) ?_
 refine LW.rd hL rfl (Wants.free rfl) rfl (Rd.ldN (cs := [.int .i64 1, .int .i64 1]) rfl (by kernel_rfl) (by kernel_rfl) (cellsS (box_cells (hB.at (i := 0) rfl) rfl))) ?_
 refine LW.rd hL rfl (Wants.free rfl) rfl (Rd.ldN (cs := [.int .i64 13, .int .i64 0]) rfl (by kernel_rfl) (by kernel_rfl) (cellsS (box_cells (hB.at (i := 1) rfl) rfl))) ?_
 obtain ⟨b3, hb_b3⟩ : ∃ b3, b3 = World.size w6 := ⟨_, rfl⟩
 obtain ⟨w7, hw_w7⟩ : ∃ w7, w7 = World.alloc w6 (.cells #[.int .i64 13, .int .i64 0] 62) := ⟨_, rfl⟩
 replace h := h b3 hb_b3 w7 hw_w7
 refine LW.val hL rfl (Wants.free rfl) rfl (sliceE (n := 1) hb_b3 hw_w7 (fun w => Vl.buildSlice (vs := [(0, .agg #[.int .i64 13, .int .i64 0])]) rfl (by kernel_rfl))) ?_
 replace hB := hB.grow hw_w7
 refine LW.rd hL rfl (Wants.free rfl) rfl (Rd.build (v := .agg #[.int .i64 1, .int .i64 1, .slice (some (⟨b3, 0, none⟩ : Addr)) 1 1]) rfl (fun _ => by kernel_rfl)) ?_
 obtain ⟨b4, hb_b4⟩ : ∃ b4, b4 = World.size w7 := ⟨_, rfl⟩
 obtain ⟨w8, hw_w8⟩ : ∃ w8, w8 = World.alloc w7 (.cells #[.int .i64 1, .int .i64 1, .slice (some (⟨b3, 0, none⟩ : Addr)) 1 1] 65) := ⟨_, rfl⟩
 replace h := h b4 hb_b4 w8 hw_w8
 refine LW.val hL rfl (Wants.free rfl) rfl (sliceE (n := 1) hb_b4 hw_w8 (fun w => Vl.buildSlice (vs := [(0, .agg #[.int .i64 1, .int .i64 1, .slice (some (⟨b3, 0, none⟩ : Addr)) 1 1])]) rfl (by kernel_rfl))) ?_
 replace hB := hB.grow hw_w8
 refine LW.call hL rfl (Wants.free rfl) rfl (Cl.fn (f := 32) rfl Tryz.func32 (by kernel_rfl) rfl) h (fun e w9 h_ => ?_)
 clear h
 obtain ⟨r5, rfl, h⟩ := h_
 obtain ⟨hsm2, h⟩ := h
 replace hB := Boxes.sameS (hB.sel [0] (by decide) rfl) hsm2 (by simp)
 refine ⟨_, rfl, ?_⟩
 refine LW.rd hL rfl (Wants.free rfl) rfl (Rd.assign (v := .int .i64 r5) rfl) ?_
 refine LW.nil hL rfl ?_
 refine NW.then ?_
 refine CW.seq ?_
 refine CW.region fun L hL => ?_
 refine LW.rd hL rfl (Wants.free rfl) rfl (Rd.move (v := .pointer r2) rfl) ?_
 refine LW.rd hL rfl (Wants.free rfl) rfl (Rd.ldN (cs := [.int .i64 1, .int .i64 1]) rfl (by kernel_rfl) (by kernel_rfl) (cellsS (box_cells (hB.at (i := 0) rfl) rfl))) ?_
 refine LW.call hL rfl (Wants.free rfl) rfl (Cl.fn (f := 35) rfl Tryz.func35 (by kernel_rfl) rfl) h (fun e w10 h_ => ?_)
 clear h
 obtain ⟨r6, r7, rfl, h⟩ := h_
 refine ⟨_, rfl, ?_⟩
 refine LW.rd hL rfl (Wants.free rfl) rfl (Rd.move (v := .tuple #[.int .u32 r6, .int .i64 r7]) rfl) ?_
 refine LW.rd hL rfl (Wants.free rfl) rfl (Rd.extract (v := .int .u32 r6) rfl rfl) ?_
 refine LW.rd hL rfl (Wants.free rfl) rfl (Rd.extract (v := .int .i64 r7) rfl rfl) ?_
 refine LW.rd hL rfl (Wants.free rfl) rfl (Rd.assign (v := .int .u32 r6) rfl) ?_
 refine LW.rd hL rfl (Wants.free rfl) rfl (Rd.assign (v := .int .i64 r7) rfl) ?_
 refine LW.nil hL rfl ?_
 refine NW.then ?_
 refine CW.seq ?_
 refine CW.region fun L hL => ?_
 refine LW.rd hL rfl (Wants.free rfl) rfl (Rd.move (v := .int .i64 r3) rfl) ?_
 refine LW.rd hL rfl (Wants.free rfl) rfl (Rd.bin (v := .bool (r3 == 0)) rfl rfl (fun w => by kernel_rfl)) ?_
 refine LW.rd hL rfl (Wants.free rfl) rfl (Rd.move (v := .bool (r3 == 0)) rfl) ?_
 suffices K1 : L 6 [(0, .bool false), (6, .int .i64 r5), (7, .int .u32 r6), (8, .int .i64 r7), (37, .bool (r3 == 0 && r4 == 0))] w10 by
  rcases Bool.eq_false_or_eq_true (r3 == 0) with hb2 | hb2
  ·skip
   refine LW.rd hL rfl (Wants.on rfl rfl rfl rfl rfl hb2) rfl (Rd.move (v := .int .i64 r4) rfl) ?_
   refine LW.rd hL rfl (Wants.on rfl rfl rfl rfl rfl hb2) rfl (Rd.bin (v := .bool (r4 == 0)) rfl rfl (fun w => by kernel_rfl)) ?_
   refine LW.rd hL rfl (Wants.free rfl) rfl (Rd.pickT rfl hb2 rfl) ?_
   exact LW.sub hL (by exact ⟨rfl, rfl, rfl, rfl, (by rw [hb2]; rfl), trivial⟩) K1
  ·skip
   refine LW.skip hL rfl (Skips.on rfl rfl rfl rfl rfl hb2) rfl ?_
   refine LW.skip hL rfl (Skips.on rfl rfl rfl rfl rfl hb2) rfl ?_
   refine LW.rd hL rfl (Wants.free rfl) rfl (Rd.pickF rfl hb2 rfl) ?_
   exact LW.sub hL (by exact ⟨rfl, rfl, rfl, rfl, (by rw [hb2]; rfl), trivial⟩) K1
 refine LW.rd hL rfl (Wants.free rfl) rfl (Rd.move (v := .bool (r3 == 0 && r4 == 0)) rfl) ?_
 suffices K2 : L 10 [(0, .bool false), (7, .int .u32 r6), (8, .int .i64 r7), (41, .bool ((r3 == 0 && r4 == 0) && r5 == 0))] w10 by
  rcases Bool.eq_false_or_eq_true (r3 == 0 && r4 == 0) with hb4 | hb4
  ·skip
   refine LW.rd hL rfl (Wants.on rfl rfl rfl rfl rfl hb4) rfl (Rd.move (v := .int .i64 r5) rfl) ?_
   refine LW.rd hL rfl (Wants.on rfl rfl rfl rfl rfl hb4) rfl (Rd.bin (v := .bool (r5 == 0)) rfl rfl (fun w => by kernel_rfl)) ?_
   refine LW.rd hL rfl (Wants.free rfl) rfl (Rd.pickT rfl hb4 rfl) ?_
   exact LW.sub hL (by exact ⟨rfl, rfl, rfl, (by rw [hb4]; rfl), trivial⟩) K2
  ·skip
   refine LW.skip hL rfl (Skips.on rfl rfl rfl rfl rfl hb4) rfl ?_
   refine LW.skip hL rfl (Skips.on rfl rfl rfl rfl rfl hb4) rfl ?_
   refine LW.rd hL rfl (Wants.free rfl) rfl (Rd.pickF rfl hb4 rfl) ?_
   exact LW.sub hL (by exact ⟨rfl, rfl, rfl, (by rw [hb4]; rfl), trivial⟩) K2
 refine LW.rd hL rfl (Wants.free rfl) rfl (Rd.move (v := .bool ((r3 == 0 && r4 == 0) && r5 == 0)) rfl) ?_
 suffices K3 : L 14 [(0, .bool false), (8, .int .i64 r7), (45, .bool (((r3 == 0 && r4 == 0) && r5 == 0) && r6 == 1))] w10 by
  rcases Bool.eq_false_or_eq_true ((r3 == 0 && r4 == 0) && r5 == 0) with hb6 | hb6
  ·skip
   refine LW.rd hL rfl (Wants.on rfl rfl rfl rfl rfl hb6) rfl (Rd.move (v := .int .u32 r6) rfl) ?_
   refine LW.rd hL rfl (Wants.on rfl rfl rfl rfl rfl hb6) rfl (Rd.bin (v := .bool (r6 == 1)) rfl rfl (fun w => by kernel_rfl)) ?_
   refine LW.rd hL rfl (Wants.free rfl) rfl (Rd.pickT rfl hb6 rfl) ?_
   exact LW.sub hL (by exact ⟨rfl, rfl, (by rw [hb6]; rfl), trivial⟩) K3
  ·skip
   refine LW.skip hL rfl (Skips.on rfl rfl rfl rfl rfl hb6) rfl ?_
   refine LW.skip hL rfl (Skips.on rfl rfl rfl rfl rfl hb6) rfl ?_
   refine LW.rd hL rfl (Wants.free rfl) rfl (Rd.pickF rfl hb6 rfl) ?_
   exact LW.sub hL (by exact ⟨rfl, rfl, (by rw [hb6]; rfl), trivial⟩) K3
 refine LW.rd hL rfl (Wants.free rfl) rfl (Rd.move (v := .bool (((r3 == 0 && r4 == 0) && r5 == 0) && r6 == 1)) rfl) ?_
 suffices K4 : L 18 [(0, .bool false), (49, .bool ((((r3 == 0 && r4 == 0) && r5 == 0) && r6 == 1) && r7 == 0))] w10 by
  rcases Bool.eq_false_or_eq_true (((r3 == 0 && r4 == 0) && r5 == 0) && r6 == 1) with hb8 | hb8
  ·skip
   refine LW.rd hL rfl (Wants.on rfl rfl rfl rfl rfl hb8) rfl (Rd.move (v := .int .i64 r7) rfl) ?_
   refine LW.rd hL rfl (Wants.on rfl rfl rfl rfl rfl hb8) rfl (Rd.bin (v := .bool (r7 == 0)) rfl rfl (fun w => by kernel_rfl)) ?_
   refine LW.rd hL rfl (Wants.free rfl) rfl (Rd.pickT rfl hb8 rfl) ?_
   exact LW.sub hL (by exact ⟨rfl, (by rw [hb8]; rfl), trivial⟩) K4
  ·skip
   refine LW.skip hL rfl (Skips.on rfl rfl rfl rfl rfl hb8) rfl ?_
   refine LW.skip hL rfl (Skips.on rfl rfl rfl rfl rfl hb8) rfl ?_
   refine LW.rd hL rfl (Wants.free rfl) rfl (Rd.pickF rfl hb8 rfl) ?_
   exact LW.sub hL (by exact ⟨rfl, (by rw [hb8]; rfl), trivial⟩) K4
 refine LW.rd hL rfl (Wants.free rfl) rfl (Rd.assign (v := .bool ((((r3 == 0 && r4 == 0) && r5 == 0) && r6 == 1) && r7 == 0)) rfl) ?_
 refine LW.nil hL rfl ?_
 refine NW.then ?_
 refine CW.ret ?_
 exact res1 rfl rfl ⟨((((r3 == 0 && r4 == 0) && r5 == 0) && r6 == 1) && r7 == 0), rfl, h⟩
/- (*pomander/flow.Flow).Apply -/
def W_flow_Flow_Apply (f1 : Option Addr) (l1 : Option Addr) (l1n : Nat) (l1c : Nat) (w : World) (R : Int → World → Prop) : Prop :=
 Calls Tryz.prog 43 #[.pointer f1] w fun e w1 => ∃ (r2 : Bool), e = .returned (.bool r2) ∧ ((r2 = true → R 1 w1) ∧ (r2 = false → Calls Tryz.prog 66 #[.pointer f1, .slice l1 l1n l1c] w1 fun e w2 => ∃ (r3 : Bool), e = .returned (.bool r3) ∧ (((!r3) = true → R 2 w2) ∧ ((!r3) = false → ∀ b1 : Nat, b1 = World.size w2 → ∀ w3 : World, w3 = World.alloc w2 (.map #[] 0) → (∃ (I1 : Int → Int → World → Prop) (m1 : Int → Int → World → Nat), I1 0 0 w3 ∧ ∀ (x1 : Int) (x2 : Int) (w4 : World), I1 x1 x2 w4 → ((decide (x2 < (l1n : Int))) = true → ∃ J1 : Int → World → Prop, (∀ (x3 : Int) (w5 : World), J1 x3 w5 → (I1 x3 (IntKind.wrap .i64 (x2 + 1)) w5 ∧ m1 x3 (IntKind.wrap .i64 (x2 + 1)) w5 < m1 x1 x2 w4)) ∧ (∃ a1 : Addr, l1 = some a1 ∧ (0 : Int) ≤ x2 ∧ x2 < (l1n : Int) ∧ (∃ (t1 : Int) (t2 : Int) (t3 : Option Addr) (t3n : Nat) (t3c : Nat), CellsAt w4 (a1.add (Int.toNat x2 * 3)) 0 [.int .i64 t1, .int .i64 t2, .slice t3 t3n t3c] ∧ (∀ (b2 : Nat) (w7 : World), (w4.heap.size ≤ b2 ∧ b2 < w7.heap.size) → Chg [] w4 w7 → ((((t1 == 0) && (t2 == 0)) = true → J1 x1 w7) ∧ (((t1 == 0) && (t2 == 0)) = false → Calls Tryz.prog 67 #[.pointer f1, .slice t3 t3n t3c] w7 fun e w8 => ∃ (r4 : Int), e = .returned (.int .u32 r4) ∧ (Same w7 w8 [b2] ∧ (Calls Tryz.prog 64 #[.pointer f1, .int .u32 r4] w8 fun e w9 => ∃ (r5 : Int), e = .returned (.int .i64 r5) ∧ (Same w8 w9 [b2] ∧ (((!(r5 == 0)) = true → R r5 w9) ∧ ((!(r5 == 0)) = false → ∃ w10 : World, (Instr.mapUpdate 99 (.map (some b1)) (.agg #[.int .i64 t1, .int .i64 t2]) (.int .u32 r4)).run Tryz.prog w9 = .ok () w10 ∧ (J1 x1 w10)))))))))))) ∧ ((decide (x2 < (l1n : Int))) = false → ∃ (it1 : Option Addr) (w11 : World), (Instr.range 99 (.map (some b1))).run Tryz.prog w4 = .ok (.pointer it1) w11 ∧ (∃ (I2 : World → Prop) (m2 : World → Nat), I2 w11 ∧ ∀ (w12 : World), I2 w12 → ∃ (nx1 : Array Value) (ok1 : Bool) (w13 : World), (Instr.next (.pointer it1) false 0).run Tryz.prog w12 = .ok (.tuple nx1) w13 ∧ nx1[0]? = some (.bool ok1) ∧ ((ok1 = true → ∃ (k1 : Int) (k2 : Int) (v1 : Int), (Instr.entry (.pointer it1)).run Tryz.prog w13 = .ok (.tuple #[.agg #[.int .i64 k1, .int .i64 k2], .int .u32 v1]) w13 ∧ (∀ (b3 : Nat) (w15 : World), (w13.heap.size ≤ b3 ∧ b3 < w15.heap.size) → Chg [] w13 w15 → (Calls Tryz.prog 65 #[.pointer f1, .agg #[.int .i64 k1, .int .i64 k2], .int .u32 v1] w15 fun e w16 => e = .returned (.tuple #[]) ∧ ((I2 w16 ∧ m2 w16 < m2 w12))))) ∧ (ok1 = false → R 0 w13)))))))))
set_option maxRecDepth 100000 in
theorem go_flow_Flow_Apply (f1 : Option Addr) (l1 : Option Addr) (l1n : Nat) (l1c : Nat) (w : World) (R : Int → World → Prop) (h : W_flow_Flow_Apply f1 l1 l1n l1c w R) : Calls Tryz.prog 32 #[.pointer f1, .slice l1 l1n l1c] w (fun e w' => ∃ (r1 : Int), e = .returned (.int .i64 r1) ∧ R r1 w') := by
 unfold W_flow_Flow_Apply at h
 refine enter (N := 57) Tryz.func32 rfl rfl ?_
 refine CW.seq ?_
 refine CW.region fun L hL => ?_
 refine LW.rd hL rfl (Wants.free rfl) rfl (Rd.assign (v := .int .i64 0) rfl) ?_
 refine LW.nil hL rfl ?_
 refine NW.then ?_
 refine CW.seq ?_
 refine CW.block ?_
 refine CW.seq ?_
 refine CW.region fun L hL => ?_
 refine LW.rd hL rfl (Wants.free rfl) rfl (Rd.move (v := .pointer f1) rfl) ?_
 refine LW.call hL rfl (Wants.free rfl) rfl (Cl.fn (f := 43) rfl Tryz.func43 (by kernel_rfl) rfl) h (fun e w1 h_ => ?_)
 clear h
 obtain ⟨r2, rfl, h⟩ := h_
 refine ⟨_, rfl, ?_⟩
 refine LW.rd hL rfl (Wants.free rfl) rfl (Rd.assign (v := .bool r2) rfl) ?_
 refine LW.nil hL rfl ?_
 refine NW.then ?_
 refine CW.cond rfl (fun hb1 => ?_) (fun hb1 => ?_)
 ·replace h := h.1 hb1
  refine CW.seq ?_
  refine CW.region fun L hL => ?_
  refine LW.rd hL rfl (Wants.free rfl) rfl (Rd.assign (v := .int .i64 1) rfl) ?_
  refine LW.nil hL rfl ?_
  refine NW.then ?_
  refine CW.ret ?_
  refine RW.block ?_
  refine RW.then ?_
  exact res1 rfl rfl ⟨1, rfl, h⟩
 ·replace h := h.2 hb1
  refine CW.seq ?_
  refine CW.region fun L hL => ?_
  refine LW.rd hL rfl (Wants.free rfl) rfl (Rd.move (v := .pointer f1) rfl) ?_
  refine LW.rd hL rfl (Wants.free rfl) rfl (Rd.move (v := .slice l1 l1n l1c) rfl) ?_
  refine LW.call hL rfl (Wants.free rfl) rfl (Cl.fn (f := 66) rfl Tryz.func66 (by kernel_rfl) rfl) h (fun e w2 h_ => ?_)
  clear h
  obtain ⟨r3, rfl, h⟩ := h_
  refine ⟨_, rfl, ?_⟩
  refine LW.rd hL rfl (Wants.free rfl) rfl (Rd.un (v := .bool (!r3)) rfl (fun _ => by kernel_rfl)) ?_
  refine LW.rd hL rfl (Wants.free rfl) rfl (Rd.assign (v := .bool (!r3)) rfl) ?_
  refine LW.nil hL rfl ?_
  refine NW.then ?_
  refine CW.cond rfl (fun hb2 => ?_) (fun hb2 => ?_)
  ·replace h := h.1 hb2
   refine CW.seq ?_
   refine CW.region fun L hL => ?_
   refine LW.rd hL rfl (Wants.free rfl) rfl (Rd.assign (v := .int .i64 2) rfl) ?_
   refine LW.nil hL rfl ?_
   refine NW.then ?_
   refine CW.ret ?_
   refine RW.block ?_
   refine RW.then ?_
   exact res1 rfl rfl ⟨2, rfl, h⟩
  ·replace h := h.2 hb2
   refine CW.skip ?_
   refine NW.block ?_
   refine NW.then ?_
   refine CW.seq ?_
   refine CW.region fun L hL => ?_
   obtain ⟨b1, hb_b1⟩ : ∃ b1, b1 = World.size w2 := ⟨_, rfl⟩
   obtain ⟨w3, hw_w3⟩ : ∃ w3, w3 = World.alloc w2 (.map #[] 0) := ⟨_, rfl⟩
   replace h := h b1 hb_b1 w3 hw_w3
   refine LW.val hL rfl (Wants.free rfl) rfl (mapE hb_b1 hw_w3 Vl.makeMap) ?_
   refine LW.rd hL rfl (Wants.free rfl) rfl (Rd.assign (v := .map (some b1)) rfl) ?_
   refine LW.nil hL rfl ?_
   refine NW.then ?_
   refine CW.seq ?_
   refine CW.seq ?_
   refine CW.region fun L hL => ?_
   refine LW.rd hL rfl (Wants.free rfl) rfl (Rd.move (v := .slice l1 l1n l1c) rfl) ?_
   refine LW.rd hL rfl (Wants.free rfl) rfl (Rd.builtin (v := .int .i64 (l1n : Int)) rfl (fun _ _ => by kernel_rfl)) ?_
   refine LW.rd hL rfl (Wants.free rfl) rfl (Rd.move (v := .int .i64 0) rfl) ?_
   refine LW.nil hL rfl ?_
   refine NW.then ?_
   refine CW.block ?_
   obtain ⟨I1, m1, hI1, h⟩ := h
   refine CW.loop (S := Int × Int) (fun s1 => [(0, .pointer f1), (5, .map (some b1)), (21, .slice l1 l1n l1c), (22, .int .i64 (l1n : Int)), (4, .int .i64 s1.1), (23, .int .i64 s1.2)]) (fun s1 w4 => I1 s1.1 s1.2 w4) (fun s1 w4 => m1 s1.1 s1.2 w4) (0, 0) (by exact ⟨rfl, rfl, rfl, rfl, rfl, rfl, trivial⟩) hI1 (fun s1 w4 hI1 => ?_)
   obtain ⟨x1, x2⟩ := s1; replace h := h x1 x2 w4 hI1
   refine CW.seq ?_
   refine CW.region fun L hL => ?_
   refine LW.rd hL rfl (Wants.free rfl) rfl (Rd.bin (v := .bool (decide (x2 < (l1n : Int)))) rfl rfl (fun w => by kernel_rfl)) ?_
   refine LW.nil hL rfl ?_
   refine NW.then ?_
   refine CW.seq ?_
   refine CW.cond rfl (fun hb3 => ?_) (fun hb3 => ?_)
   ·replace h := h.1 hb3
    refine CW.skip ?_
    refine NW.then ?_
    obtain ⟨J1, hJ1, h⟩ := h
    refine CW.cut (S := Int) (fun x3 => [(0, .pointer f1), (5, .map (some b1)), (21, .slice l1 l1n l1c), (22, .int .i64 (l1n : Int)), (23, .int .i64 x2), (4, .int .i64 x3)]) (fun x3 w5 => J1 x3 w5) (fun x3 w5 h_ => ?_) ?_
    ·replace h := hJ1 x3 w5 h_; clear h_
     refine CW.region fun L hL => ?_
     refine LW.rd hL rfl (Wants.free rfl) rfl (Rd.bin (v := .int .i64 (IntKind.wrap .i64 (x2 + 1))) rfl rfl (fun w => by kernel_rfl)) ?_
     refine LW.rd hL rfl (Wants.free rfl) rfl (Rd.move (v := .int .i64 (IntKind.wrap .i64 (x2 + 1))) rfl) ?_
     refine LW.nil hL rfl ?_
     exact NW.loop (S := Int × Int) (Ek := fun s1 => [(0, .pointer f1), (5, .map (some b1)), (21, .slice l1 l1n l1c), (22, .int .i64 (l1n : Int)), (4, .int .i64 s1.1), (23, .int .i64 s1.2)]) (x3, IntKind.wrap .i64 (x2 + 1)) (by exact ⟨rfl, rfl, rfl, rfl, rfl, rfl, trivial⟩) h
    ·skip
     refine CW.block ?_
     refine CW.seq ?_
     refine CW.region fun L hL => ?_
     obtain ⟨a1, he1, hi1, hi2, h⟩ := h
     refine LW.rd hL rfl (Wants.free rfl) rfl (Rd.iaS (q := a1) (sz := 3) (by rw [← he1]; rfl) rfl Tryz.underlying27 (by kernel_rfl) hi1 hi2) ?_
     obtain ⟨t1, t2, t3, t3n, t3c, hc1, h⟩ := h
     refine LW.rd hL rfl (Wants.free rfl) rfl (Rd.ldN (cs := [.int .i64 t1, .int .i64 t2, .slice t3 t3n t3c]) rfl (by kernel_rfl) (by kernel_rfl) (cellsS hc1)) ?_
     obtain ⟨b2, hb_b2⟩ : ∃ b2, b2 = World.size w4 := ⟨_, rfl⟩
     obtain ⟨w6, hw_w6⟩ : ∃ w6, w6 = World.alloc w4 (.cells #[.int .i64 0, .int .i64 0, .slice none 0 0] 65) := ⟨_, rfl⟩
     refine LW.val hL rfl (Wants.free rfl) rfl (boxE hb_b2 hw_w6 (Vl.alloc (z := .agg #[.int .i64 0, .int .i64 0, .slice none 0 0]) (by kernel_rfl))) ?_
     have hB := Boxes.alloc (cs := [.int .i64 0, .int .i64 0, .slice none 0 0]) (T := 65) (Boxes.nil w4) hb_b2 hw_w6
     have hlo_b2 := sil_lo (Chg.refl [] w4) hb_b2
     have hc_w6 := sil_alloc (Chg.refl [] w4) hw_w6
     obtain ⟨w7, hw_w7⟩ : ∃ x, x = setCells w6 (⟨b2, 0, none⟩ : Addr) 0 [.int .i64 t1, .int .i64 t2, .slice t3 t3n t3c] := ⟨_, rfl⟩
     refine LW.eff hL rfl (Wants.free rfl) rfl (stNE hw_w7 (Ef.stN (cs := [.int .i64 t1, .int .i64 t2, .slice t3 t3n t3c]) rfl rfl (by kernel_rfl) (List.forall_mem_cons.2 ⟨rfl, (List.forall_mem_cons.2 ⟨rfl, (List.forall_mem_cons.2 ⟨rfl, (List.forall_mem_nil _)⟩)⟩)⟩) (has_of (hB.at (i := 0) rfl) (by simp)) (free_of' (hB.at (i := 0) rfl)))) ?_
     replace hB : Boxes w7 [(b2, [.int .i64 t1, .int .i64 t2, .slice t3 t3n t3c], 65)] := Boxes.store (vs := [.int .i64 t1, .int .i64 t2, .slice t3 t3n t3c]) (i := 0) (o := 0) hB rfl rfl rfl rfl hw_w7
     have hc_w7 := sil_new hc_w6 (sil_cN hw_w7) hlo_b2
     refine LW.nil hL rfl ?_
     refine NW.then ?_
     refine CW.seq ?_
     refine CW.seq ?_
     refine CW.region fun L hL => ?_
     refine LW.rd hL rfl (Wants.free rfl) rfl (Rd.fa (v := .pointer (some (⟨b2, 0, none⟩ : Addr))) rfl (fun _ => by kernel_rfl)) ?_
     refine LW.rd hL rfl (Wants.free rfl) rfl (Rd.ldN (cs := [.int .i64 t1, .int .i64 t2]) rfl (by kernel_rfl) (by kernel_rfl) (cellsS (box_cells (hB.at (i := 0) rfl) rfl))) ?_
     refine LW.rd hL rfl (Wants.free rfl) rfl (Rd.build (v := .agg #[.int .i64 0, .int .i64 0]) rfl (fun _ => by kernel_rfl)) ?_
     refine LW.rd hL rfl (Wants.free rfl) rfl (Rd.bin (v := .bool ((t1 == 0) && (t2 == 0))) rfl rfl (fun w => eqS_62 _ _ _ _ w)) ?_
     refine LW.nil hL rfl ?_
     refine NW.then ?_
     replace h := h b2 w7 ⟨hlo_b2, lt_of_heap (hB.at (i := 0) rfl)⟩ hc_w7
     refine CW.cond rfl (fun hb4 => ?_) (fun hb4 => ?_)
     ·replace h := h.1 hb4
      refine CW.exit ?_
      refine XW.then ?_
      refine XW.hit ?_
      exact NW.cut (S := Int) (Ek := fun x3 => [(0, .pointer f1), (5, .map (some b1)), (21, .slice l1 l1n l1c), (22, .int .i64 (l1n : Int)), (23, .int .i64 x2), (4, .int .i64 x3)]) x1 (by exact ⟨rfl, rfl, rfl, rfl, rfl, rfl, trivial⟩) h
     ·replace h := h.2 hb4
      refine CW.skip ?_
      refine NW.then ?_
      refine CW.seq ?_
      refine CW.region fun L hL => ?_
      refine LW.rd hL rfl (Wants.free rfl) rfl (Rd.move (v := .pointer f1) rfl) ?_
      refine LW.rd hL rfl (Wants.free rfl) rfl (Rd.fa (v := .pointer (some (⟨b2, 2, none⟩ : Addr))) rfl (fun _ => by kernel_rfl)) ?_
      refine LW.rd hL rfl (Wants.free rfl) rfl (Rd.ld (v := .slice t3 t3n t3c) rfl (by kernel_rfl) (eqs (box_cell (hB.at (i := 0) rfl) rfl))) ?_
      refine LW.call hL rfl (Wants.free rfl) rfl (Cl.fn (f := 67) rfl Tryz.func67 (by kernel_rfl) rfl) h (fun e w8 h_ => ?_)
      clear h
      obtain ⟨r4, rfl, h⟩ := h_
      obtain ⟨hsm1, h⟩ := h
      replace hB := Boxes.sameS hB hsm1 (by simp)
      refine ⟨_, rfl, ?_⟩
      refine LW.rd hL rfl (Wants.free rfl) rfl (Rd.assign (v := .int .u32 r4) rfl) ?_
      refine LW.nil hL rfl ?_
      refine NW.then ?_
      refine CW.seq ?_
      refine CW.seq ?_
      refine CW.region fun L hL => ?_
      refine LW.rd hL rfl (Wants.free rfl) rfl (Rd.move (v := .pointer f1) rfl) ?_
      refine LW.rd hL rfl (Wants.free rfl) rfl (Rd.move (v := .int .u32 r4) rfl) ?_
      refine LW.call hL rfl (Wants.free rfl) rfl (Cl.fn (f := 64) rfl Tryz.func64 (by kernel_rfl) rfl) h (fun e w9 h_ => ?_)
      clear h
      obtain ⟨r5, rfl, h⟩ := h_
      obtain ⟨hsm2, h⟩ := h
      replace hB := Boxes.sameS hB hsm2 (by simp)
      refine ⟨_, rfl, ?_⟩
      refine LW.rd hL rfl (Wants.free rfl) rfl (Rd.assign (v := .int .i64 r5) rfl) ?_
      refine LW.nil hL rfl ?_
      refine NW.then ?_
      refine CW.seq ?_
      refine CW.region fun L hL => ?_
      refine LW.rd hL rfl (Wants.free rfl) rfl (Rd.move (v := .int .i64 r5) rfl) ?_
      refine LW.rd hL rfl (Wants.free rfl) rfl (Rd.bin (v := .bool (!(r5 == 0))) rfl rfl (fun w => by kernel_rfl)) ?_
      refine LW.nil hL rfl ?_
      refine NW.then ?_
      refine CW.cond rfl (fun hb5 => ?_) (fun hb5 => ?_)
      ·replace h := h.1 hb5
       refine CW.seq ?_
       refine CW.region fun L hL => ?_
       refine LW.rd hL rfl (Wants.free rfl) rfl (Rd.move (v := .int .i64 r5) rfl) ?_
       refine LW.rd hL rfl (Wants.free rfl) rfl (Rd.assign (v := .int .i64 r5) rfl) ?_
       refine LW.nil hL rfl ?_
       refine NW.then ?_
       refine CW.ret ?_
       refine RW.then ?_
       refine RW.block ?_
       refine RW.then ?_
       refine RW.then ?_
       refine RW.block ?_
       refine RW.then ?_
       exact res1 rfl rfl ⟨r5, rfl, h⟩
      ·replace h := h.2 hb5
       refine CW.skip ?_
       refine NW.then ?_
       refine CW.region fun L hL => ?_
       refine LW.rd hL rfl (Wants.free rfl) rfl (Rd.move (v := .map (some b1)) rfl) ?_
       refine LW.rd hL rfl (Wants.free rfl) rfl (Rd.fa (v := .pointer (some (⟨b2, 0, none⟩ : Addr))) rfl (fun _ => by kernel_rfl)) ?_
       refine LW.rd hL rfl (Wants.free rfl) rfl (Rd.ldN (cs := [.int .i64 t1, .int .i64 t2]) rfl (by kernel_rfl) (by kernel_rfl) (cellsS (box_cells (hB.at (i := 0) rfl) rfl))) ?_
       refine LW.rd hL rfl (Wants.free rfl) rfl (Rd.move (v := .int .u32 r4) rfl) ?_
       obtain ⟨w10, hm1, h⟩ := h
       refine LW.eff hL rfl (Wants.free rfl) rfl (Ef.mapUpdate rfl rfl rfl hm1) ?_
       refine LW.nil hL rfl ?_
       refine NW.block ?_
       exact NW.cut (S := Int) (Ek := fun x3 => [(0, .pointer f1), (5, .map (some b1)), (21, .slice l1 l1n l1c), (22, .int .i64 (l1n : Int)), (23, .int .i64 x2), (4, .int .i64 x3)]) x1 (by exact ⟨rfl, rfl, rfl, rfl, rfl, rfl, trivial⟩) h
   ·replace h := h.2 hb3
    refine CW.exit ?_
    refine XW.then ?_
    refine XW.then ?_
    refine XW.hit ?_
    refine NW.then ?_
    refine CW.seq ?_
    refine CW.seq ?_
    refine CW.region fun L hL => ?_
    refine LW.rd hL rfl (Wants.free rfl) rfl (Rd.move (v := .map (some b1)) rfl) ?_
    obtain ⟨it1, w11, hm2, h⟩ := h
    refine LW.val hL rfl (Wants.free rfl) rfl (Vl.range (v := .pointer it1) rfl hm2) ?_
    refine LW.nil hL rfl ?_
    refine NW.then ?_
    refine CW.block ?_
    obtain ⟨I2, m2, hI2, h⟩ := h
    refine CW.loop (S := Unit) (fun s2 => [(0, .pointer f1), (4, .int .i64 x1), (47, .pointer it1)]) (fun s2 w12 => I2 w12) (fun s2 w12 => m2 w12) () (by exact ⟨rfl, rfl, rfl, trivial⟩) hI2 (fun s2 w12 hI2 => ?_)
    replace h := h w12 hI2
    refine CW.seq ?_
    refine CW.region fun L hL => ?_
    obtain ⟨nx1, ok1, w13, hm3, hk1, h⟩ := h
    refine LW.val hL rfl (Wants.free rfl) rfl (Vl.next (v := .tuple nx1) rfl hm3) ?_
    refine LW.rd hL rfl (Wants.free rfl) rfl (Rd.extract (v := .bool ok1) rfl hk1) ?_
    refine LW.nil hL rfl ?_
    refine NW.then ?_
    refine CW.seq ?_
    refine CW.cond rfl (fun hb6 => ?_) (fun hb6 => ?_)
    ·replace h := h.1 hb6
     refine CW.skip ?_
     refine NW.then ?_
     refine CW.block ?_
     refine CW.seq ?_
     refine CW.region fun L hL => ?_
     obtain ⟨k1, k2, v1, hl1, h⟩ := h
     refine LW.rd hL rfl (Wants.free rfl) rfl (Rd.entry (v := .tuple #[.agg #[.int .i64 k1, .int .i64 k2], .int .u32 v1]) rfl (fun _ e => e ▸ hl1)) ?_
     refine LW.rd hL rfl (Wants.free rfl) rfl (Rd.extract (v := .agg #[.int .i64 k1, .int .i64 k2]) rfl rfl) ?_
     refine LW.rd hL rfl (Wants.free rfl) rfl (Rd.extract (v := .int .u32 v1) rfl rfl) ?_
     obtain ⟨b3, hb_b3⟩ : ∃ b3, b3 = World.size w13 := ⟨_, rfl⟩
     obtain ⟨w14, hw_w14⟩ : ∃ w14, w14 = World.alloc w13 (.cells #[.int .i64 0, .int .i64 0] 62) := ⟨_, rfl⟩
     refine LW.val hL rfl (Wants.free rfl) rfl (boxE hb_b3 hw_w14 (Vl.alloc (z := .agg #[.int .i64 0, .int .i64 0]) (by kernel_rfl))) ?_
     have hB := Boxes.alloc (cs := [.int .i64 0, .int .i64 0]) (T := 62) (Boxes.nil w13) hb_b3 hw_w14
     have hlo_b3 := sil_lo (Chg.refl [] w13) hb_b3
     have hc_w14 := sil_alloc (Chg.refl [] w13) hw_w14
     obtain ⟨w15, hw_w15⟩ : ∃ x, x = setCells w14 (⟨b3, 0, none⟩ : Addr) 0 [.int .i64 k1, .int .i64 k2] := ⟨_, rfl⟩
     refine LW.eff hL rfl (Wants.free rfl) rfl (stNE hw_w15 (Ef.stN (cs := [.int .i64 k1, .int .i64 k2]) rfl rfl (by kernel_rfl) (List.forall_mem_cons.2 ⟨rfl, (List.forall_mem_cons.2 ⟨rfl, (List.forall_mem_nil _)⟩)⟩) (has_of (hB.at (i := 0) rfl) (by simp)) (free_of' (hB.at (i := 0) rfl)))) ?_
     replace hB : Boxes w15 [(b3, [.int .i64 k1, .int .i64 k2], 62)] := Boxes.store (vs := [.int .i64 k1, .int .i64 k2]) (i := 0) (o := 0) hB rfl rfl rfl rfl hw_w15
     have hc_w15 := sil_new hc_w14 (sil_cN hw_w15) hlo_b3
     refine LW.rd hL rfl (Wants.free rfl) rfl (Rd.assign (v := .int .u32 v1) rfl) ?_
     refine LW.nil hL rfl ?_
     refine NW.then ?_
     refine CW.region fun L hL => ?_
     refine LW.rd hL rfl (Wants.free rfl) rfl (Rd.move (v := .pointer f1) rfl) ?_
     refine LW.rd hL rfl (Wants.free rfl) rfl (Rd.ldN (cs := [.int .i64 k1, .int .i64 k2]) rfl (by kernel_rfl) (by kernel_rfl) (cellsS (box_cells (hB.at (i := 0) rfl) rfl))) ?_
     refine LW.rd hL rfl (Wants.free rfl) rfl (Rd.move (v := .int .u32 v1) rfl) ?_
     replace h := h b3 w15 ⟨hlo_b3, lt_of_heap (hB.at (i := 0) rfl)⟩ hc_w15
     refine LW.call hL rfl (Wants.free rfl) rfl (Cl.fn (f := 65) rfl Tryz.func65 (by kernel_rfl) rfl) h (fun e w16 h_ => ?_)
     clear h
     obtain ⟨rfl, h⟩ := h_
     refine ⟨_, rfl, ?_⟩
     refine LW.nil hL rfl ?_
     refine NW.block ?_
     exact NW.loop (S := Unit) (Ek := fun s2 => [(0, .pointer f1), (4, .int .i64 x1), (47, .pointer it1)]) () (by exact ⟨rfl, rfl, rfl, trivial⟩) h
    ·replace h := h.2 hb6
     refine CW.exit ?_
     refine XW.then ?_
     refine XW.then ?_
     refine XW.hit ?_
     refine NW.then ?_
     refine CW.seq ?_
     refine CW.region fun L hL => ?_
     refine LW.rd hL rfl (Wants.free rfl) rfl (Rd.assign (v := .int .i64 0) rfl) ?_
     refine LW.nil hL rfl ?_
     refine NW.then ?_
     refine CW.ret ?_
     exact res1 rfl rfl ⟨0, rfl, h⟩
end Go.Proofs.YtfcfkhbkkfpehaaGreat
end
section
/- Flows: Apply. -/
namespace Go.Proofs.YtfcfkhbkkfpehaaGreat
open Go Go.RowKit Go.X
theorem keepAll_now {most : Int} {g : Int × Int → Int} {sets : List Int} (ts : List Tch) : ∀ x ∈ (keepAll most g ts sets).2.1, ∃ t ∈ ts, t.1 = x.1 ∧ t.1 ≠ (0, 0) ∧ x.2 = joinP g t.2 := by
 have : ∀ (ts us : List Tch) (s : List Int × List Pr × Int), (∀ x ∈ s.2.1, ∃ t ∈ us, t.1 = x.1 ∧ t.1 ≠ (0, 0) ∧ x.2 = joinP g t.2) →
   ∀ x ∈ (ts.foldl (keepStep most g) s).2.1, ∃ t ∈ us ++ ts, t.1 = x.1 ∧ t.1 ≠ (0, 0) ∧ x.2 = joinP g t.2 := by
  intro ts
  induction ts with
  | nil => intro us s h x hx; simpa using h x hx
  | cons t ts ih =>
   intro us s h x hx
   have := ih (us ++ [t]) (keepStep most g s t) (fun x hx => by
    unfold keepStep at hx
    split at hx
    ·obtain ⟨u, hu, r⟩ := h x hx
     exact ⟨u, List.mem_append_left _ hu, r⟩
    ·rename_i hn
     split at hx
     ·obtain ⟨u, hu, r⟩ := h x hx
      exact ⟨u, List.mem_append_left _ hu, r⟩
     ·rcases mem_upd hx with rfl | hx
      ·exact ⟨t, by simp, rfl, fun e => hn (.inr e), rfl⟩
      ·obtain ⟨u, hu, r⟩ := h x hx
       exact ⟨u, List.mem_append_left _ hu, r⟩) x hx
   simpa using this
 exact this ts [] (sets, [], 0) (by simp)
def ApplyInv (w : World) (b b1 : Nat) (F : Fl) (fp : List Nat) (ts : List Tch) (w' : World) : Prop :=
 (keepAll F.most F.g ts F.sets).2.2 = 0 ∧ ∃ fp', FlowAt w' b { F with sets := (keepAll F.most F.g ts F.sets).1 } fp' ∧ Chg fp w w' ∧ (∀ i ∈ fp', i ∈ fp ∨ (w.heap.size ≤ i ∧ i ≠ b1)) ∧
  MapIs w' b1 encP (fun n : Int => .int .u32 n) (keepAll F.most F.g ts F.sets).2.1
theorem flow_apply {w : World} {b : Nat} {F : Fl} {fp : List Nat} (h : FlowAt w b F fp) {S : Nat → Prop} {p : Option Addr} {n c : Nat} {ts : List Tch} (hp : TouchesAt w S p n ts) (hS : ∀ i ∈ fp, ¬ S i) (hn : n ≤ 9223372036854775807) (hin : ∀ t ∈ ts, t.2.length ≤ 9223372036854775807) :
  Calls Tryz.prog 32 #[.pointer (some ⟨b, 0, none⟩), .slice p n c] w fun e w' => ∃ r : Int, e = .returned (.int .i64 r) ∧
   (r = applyE F ts ∧ ∃ fp', FlowAt w' b (applyF F ts) fp' ∧ Chg fp w w' ∧ ∀ i ∈ fp', i ∈ fp ∨ w.heap.size ≤ i) := by
 have hlt0 := h.lt
 refine go_flow_Flow_Apply _ _ _ _ _ _ ?_
 unfold W_flow_Flow_Apply
 refine (flow_none h).mono ?_
 rintro _ w1 ⟨_, rfl, rfl, hw⟩
 subst w1
 refine ⟨_, rfl, fun h => by simp at h, fun _ => ?_⟩
 refine (flow_right (c := c) h hp hn hin).mono ?_
 rintro _ w2 ⟨_, rfl, rfl, c2⟩
 refine ⟨_, rfl, fun hb => ?_, fun hb => ?_⟩
 ·have hb' : ¬ rightAll F.fr F.se ts := by simpa [rightAll] using hb
  refine ⟨by unfold applyE; rw [if_neg hb'], fp, ?_, c2.nil, fun i hi => .inl hi⟩
  unfold applyF; rw [if_neg hb']; exact h.chg c2 (by simp)
 have hr : rightAll F.fr F.se ts := by simpa [rightAll] using hb
 refine v_alloc fun b1 w3 eb1 hb1 c3 => ?_
 have c03 := c2.trans0 c3
 have s2 := c2.size
 have hM0 : MapIs w3 b1 encP (fun n : Int => .int .u32 n) ([] : List Pr) := ⟨#[], 0, hb1, rfl, by simp, by simp, by simp⟩
 have hb1fp : b1 ∉ fp := fun hm => by have := hlt0 _ hm; omega
 refine ⟨fun _ x w' => ∃ j : Nat, x = (j : Int) ∧ j ≤ n ∧ ApplyInv w b b1 F fp (ts.take j) w', fun _ x _ => (n - x).toNat, ⟨0, rfl, by omega, rfl, fp, h.chg c03 (by simp), c03.nil, fun i hi => .inl hi, hM0⟩, ?_⟩
 rintro x1 _ w4 ⟨j, rfl, hj, h0, fp4, hF4, c4, hf4, hM4⟩
 have hlt4 := hF4.lt
 have hb14 : b1 ∉ fp4 := fun hm => by
  rcases hf4 _ hm with h | h
  ·exact hb1fp h
  ·exact h.2 rfl
 refine ⟨fun hlt => ?_, fun hge => ?_⟩
 ·have hlt' : j < n := by simpa using hlt
  obtain ⟨t, hj'⟩ := get_of (l := ts) (j := j) (by rw [hp.length]; exact hlt')
  have hmem : t ∈ ts := List.mem_of_getElem? hj'
  obtain ⟨k1, k2, a, q, qn, qc, rfl, ha, hc, hps⟩ := (hp.chg c4 hS).each j _ hj'
  refine ⟨fun _ w' => ApplyInv w b b1 F fp (ts.take (j + 1)) w', fun x w5 h5 => ?_, a, rfl, by omega, by omega, t.1.1, t.1.2, q, qn, qc, by simpa using hc, fun b2 w7 l7 c7 => ⟨fun he => ?_, fun hne => ?_⟩⟩
  ·rw [wr (by omega) (by omega)]
   exact ⟨⟨j + 1, by omega, by omega, h5⟩, by simp only []; omega⟩
  ·have he' : t.1 = (0, 0) := by
    have : t.1.1 = 0 ∧ t.1.2 = 0 := by simpa using he
    exact Prod.ext this.1 this.2
   unfold ApplyInv
   rw [take_snoc hj', keepAll_snoc]
   unfold keepStep
   rw [if_pos (.inr he')]
   exact ⟨h0, fp4, hF4.chg c7 (by simp), c4.trans c7 (by simp), hf4, hM4.chg c7 (by simp)⟩
  have hne' : t.1 ≠ (0, 0) := by
   intro e; rw [e] at hne; simp at hne
  refine (flow_together (c := qc) (hF4.chg c7 (by simp)) (hps.chg c7 (by simp)) (by rw [← hps.length]; exact hin t hmem)).mono ?_
  rintro _ w8 ⟨_, rfl, rfl, c8⟩
  simp only []
  have hu := joinP_u16 (fun p => h.each p) t.2
  refine ⟨_, rfl, Same.chg c8 (by simp; omega), ?_⟩
  have s8 := c8.size
  have hF8 := (hF4.chg c7 (by simp)).chg c8 (by simp)
  refine (flow_keep hF8 hu.1).mono ?_
  rintro _ w9 ⟨r5, rfl, rfl, fp9, hF9, c9, hf9⟩
  have s4 := c4.size
  have s7 := c7.size
  have c49 : Chg fp4 w4 w9 := ((c7.trans0 c8).nil).trans c9 (fun i hi _ => hi)
  have hf49 : ∀ i ∈ fp9, i ∈ fp4 ∨ w4.heap.size ≤ i := fun i hi => by
   rcases hf9 i hi with h | h
   ·exact .inl h
   ·exact .inr (by omega)
  obtain ⟨c09, hf09⟩ := grow_trans (fp := fp) (fp' := fp4) c4 (fun i hi => (hf4 i hi).imp id And.left) c49 hf49
  have hl4 : b1 < w4.heap.size := hM4.lt
  have hf9' : ∀ i ∈ fp9, i ∈ fp ∨ (w.heap.size ≤ i ∧ i ≠ b1) := fun i hi => by
   rcases hf49 i hi with h | h
   ·exact hf4 i h
   ·exact .inr ⟨by omega, by omega⟩
  refine ⟨_, rfl, Same.of c9 (by simp; exact ⟨by omega, fun hm => by have := hlt4 _ hm; omega⟩), fun hbad => ?_, fun hz => ?_⟩
  ·have hbad' : keepE F.most (keepAll F.most F.g (ts.take j) F.sets).1 (joinP F.g t.2) ≠ 0 := by simpa using hbad
   have hs : keepAll F.most F.g (ts.take (j + 1)) F.sets = ((keepAll F.most F.g (ts.take j) F.sets).1, (keepAll F.most F.g (ts.take j) F.sets).2.1, keepE F.most (keepAll F.most F.g (ts.take j) F.sets).1 (joinP F.g t.2)) := by
    rw [take_snoc hj', keepAll_snoc]; unfold keepStep
    rw [if_neg (by rintro (h | h); exact h h0; exact hne' h), if_pos hbad']
   have hall : keepAll F.most F.g ts F.sets = keepAll F.most F.g (ts.take (j + 1)) F.sets := by
    have := keepAll_bad (most := F.most) (g := F.g) (ts := ts.take (j + 1)) (us := ts.drop (j + 1)) (sets := F.sets) (by rw [hs]; exact hbad')
    rwa [List.take_append_drop] at this
   refine ⟨?_, fp9, ?_, c09, hf09⟩
   ·unfold applyE; rw [if_pos hr, hall, hs]
   ·unfold applyF; rw [if_pos hr, hall, hs]
    simp only [if_neg hbad']
    rw [keepS_bad hbad'] at hF9; exact hF9
  have hz' : keepE F.most (keepAll F.most F.g (ts.take j) F.sets).1 (joinP F.g t.2) = 0 := by simpa using hz
  have hM9 := ((hM4.chg c7 (by simp)).chg c8 (by simp)).chg c9 hb14
  obtain ⟨w10, hu10, c10, hs10, hM10⟩ := hM9.update (P := Tryz.prog) (T := 99) u143 keyPlace (t.1.1, t.1.2) (joinP F.g t.2)
  refine ⟨w10, hu10, ?_⟩
  unfold ApplyInv
  rw [take_snoc hj', keepAll_snoc]
  unfold keepStep
  rw [if_neg (by rintro (h | h); exact h h0; exact hne' h), if_neg (by rw [hz']; simp)]
  exact ⟨rfl, fp9, hF9.chg c10 (fun i hi hm => by
   simp at hm; subst hm
   rcases hf9' _ hi with h | h
   ·exact hb1fp h
   ·exact h.2 rfl), c09.trans c10 (fun i hi hlt => by simp at hi; omega), hf9', hM10⟩
 have hge' : ¬ j < n := by simpa using hge
 have htk : ts.take j = ts := List.take_of_length_le (by rw [hp.length]; omega)
 rw [htk] at h0 hF4 hM4
 obtain ⟨it, w11, hrg, c11, hit, hI11⟩ := iter_range (P := Tryz.prog) (T := 99) hM4 u143
 have s4 := c4.size
 have hl4 : b1 < w4.heap.size := hM4.lt
 have hne1 : it ≠ b1 := by omega
 have hitfp : it ∉ fp4 := fun hm => by have := hlt4 _ hm; omega
 have hE : applyE F ts = 0 := by unfold applyE; rw [if_pos hr, h0]
 refine ⟨_, w11, hrg, ?_⟩
 refine ⟨fun w' => ∃ done fp', FlowAt w' b { F with sets := (keepAll F.most F.g ts F.sets).1, g := overP F.g done } fp' ∧ IterAt w' it b1 encP (fun n : Int => .int .u32 n) (keepAll F.most F.g ts F.sets).2.1 done ∧ Chg fp w w' ∧ (∀ i ∈ fp', i ∈ fp ∨ (w.heap.size ≤ i ∧ i ≠ b1 ∧ i ≠ it)),
  fun w' => (keepAll F.most F.g ts F.sets).2.1.length - seenN w' it, ⟨[], fp4, by rw [overP_nil]; exact hF4.chg c11 (by simp), hI11, c4.trans c11 (by simp), fun i hi => ?_⟩, ?_⟩
 ·rcases hf4 i hi with h | h
  ·exact .inl h
  ·exact .inr ⟨h.1, h.2, fun e => hitfp (e ▸ hi)⟩
 rintro w12 ⟨done, fp12, hF12, hI12, c12, hf12⟩
 have hlt12 := hF12.lt
 rcases iter_next (P := Tryz.prog) hI12 hne1 keyPlace.inj 0 with ⟨hnx, hall⟩ | ⟨k, v, w13, hkl, hnew, hrun, c13, hI13, hent⟩
 ·refine ⟨_, false, w12, hnx, rfl, fun h => by simp at h, fun _ => ⟨hE.symm, fp12, ?_, c12, fun i hi => (hf12 i hi).imp id And.left⟩⟩
  unfold applyF
  rw [if_pos hr, if_pos h0]
  have : overP F.g done = overP F.g (keepAll F.most F.g ts F.sets).2.1 := by
   funext q; unfold overP; rw [hI12.end_look hall q]
  rw [← this]; exact hF12
 ·refine ⟨_, true, w13, hrun, rfl, fun _ => ?_, fun h => by simp at h⟩
  refine ⟨k.1, k.2, v, hent, fun b3 w15 l15 c15 => ?_⟩
  obtain ⟨t, ht, e1, e2, e3⟩ := keepAll_now ts _ hkl
  simp only [] at e1 e3
  have hmay : mayP F.fr F.se k := by
   have := (hr t ht).1
   rw [e1] at this e2
   exact this.resolve_left e2
  have hu := joinP_u16 (fun p => h.each p) t.2
  rw [← e3] at hu
  have hit12 : it ∉ fp12 := fun hm => by
   rcases hf12 _ hm with h | h
   ·have := hlt0 _ h; omega
   ·exact h.2.2 rfl
  have hF15 := (hF12.chg c13 (fun i hi hm => by simp at hm; exact hit12 (hm ▸ hi))).chg c15 (by simp)
  refine (flow_put (p1 := k.1) (p2 := k.2) hF15 hmay hu.1 hu.2).mono ?_
  rintro _ w16 ⟨rfl, fp16, hF16, c16, hf16⟩
  have s12 := c12.size
  have s13 := c13.size
  have s15 := c15.size
  have c1216 : Chg (it :: fp12) w12 w16 := ((c13.mono (g := it :: fp12) (by simp)).trans c15 (by simp)).trans c16 (fun i hi _ => by simp [hi])
  have c016 : Chg fp w w16 := c12.trans c1216 (fun i hi hlt => by
   rcases List.mem_cons.1 hi with rfl | hi
   ·omega
   ·exact (hf12 i hi).resolve_right (fun h => by omega))
  have hb112 : b1 ∉ fp12 := fun hm => by
   rcases hf12 _ hm with h | h
   ·exact hb1fp h
   ·exact h.2.1 rfl
  have hI16 := (hI13.chg c15 (by simp) (by simp)).chg c16 hit12 hb112
  refine ⟨rfl, ⟨done ++ [(k, v)], fp16, ?_, hI16, c016, fun i hi => ?_⟩, ?_⟩
  ·have : overP F.g (done ++ [(k, v)]) = putP (overP F.g done) (k.1, k.2) v := by
    rw [← overP_upd]
    funext q
    unfold overP
    have hn : lookK (k.1, k.2) done = none := lookK_none.2 (fun p hp e => hnew (List.mem_map.2 ⟨p, hp, e⟩))
    unfold upd
    rw [hn]; rfl
   rw [this]; exact hF16
  ·have hl16 : it < w12.heap.size := by
    obtain ⟨es, clk, since, c0, seen, ds, h1, _⟩ := hI12
    exact lt_of_heap h1
   rcases hf16 i hi with h | h
   ·exact hf12 i h
   ·refine .inr ⟨by omega, by omega, by omega⟩
  ·have a1 := hI12.count
   have a2 := hI16.count
   have a3 := hI12.more hkl hnew
   simp at a2
   simp only []
   omega
theorem _root_.Go.X.CellsAt.third {w : World} {q : Addr} {a b c : Value} (h : CellsAt w q 0 [a, b, c]) : w.cell? (q.add 2) = some c := h.2.2.1
end Go.Proofs.YtfcfkhbkkfpehaaGreat
end
section
/- The laws' helpers: broad, made. -/
namespace Go.Proofs.YtfcfkhbkkfpehaaGreat
open Go Go.RowKit Go.X
def broadP (m : Nat) (ts : List Tch) : Prop := 30 < m ∨ 20 < ts.length ∨ ∃ t ∈ ts, 20 < t.2.length
instance (m : Nat) (ts : List Tch) : Decidable (broadP m ts) := by unfold broadP; exact inferInstance
end Go.Proofs.YtfcfkhbkkfpehaaGreat
end
section
/- Acts on flows: what they are, what they do; the laws' helpers vast, broad, known, does. -/
namespace Go.Proofs.YtfcfkhbkkfpehaaGreat
open Go Go.RowKit Go.X
structure ActV where
 kind : Int
 n : Int
 p : Int × Int
 set : Int
 ts : List Tch
def stepF (F : Fl) (a : ActV) : Fl := if a.kind = 1 then markF F a.p a.n a.set else applyF F a.ts
def stepR (R : Rf) (a : ActV) : Rf := if a.kind = 1 then refMark R a.p a.n a.set else refApply R a.ts
theorem RelF.step {F : Fl} {R : Rf} (h : RelF F R) (a : ActV) : RelF (stepF F a) (stepR R a) := by
 unfold stepF stepR
 split
 ·exact h.mark _ _ _
 ·exact h.apply _
structure ActAt (w : World) (S : Nat → Prop) (q : Option Addr) (qn qc : Nat) (a : ActV) : Prop where
 p : i64s a.p.1 ∧ i64s a.p.2
 set : 0 ≤ a.set ∧ a.set < 4294967296
 n : i64s a.n
 ts : TouchesAt w S q qn a.ts
 qn : qn ≤ maxLen
 inner : ∀ t ∈ a.ts, t.2.length ≤ maxLen
structure ActsAt (w : World) (S : Nat → Prop) (p : Option Addr) (n : Nat) (acts : List ActV) : Prop where
 length : acts.length = n
 each : ∀ (j : Nat) (a : ActV), acts[j]? = some a → ∃ b q qn qc, p = some b ∧ S b.block ∧ CellsAt w (b.add (j * 6)) 0 [.int .i64 a.kind, .int .i64 a.n, .int .i64 a.p.1, .int .i64 a.p.2, .int .u32 a.set, .slice q qn qc] ∧ ActAt w S q qn qc a
theorem ActAt.chg {w w' : World} {S : Nat → Prop} {q : Option Addr} {qn qc : Nat} {a : ActV} {f : List Nat} (h : ActAt w S q qn qc a) (hc : Chg f w w') (hf : ∀ i ∈ f, ¬ S i) : ActAt w' S q qn qc a :=
 { h with ts := h.ts.chg hc hf }
theorem ActsAt.chg {w w' : World} {S : Nat → Prop} {p : Option Addr} {n : Nat} {acts : List ActV} {f : List Nat} (h : ActsAt w S p n acts) (hc : Chg f w w') (hf : ∀ i ∈ f, ¬ S i) : ActsAt w' S p n acts :=
 ⟨h.length, fun j a hj => let ⟨b, q, qn, qc, h1, h2, h3, h4⟩ := h.each j a hj; ⟨b, q, qn, qc, h1, h2, hc.cells (by rw [add_block]; exact fun hm => hf _ hm h2) h3, h4.chg hc hf⟩⟩
def broadT (ts : List Tch) : Prop := 20 < ts.length ∨ ∃ t ∈ ts, 20 < t.2.length
instance (ts : List Tch) : Decidable (broadT ts) := by unfold broadT; exact inferInstance
def vastA (acts : List ActV) : Prop := 30 < acts.length ∨ ∃ a ∈ acts, (200 < a.n ∧ a.n ≤ 65536) ∨ broadT a.ts
instance (acts : List ActV) : Decidable (vastA acts) := by unfold vastA; exact inferInstance
theorem broad12 {w : World} {S : Nat → Prop} {p : Option Addr} {n c : Nat} {ts : List Tch} (hp : TouchesAt w S p n ts) (hn : n ≤ maxLen) :
    Calls Tryz.prog 56 #[.slice p n c] w fun e w' => ∃ r : Bool, e = .returned (.bool r) ∧ (r = decide (broadT ts) ∧ w' = w) := by
  have hl := hp.length
  simp only [maxLen] at hn
  refine go_pomanderlaw12_broad _ _ _ _ _ ?_
  unfold W_pomanderlaw12_broad
  refine ⟨fun h => ⟨?_, rfl⟩, fun h => ?_⟩
  · have h' : 20 < n := by have : (20 : Int) < n := by simpa using h
                           omega
    symm; rw [decide_eq_true_eq]; exact .inl (by omega)
  have h' : ¬ 20 < n := by have : ¬ (20 : Int) < n := by simpa using h
                           omega
  refine ⟨fun _ i w' => ∃ j : Nat, i = (j : Int) ∧ j ≤ n ∧ (∀ t ∈ ts.take j, t.2.length ≤ 20) ∧ w' = w, fun _ i _ => (n - i).toNat, ⟨0, rfl, by omega, by simp, rfl⟩, ?_⟩
  rintro x _ w1 ⟨j, rfl, hj, hall, hw⟩
  subst w1
  refine ⟨fun hlt => ?_, fun hge => ?_⟩
  · have hlt' : j < n := by simpa using hlt
    obtain ⟨t, hx⟩ := get_of (l := ts) (j := j) (by omega)
    obtain ⟨k1, k2, a, q, qn, qc, rfl, ha, hc, hps⟩ := hp.each j _ hx
    have hq := hps.length
    refine ⟨a, rfl, by omega, by omega, q, qn, qc, by simpa using CellsAt.third hc, fun hb => ⟨?_, rfl⟩, fun hb => ?_⟩
    · have hb' : 20 < qn := by have : (20 : Int) < qn := by simpa using hb
                               omega
      symm; rw [decide_eq_true_eq]; exact .inr ⟨t, List.mem_of_getElem? hx, by omega⟩
    · have hb' : ¬ 20 < qn := by have : ¬ (20 : Int) < qn := by simpa using hb
                                 omega
      rw [wr (by omega) (by omega)]
      refine ⟨⟨j + 1, by omega, by omega, ?_, rfl⟩, by simp only []; omega⟩
      rw [take_snoc hx]
      intro z hz
      rcases List.mem_append.1 hz with hz | hz
      · exact hall z hz
      · simp at hz; subst hz; omega
  · have hge' : ¬ j < n := by simpa using hge
    rw [List.take_of_length_le (by omega)] at hall
    refine ⟨?_, rfl⟩
    symm; rw [decide_eq_false_iff_not]
    rintro (hh | ⟨t, ht, hh⟩)
    · omega
    · have := hall t ht; omega
theorem act_cells {w : World} {q : Addr} {a b c d e f : Value} (h : CellsAt w q 0 [a, b, c, d, e, f]) : w.cell? (q.add 1) = some b ∧ w.cell? (q.add 5) = some f := ⟨h.2.1, h.2.2.2.2.2.1⟩
theorem vast_ok {w : World} {S : Nat → Prop} {p : Option Addr} {n c : Nat} {acts : List ActV} (hp : ActsAt w S p n acts) (hn : n ≤ maxLen) :
    Calls Tryz.prog 24 #[.slice p n c] w fun e w' => ∃ r : Bool, e = .returned (.bool r) ∧ (r = decide (vastA acts) ∧ w' = w) := by
  have hl := hp.length
  simp only [maxLen] at hn
  refine go_pomanderlaw12_vast _ _ _ _ _ ?_
  unfold W_pomanderlaw12_vast
  refine ⟨fun h => ⟨?_, rfl⟩, fun h => ?_⟩
  · have h' : 30 < n := by have : (30 : Int) < n := by simpa using h
                           omega
    symm; rw [decide_eq_true_eq]; exact .inl (by omega)
  have h' : ¬ 30 < n := by have : ¬ (30 : Int) < n := by simpa using h
                           omega
  refine ⟨fun _ i w' => ∃ j : Nat, i = (j : Int) ∧ j ≤ n ∧ (∀ a ∈ acts.take j, ¬ ((200 < a.n ∧ a.n ≤ 65536) ∨ broadT a.ts)) ∧ w' = w, fun _ i _ => (n - i).toNat, ⟨0, rfl, by omega, by simp, rfl⟩, ?_⟩
  rintro x _ w1 ⟨j, rfl, hj, hall, hw⟩
  subst w1
  refine ⟨fun hlt => ?_, fun hge => ?_⟩
  · have hlt' : j < n := by simpa using hlt
    obtain ⟨t, hx⟩ := get_of (l := acts) (j := j) (by omega)
    obtain ⟨b, q, qn, qc, rfl, hb, hc, hA⟩ := hp.each j _ hx
    obtain ⟨hc1, hc5⟩ := act_cells hc
    refine ⟨b, rfl, by omega, by omega, t.n, by simpa using hc1, fun b1 w' => w' = w ∧ b1 = decide (200 < t.n ∧ t.n ≤ 65536), ?_, fun hh => ⟨rfl, ?_⟩, fun hh => ⟨rfl, ?_⟩⟩
    rotate_left
    · have hh' : 200 < t.n := by simpa using hh
      exact decide_eq_decide.2 ⟨fun h => ⟨hh', h⟩, And.right⟩
    · have hh' : ¬ 200 < t.n := by simpa using hh
      symm; rw [decide_eq_false_iff_not]; exact fun h => hh' h.1
    rintro b1 w2 ⟨hw, rfl⟩
    subst w2
    refine ⟨fun b2 w' => w' = w ∧ b2 = decide ((200 < t.n ∧ t.n ≤ 65536) ∨ broadT t.ts), ?_, fun hh => ?_, fun hh => ⟨rfl, ?_⟩⟩
    rotate_left
    · rw [decide_eq_false_iff_not] at hh
      refine ⟨q, qn, qc, by simpa using hc5, ?_⟩
      refine (broad12 (c := qc) hA.ts hA.qn).mono ?_
      rintro _ w4 ⟨_, rfl, rfl, hw⟩
      exact ⟨_, rfl, hw, decide_eq_decide.2 ⟨.inr, fun h => h.resolve_left hh⟩⟩
    · rw [decide_eq_true_eq] at hh
      symm; rw [decide_eq_true_eq]; exact .inl hh
    rintro b2 w3 ⟨hw, rfl⟩
    subst w3
    refine ⟨fun hh => ⟨?_, rfl⟩, fun hh => ?_⟩
    · rw [decide_eq_true_eq] at hh
      symm; rw [decide_eq_true_eq]; exact .inr ⟨t, List.mem_of_getElem? hx, hh⟩
    · rw [decide_eq_false_iff_not] at hh
      rw [wr (by omega) (by omega)]
      refine ⟨⟨j + 1, by omega, by omega, ?_, rfl⟩, by simp only []; omega⟩
      rw [take_snoc hx]
      intro z hz
      rcases List.mem_append.1 hz with hz | hz
      · exact hall z hz
      · simp at hz; subst hz; exact hh
  · have hge' : ¬ j < n := by simpa using hge
    rw [List.take_of_length_le (by omega)] at hall
    refine ⟨?_, rfl⟩
    symm; rw [decide_eq_false_iff_not]
    rintro (hh | ⟨t, ht, hh⟩)
    · omega
    · exact hall t ht hh
theorem known12 (w : World) : Calls Tryz.prog 25 #[] w fun e w' => ∃ r : Bool, e = .returned (.bool r) ∧ (r = true ∧ Chg [] w w') := by
 refine go_pomanderlaw12_known _ _ ?_
 unfold W_pomanderlaw12_known
 refine (flow_new w 1 1 4).mono ?_
 rintro _ w1 ⟨r2, r3, rfl, c1, hr⟩
 rw [if_pos (by unfold rightP; decide)] at hr
 obtain ⟨rfl, b, fp, rfl, hF, hfp⟩ := hr
 refine ⟨_, _, rfl, ?_⟩
 intro b2 b1 w5 l2 l1 c5
 have hlt := hF.lt
 have s1 := c1.size
 have s5 := c5.size
 refine (flow_mark (hF.chg c5 (by simp)) (p1 := 13) (p2 := 0) (n := 2) (set := 1) (by unfold i64s; omega) (by omega)).mono ?_
 rintro _ w6 ⟨_, rfl, rfl, fp6, hF6, c6, hf6⟩
 have s6 := c6.size
 have hlt6 := hF6.lt
 refine ⟨_, rfl, Same.of c6 (by simp; exact ⟨⟨by omega, fun hm => by have := hlt _ hm; omega⟩, by omega, fun hm => by have := hlt _ hm; omega⟩), ?_⟩
 refine v_alloc fun b3 w7 e3 h3 c7 => ?_
 refine v_alloc fun b4 w8 e4 h4 c8 => ?_
 have s7 := c7.size
 have s8 := c8.size
 have hT : TouchesAt w8 (fun i => i = b3 ∨ i = b4) (some (⟨b4, 0, none⟩ : Addr)) 1 [((1, 1), [(13, 0)])] := touches_one (p := (13, 0)) (to := (1, 1)) (c8.obj (by simp) h3) h4 (by unfold i64s; simp) (by unfold i64s; simp)
 have hF8 := (hF6.chg c7 (by simp)).chg c8 (by simp)
 refine (flow_apply (c := 1) hF8 hT (fun i hi => by
  have := hlt6 i hi
  rintro (rfl | rfl) <;> omega) (by omega) (by simp)).mono ?_
 rintro _ w9 ⟨_, rfl, rfl, fp9, hF9, c9, hf9⟩
 refine ⟨_, rfl, Same.of c9 (by simp; exact ⟨by omega, fun hm => by
  rcases hf6 _ hm with h | h
  ·have := hlt _ h; omega
  ·omega⟩), ?_⟩
 refine (flow_Get hF9 (p1 := 1) (p2 := 1) (by unfold i64s; omega)).mono ?_
 rintro _ w10 ⟨r6, r7, rfl, hr⟩
 obtain ⟨hr1, hr2⟩ := hr
 have key : (applyF (markF (flowNew 1 1 4) (13, 0) 2 1) [((1, 1), [(13, 0)])]).g (1, 1) = 1 ∧ applyE (markF (flowNew 1 1 4) (13, 0) 2 1) [((1, 1), [(13, 0)])] = 0 ∧ markE (flowNew 1 1 4) (13, 0) 2 1 = 0 ∧ (applyF (markF (flowNew 1 1 4) (13, 0) 2 1) [((1, 1), [(13, 0)])]).fr = 1 ∧ (applyF (markF (flowNew 1 1 4) (13, 0) 2 1) [((1, 1), [(13, 0)])]).se = 1 := by
  decide +kernel
 obtain ⟨k1, k2, k3, k4, k5⟩ := key
 rw [k4, k5, if_pos (by decide)] at hr2
 refine ⟨_, _, rfl, ?_, ?_⟩
 ·rw [k2, k3, hr2.1, hr2.2, k1]; rfl
 ·have c06 : Chg [] w w6 := (c1.trans0 c5).trans c6 (fun i hi hlt' => by have := hfp i hi; omega)
  refine ((c06.trans0 c7).trans0 c8).trans c9 (fun i hi hlt' => ?_) |>.trans0 hr1
  rcases hf6 _ hi with h | h
  ·have := hfp _ h; omega
  ·omega
end Go.Proofs.YtfcfkhbkkfpehaaGreat
end
section
/- The document's sets: Bit, Join. -/
namespace Go.Proofs.YtfcfkhbkkfpehaaGreat
open Go Go.RowKit Go.X
end Go.Proofs.YtfcfkhbkkfpehaaGreat
end
section
/- The document's flows: Get, together, MayAll, Decides, Apply. -/
namespace Go.Proofs.YtfcfkhbkkfpehaaGreat
open Go Go.RowKit Go.X
theorem CellsAt.two {w : World} {q : Addr} {a b c : Value} (h : CellsAt w q 0 [a, b, c]) : CellsAt w q 0 [a, b] := ⟨h.1, h.2.1, trivial⟩
end Go.Proofs.YtfcfkhbkkfpehaaGreat
end
section
/- The document's flows: Apply. -/
namespace Go.Proofs.YtfcfkhbkkfpehaaGreat
open Go Go.RowKit Go.X
end Go.Proofs.YtfcfkhbkkfpehaaGreat
end
section
namespace Go.Proofs.YtfcfkhbkkfpehaaGreat
open Go Go.X
end Go.Proofs.YtfcfkhbkkfpehaaGreat
end
section
/- What one act answers, on both flows. -/
namespace Go.Proofs.YtfcfkhbkkfpehaaGreat
open Go Go.RowKit Go.X
theorem FlowAt.out {w : World} {b : Nat} {F : Fl} {fp : List Nat} (h : FlowAt w b F fp) (p : Int × Int) (hm : ¬ mayP F.fr F.se p) : F.g p = 0 := by
 obtain ⟨T, m, d, r, l, fpT, fpm, fpd, gm, gd, h1, h2, h3, h4, h5, h6, h7, h8, h9, _⟩ := h.there
 obtain ⟨k, n⟩ := p
 unfold mayP boundP at hm
 simp only [] at hm
 by_cases e1 : k = 10
 ·subst e1; rw [h6]; exact h3.out (by simp at hm; omega)
 by_cases e2 : k = 12
 ·subst e2; rw [h7]; exact h4.out (by simp at hm; omega)
 rw [h8 _ e1 e2]
 cases hk : lookK (k, n) l with
 | none => rfl
 | some v =>
  have := (h9 _ (lookK_mem hk)).2.2.1
  unfold mayP boundP at this
  simp only [] at this
  exact absurd this hm
theorem stepF_shape (F : Fl) (a : ActV) : (stepF F a).fr = F.fr ∧ (stepF F a).se = F.se ∧ (stepF F a).most = F.most := by
 unfold stepF
 split
 ·unfold markF; split <;> exact ⟨rfl, rfl, rfl⟩
 ·unfold applyF; split <;> exact ⟨rfl, rfl, rfl⟩
end Go.Proofs.YtfcfkhbkkfpehaaGreat
end
section
/- The document's pairs: rising, none empty, all of places that may be; two such lists that say the same are the same. -/
namespace Go.Proofs.YtfcfkhbkkfpehaaGreat
open Go Go.RowKit Go.X
theorem ahead_trans {a b c : Int × Int} (h : aheadP a b) (k : aheadP b c) : aheadP a c := by unfold aheadP at *; omega
theorem ahead_irrefl (a : Int × Int) : ¬ aheadP a a := by unfold aheadP; omega
theorem ahead_tri {a b : Int × Int} (h : ¬ aheadP a b) (k : b ≠ a) : aheadP b a := by
 unfold aheadP at *
 by_cases e : a.1 = b.1
 ·by_cases e2 : a.2 = b.2
  ·exact absurd (Prod.ext e.symm e2.symm) k
  ·omega
 ·omega
structure Good (fr se : Int) (l : List Pr) : Prop where
 rise : (l.map Prod.fst).Pairwise aheadP
 each : ∀ x ∈ l, x.2 ≠ 0 ∧ mayP fr se x.1
theorem Good.nil (fr se : Int) : Good fr se [] := ⟨by simp, by simp⟩
structure PutG (p : Int × Int) (set : Int) (l : List Pr) (s : List Pr × Bool) : Prop where
 rise : (s.1.map Prod.fst).Pairwise aheadP
 keys : ∀ x ∈ s.1, x ∈ l ∨ (x = (p, set) ∧ set ≠ 0 ∧ ∃ y ∈ l, p = y.1 ∨ aheadP p y.1)
 off : s.2 = false → set ≠ 0 ∧ (∀ y ∈ l, aheadP y.1 p) ∧ ∀ x ∈ s.1, aheadP x.1 p
theorem rise_snoc {l : List Pr} {x : Pr} (h : (l.map Prod.fst).Pairwise aheadP) (hx : ∀ y ∈ l, aheadP y.1 x.1) : ((l ++ [x]).map Prod.fst).Pairwise aheadP := by
 rw [List.map_append, List.pairwise_append]
 refine ⟨h, by simp, fun a ha b hb => ?_⟩
 obtain ⟨y, hy, rfl⟩ := List.mem_map.1 ha
 simp at hb; subst hb
 exact hx y hy
theorem putG_step {p : Int × Int} {set : Int} {l : List Pr} {s : List Pr × Bool} (h : PutG p set l s) {x : Pr} (hx : ∀ y ∈ l, aheadP y.1 x.1) : PutG p set (l ++ [x]) (stepPut p set s x) := by
 have hs : ∀ y ∈ s.1, aheadP y.1 x.1 := fun y hy => by
  rcases h.keys y hy with k | ⟨rfl, _, z, hz, k⟩
  ·exact hx y k
  ·rcases k with k | k
   ·simp only []; rw [k]; exact hx z hz
   ·exact ahead_trans k (hx z hz)
 have up : ∀ y ∈ s.1, y ∈ l ++ [x] ∨ (y = (p, set) ∧ set ≠ 0 ∧ ∃ z ∈ l ++ [x], p = z.1 ∨ aheadP p z.1) := fun y hy => by
  rcases h.keys y hy with k | ⟨k1, k0, z, hz, k2⟩
  ·exact .inl (by simp [k])
  ·exact .inr ⟨k1, k0, z, by simp [hz], k2⟩
 unfold stepPut
 cases hf : s.2 with
 | true =>
  simp only [Bool.not_true, Bool.false_and, Bool.false_eq_true, if_false, hf, and_false, reduceCtorEq]
  by_cases hxp : x.1 = p
  ·rw [if_pos hxp]
   exact ⟨h.rise, up, fun h => by cases h⟩
  ·rw [if_neg hxp]
   refine ⟨rise_snoc h.rise hs, fun y hy => ?_, fun h => by cases h⟩
   rcases List.mem_append.1 hy with hy | hy
   ·exact up y hy
   ·exact .inl (by simp at hy; simp [hy])
 | false =>
  obtain ⟨h0, h1, h2⟩ := h.off hf
  by_cases ha : aheadP p x.1
  ·have hxp : x.1 ≠ p := fun e => ahead_irrefl p (by rw [e] at ha; exact ha)
   simp only [Bool.not_false, Bool.true_and, ha, decide_true, if_true, hxp, if_false, false_and]
   refine ⟨rise_snoc (rise_snoc h.rise h2) fun y hy => ?_, fun y hy => ?_, fun h => by cases h⟩
   ·rcases List.mem_append.1 hy with hy | hy
    ·exact hs y hy
    ·simp at hy; subst hy; exact ha
   ·rcases List.mem_append.1 hy with hy | hy
    ·rcases List.mem_append.1 hy with hy | hy
     ·exact up y hy
     ·simp at hy; exact .inr ⟨hy, h0, x, by simp, .inr ha⟩
    ·exact .inl (by simp at hy; simp [hy])
  ·simp only [Bool.not_false, Bool.true_and, ha, decide_false, Bool.false_eq_true, if_false, hf, and_true]
   by_cases hxp : x.1 = p
   ·simp only [hxp, if_true]
    refine ⟨rise_snoc h.rise h2, fun y hy => ?_, fun h => by cases h⟩
    rcases List.mem_append.1 hy with hy | hy
    ·exact up y hy
    ·simp at hy; exact .inr ⟨hy, h0, x, by simp, .inl hxp.symm⟩
   ·simp only [hxp, if_false]
    have hxa : aheadP x.1 p := ahead_tri ha hxp
    refine ⟨rise_snoc h.rise hs, fun y hy => ?_, fun _ => ⟨h0, fun y hy => ?_, fun y hy => ?_⟩⟩
    ·rcases List.mem_append.1 hy with hy | hy
     ·exact up y hy
     ·exact .inl (by simp at hy; simp [hy])
    ·rcases List.mem_append.1 hy with hy | hy
     ·exact h1 y hy
     ·simp at hy; subst hy; exact hxa
    ·rcases List.mem_append.1 hy with hy | hy
     ·exact h2 y hy
     ·simp at hy; subst hy; exact hxa
theorem putG_fold (p : Int × Int) (set : Int) : ∀ (n : Nat) (l : List Pr), l.length = n → (l.map Prod.fst).Pairwise aheadP → PutG p set l (foldPut p set l)
 | 0, l, hl, _ => by
  obtain rfl := List.eq_nil_of_length_eq_zero hl
  exact ⟨by simp [foldPut], by simp [foldPut], fun h => ⟨by simpa [foldPut] using h, by simp, by simp [foldPut]⟩⟩
 | n + 1, l, hl, hr => by
  have hne : l ≠ [] := fun e => by subst e; simp at hl
  obtain ⟨l', x, rfl⟩ : ∃ l' x, l = l' ++ [x] := ⟨l.dropLast, l.getLast hne, (List.dropLast_concat_getLast hne).symm⟩
  rw [List.map_append, List.pairwise_append] at hr
  rw [foldPut_snoc]
  refine putG_step (putG_fold p set n l' (by simpa using hl) hr.1) fun y hy => ?_
  exact hr.2.2 y.1 (List.mem_map.2 ⟨y, hy, rfl⟩) x.1 (by simp)
theorem Good.put {fr se : Int} {l : List Pr} (h : Good fr se l) {p : Int × Int} {set : Int} (hp : mayP fr se p) : Good fr se (refPut p set l) := by
 have hg := putG_fold p set _ l rfl h.rise
 have hk : ∀ x ∈ (foldPut p set l).1, x.2 ≠ 0 ∧ mayP fr se x.1 := fun x hx => by
  rcases hg.keys x hx with k | ⟨rfl, k0, _⟩
  ·exact h.each x k
  ·exact ⟨k0, hp⟩
 unfold refPut
 simp only []
 cases hf : (foldPut p set l).2 with
 | true => exact ⟨by simpa using hg.rise, by simpa using hk⟩
 | false =>
  obtain ⟨h0, h1, h2⟩ := hg.off hf
  simp only [Bool.false_eq_true, if_false]
  refine ⟨rise_snoc hg.rise h2, fun x hx => ?_⟩
  rcases List.mem_append.1 hx with hx | hx
  ·exact hk x hx
  ·simp at hx; subst hx; exact ⟨h0, hp⟩
theorem Good.fill {fr se : Int} {p : Int × Int} {set : Int} {l : List Pr} (h : Good fr se l) : ∀ (n : Nat), (∀ i : Nat, i < n → mayP fr se (p.1, p.2 + i)) → Good fr se (refFill p set l n)
 | 0, _ => h
 | n + 1, hp => (Good.fill h n fun i hi => hp i (by omega)).put (hp n (by omega))
theorem Good.all {fr se : Int} {g : Int × Int → Int} : ∀ (ts : List Tch) {l : List Pr}, Good fr se l → rightAll fr se ts → Good fr se (putAll g ts l)
 | [], _, h, _ => h
 | t :: ts, l, h, hr => by
  show Good fr se (putAll g ts (putStep g l t))
  refine Good.all ts ?_ fun u hu => hr u (by simp [hu])
  unfold putStep
  split
  ·exact h
  ·rename_i hne
   exact h.put ((hr t (by simp)).1.resolve_left hne)
theorem Good.step {R : Rf} (h : Good R.fr R.se R.pairs) (a : ActV) : Good (stepR R a).fr (stepR R a).se (stepR R a).pairs := by
 unfold stepR
 split
 ·unfold refMark
  split
  ·rename_i he
   refine h.fill _ fun i hi => ?_
   unfold refMarkE at he
   split at he
   ·cases he
   ·rename_i k1
    split at he
    ·cases he
    ·rename_i k2
     have m1 : mayP R.fr R.se a.p := by
      apply Classical.byContradiction; intro k; exact k1 (.inl k)
     have m2 : mayP R.fr R.se (a.p.1, a.p.2 + a.n - 1) := by
      apply Classical.byContradiction; intro k; exact k2 (.inr (.inr ⟨by omega, k⟩))
     obtain ⟨q1, q2, q3, q4⟩ := m1
     obtain ⟨_, _, _, q5⟩ := m2
     simp only [] at q5
     exact ⟨q1, q2, by simp only []; omega, by simp only []; omega⟩
  ·exact h
 ·unfold refApply
  split
  ·rename_i hr
   simp only []
   split
   ·exact h.all _ hr
   ·exact h
  ·exact h
theorem Good.look {fr se : Int} {l : List Pr} (h : Good fr se l) (p : Int × Int) : p ∈ l.map Prod.fst ↔ lookPr l p ≠ 0 := by
 unfold lookPr
 cases hl : lookK p l with
 | none =>
  simp only [Option.getD_none, ne_eq, not_true, iff_false]
  intro hm
  obtain ⟨x, hx, e⟩ := List.mem_map.1 hm
  exact lookK_none.1 hl x hx e
 | some v =>
  have hm := lookK_mem hl
  simp only [Option.getD_some]
  exact ⟨fun _ => (h.each _ hm).1, fun _ => List.mem_map.2 ⟨_, hm, rfl⟩⟩
theorem Good.nodup {fr se : Int} {l : List Pr} (h : Good fr se l) : (l.map Prod.fst).Nodup := List.Pairwise.imp (R := aheadP) (S := (· ≠ ·)) (fun {a b} hab e => by subst e; exact ahead_irrefl a hab) h.rise
theorem Good.eq {fr se : Int} {l : List Pr} (h : Good fr se l) : l = (l.map Prod.fst).map fun p => (p, lookPr l p) := by
 rw [List.map_map]
 refine (List.map_id l).symm.trans (List.map_congr_left fun x hx => ?_)
 have := (lookK_iff h.nodup).2 (show (x.1, x.2) ∈ l from hx)
 simp only [Function.comp, id_eq, lookPr, this, Option.getD_some]
end Go.Proofs.YtfcfkhbkkfpehaaGreat
end
section
/- Flows behind several acts: the flow's, the document's. -/
namespace Go.Proofs.YtfcfkhbkkfpehaaGreat
open Go Go.RowKit Go.X
structure BothAt (w0 w : World) (bf : Nat) (F : Fl) (R : Rf) (p4 : Option Addr) (n4 c4 : Nat) (p5 : Option Addr) (n5 c5 : Nat) (fp : List Nat) : Prop where
 flow : FlowAt w bf F fp
 ref : RefAt w R p4 n4 c4 p5 n5 c5
 rel : RelF F R
 chg : Chg [] w0 w
 fresh : ∀ i ∈ fp, w0.heap.size ≤ i
 rows : ∀ i ∈ rowB p4 ++ rowB p5, i ∉ fp
end Go.Proofs.YtfcfkhbkkfpehaaGreat
end
section
namespace Go.Proofs.YtfcfkhbkkfpehaaGreat
open Go Go.X
def z167_XG3 : List Value := List.replicate 1 (Value.int .i64 0) ++ List.replicate 64 (Value.int .u32 0)
/- (*pomander/shadow.Shadow).Copy -/
def W_shadow_Shadow_Copy (s1 : Option Addr) (w : World) (R : (Option Addr) → World → Prop) : Prop :=
 Calls Tryz.prog 81 #[.pointer s1] w fun e w1 => ∃ (r2 : Bool), e = .returned (.bool r2) ∧ ((r2 = true → R none w1) ∧ (r2 = false → ∃ a1 : Addr, s1 = some a1 ∧ (∃ (t1 : Int), w1.cell? a1 = some (.int .i64 t1) ∧ (∀ b1 : Nat, b1 = World.size w1 → ∀ w2 : World, w2 = World.alloc w1 (.map #[] 0) → (∀ b2 : Nat, b2 = World.size w2 → ∀ w3 : World, w3 = World.alloc w2 (.cells #[.int .i64 t1, .map (some b1)] 158) → (∀ b3 : Nat, b3 = World.size w3 → ∀ w4 : World, w4 = World.alloc w3 (.cells #[.pointer none] 98) → ((∃ o : Value, w4.cell? (⟨b3, 0, none⟩ : Addr) = some o) ∧ w4.frozen? (⟨b3, 0, none⟩ : Addr) = false ∧ ∀ w5 : World, w5 = World.setCell w4 (⟨b3, 0, none⟩ : Addr) (.pointer (some (⟨b2, 0, none⟩ : Addr))) → (∃ (t2 : Option Nat), w5.cell? (a1.add 1) = some (.map t2) ∧ (Calls Tryz.prog 82 #[.map t2] w5 fun e w6 => ∃ (r3 : Value), e = .returned (r3) ∧ (∃ (S1 Sp1 : List (Int × (Option Addr)) → Prop) (keep1 : List Nat), XR.IsFn Tryz.prog r3 ∧ XR.Iterates Tryz.prog r3 (fun x : Int × (Option Addr) => #[.int .i64 x.1, .pointer x.2]) S1 Sp1 keep1 w6 ∧ (∀ i_ ∈ keep1, i_ < w6.heap.size) ∧ ∃ (I1 : List Nat → List (Int × (Option Addr)) → World → Prop), (∀ (pre_ : List (Int × (Option Addr))), XR.Stab w6 (fun O_ w_ => I1 O_ pre_ w_)) ∧ (∀ (O1 : List Nat) (w7 : World), Chg [] w6 w7 → XR.InO w6 O1 w7 → I1 O1 ([]) w7) ∧ (∀ (l1 : Nat) (O1 : List Nat) (pre1 : List (Int × (Option Addr))) (x1 : Int) (x2 : Option Addr) (w7 : World), XR.InO w6 O1 w7 → l1 ∈ O1 → Sp1 (pre1 ++ [(x1, x2)]) → I1 O1 pre1 w7 → (∀ (w8 : World), Chg [l1] w7 w8 → (∃ a2 : Addr, x2 = some a2 ∧ (∃ (t3 : List Value), t3.length = 65 ∧ CellsAt w8 a2 0 t3 ∧ (∀ b4 : Nat, b4 = World.size w8 → ∀ w9 : World, w9 = World.alloc w8 (.cells (z167_XG3).toArray 167) → ((∀ v ∈ t3, Value.oneCell' v = true) ∧ Has w9 (⟨b4, 0, none⟩ : Addr) 65 ∧ Free w9 (⟨b4, 0, none⟩ : Addr) 65 ∧ ∀ w10 : World, w10 = setCells w9 (⟨b4, 0, none⟩ : Addr) 0 t3 → (∃ (t4 : Option Addr), w10.cell? (⟨b3, 0, none⟩ : Addr) = some (.pointer t4) ∧ (∃ a3 : Addr, t4 = some a3 ∧ (∃ (t5 : Option Nat), w10.cell? (a3.add 1) = some (.map t5) ∧ (∃ w11 : World, (Instr.mapUpdate 156 (.map t5) (.int .i64 x1) (.pointer (some (⟨b4, 0, none⟩ : Addr)))).run Tryz.prog w10 = .ok () w11 ∧ ((w8.heap.size ≤ w11.heap.size ∧ I1 O1 (pre1 ++ [(x1, x2)]) w11 ∧ Same w8 w11 (keep1 ++ O1))))))))))))) ∧ (∀ (d1 : Nat) (O2 : List Nat) (xs1 : List (Int × (Option Addr))) (w12 : World), XR.InO w6 O2 w12 → d1 ∈ O2 → S1 xs1 → I1 O2 xs1 w12 → (∃ (t6 : Option Addr), w12.cell? (⟨b3, 0, none⟩ : Addr) = some (.pointer t6) ∧ (∀ w13 : World, Chg [d1] w12 w13 → (R t6 w13))))))))))))))
set_option maxRecDepth 100000 in
theorem go_shadow_Shadow_Copy (s1 : Option Addr) (w : World) (R : (Option Addr) → World → Prop) (h : W_shadow_Shadow_Copy s1 w R) : Calls Tryz.prog 45 #[.pointer s1] w (fun e w' => ∃ (r1 : Option Addr), e = .returned (.pointer r1) ∧ R r1 w') := by
 unfold W_shadow_Shadow_Copy at h
 refine XR.enterM (N := 32) Tryz.func45 rfl rfl ?_
 refine CW.seq ?_
 refine CW.region fun L hL => ?_
 refine LW.rd hL rfl (Wants.free rfl) rfl (Rd.assign (v := .pointer none) rfl) ?_
 refine LW.nil hL rfl ?_
 refine NW.then ?_
 refine CW.seq ?_
 refine CW.seq ?_
 refine CW.region fun L hL => ?_
 refine LW.rd hL rfl (Wants.free rfl) rfl (Rd.move (v := .pointer s1) rfl) ?_
 refine LW.call hL rfl (Wants.free rfl) rfl (Cl.fn (f := 81) rfl Tryz.func81 (by kernel_rfl) rfl) h (fun e w1 h_ => ?_)
 clear h
 obtain ⟨r2, rfl, h⟩ := h_
 refine ⟨_, rfl, ?_⟩
 refine LW.nil hL rfl ?_
 refine NW.then ?_
 refine CW.cond rfl (fun hb1 => ?_) (fun hb1 => ?_)
 ·replace h := h.1 hb1
  refine CW.seq ?_
  refine CW.region fun L hL => ?_
  refine LW.rd hL rfl (Wants.free rfl) rfl (Rd.assign (v := .pointer none) rfl) ?_
  refine LW.nil hL rfl ?_
  refine NW.then ?_
  refine CW.ret ?_
  refine RW.then ?_
  exact XR.res0M (vs := [.pointer none]) (by exact (ResOK.t rfl ResOK.nil)) rfl ⟨none, rfl, h⟩
 ·replace h := h.2 hb1
  refine CW.skip ?_
  refine NW.then ?_
  refine CW.seq ?_
  refine CW.region fun L hL => ?_
  refine LW.rd hL rfl (Wants.free rfl) rfl (Rd.move (v := .pointer s1) rfl) ?_
  obtain ⟨a1, ha1, h⟩ := h
  refine LW.rd hL rfl (Wants.free rfl) rfl (Rd.nil (q := a1) (by rw [← ha1]; rfl)) ?_
  refine LW.rd hL rfl (Wants.free rfl) rfl (Rd.fa (v := .pointer (some a1)) rfl (fun _ => by kernel_rfl)) ?_
  obtain ⟨t1, hc1, h⟩ := h
  refine LW.rd hL rfl (Wants.free rfl) rfl (Rd.ld (v := .int .i64 t1) rfl (by kernel_rfl) (eqs hc1)) ?_
  obtain ⟨b1, hb_b1⟩ : ∃ b1, b1 = World.size w1 := ⟨_, rfl⟩
  obtain ⟨w2, hw_w2⟩ : ∃ w2, w2 = World.alloc w1 (.map #[] 0) := ⟨_, rfl⟩
  replace h := h b1 hb_b1 w2 hw_w2
  refine LW.val hL rfl (Wants.free rfl) rfl (mapE hb_b1 hw_w2 Vl.makeMap) ?_
  refine LW.rd hL rfl (Wants.free rfl) rfl (Rd.build (v := .agg #[.int .i64 t1, .map (some b1)]) rfl (fun _ => by kernel_rfl)) ?_
  obtain ⟨b2, hb_b2⟩ : ∃ b2, b2 = World.size w2 := ⟨_, rfl⟩
  obtain ⟨w3, hw_w3⟩ : ∃ w3, w3 = World.alloc w2 (.cells #[.int .i64 t1, .map (some b1)] 158) := ⟨_, rfl⟩
  replace h := h b2 hb_b2 w3 hw_w3
  refine LW.val hL rfl (Wants.free rfl) rfl (boxE hb_b2 hw_w3 (Vl.box (v := .agg #[.int .i64 t1, .map (some b1)]) rfl)) ?_
  obtain ⟨b3, hb_b3⟩ : ∃ b3, b3 = World.size w3 := ⟨_, rfl⟩
  obtain ⟨w4, hw_w4⟩ : ∃ w4, w4 = World.alloc w3 (.cells #[.pointer none] 98) := ⟨_, rfl⟩
  replace h := h b3 hb_b3 w4 hw_w4
  refine LW.val hL rfl (Wants.free rfl) rfl (boxE hb_b3 hw_w4 (Vl.alloc (z := .pointer none) (by kernel_rfl))) ?_
  obtain ⟨⟨o_w5, ho1⟩, hf1, h⟩ := h
  obtain ⟨w5, hw_w5⟩ : ∃ w5, w5 = World.setCell w4 (⟨b3, 0, none⟩ : Addr) (.pointer (some (⟨b2, 0, none⟩ : Addr))) := ⟨_, rfl⟩
  replace h := h w5 hw_w5
  refine LW.eff hL rfl (Wants.free rfl) rfl (stE hw_w5 (Ef.st rfl rfl rfl (by kernel_rfl) ho1 hf1)) ?_
  refine LW.nil hL rfl ?_
  refine NW.then ?_
  refine CW.seq ?_
  refine CW.seq ?_
  refine CW.region fun L hL => ?_
  refine LW.rd hL rfl (Wants.free rfl) rfl (Rd.move (v := .pointer s1) rfl) ?_
  refine LW.rd hL rfl (Wants.free rfl) rfl (Rd.nil (q := a1) (by rw [← ha1]; rfl)) ?_
  refine LW.rd hL rfl (Wants.free rfl) rfl (Rd.fa (v := .pointer (some (a1.add 1))) rfl (fun _ => by kernel_rfl)) ?_
  obtain ⟨t2, hc2, h⟩ := h
  refine LW.rd hL rfl (Wants.free rfl) rfl (Rd.ld (v := .map t2) rfl (by kernel_rfl) (eqs hc2)) ?_
  refine LW.call hL rfl (Wants.free rfl) rfl (Cl.fn (f := 82) rfl Tryz.func82 (by kernel_rfl) rfl) h (fun e w6 h_ => ?_)
  clear h
  obtain ⟨r3, rfl, h⟩ := h_
  refine ⟨_, rfl, ?_⟩
  refine LW.nil hL rfl ?_
  refine NW.then ?_
  refine CW.block ?_
  obtain ⟨S1, Sp1, keep1, hfn_, hit_, hkp_, I1, hst_I1, h0_, hrd_, hdn_⟩ := h
  refine XR.CW.rangeV (α := Int × (Option Addr)) (enc := (fun x : Int × (Option Addr) => #[.int .i64 x.1, .pointer x.2])) (S := S1) (Sp := Sp1) (keep := keep1) rfl hfn_ (fun _ => rfl) (by decide) hit_ (fun (O_ : List Nat) (pre_ : List (Int × (Option Addr))) (w_ : World) => I1 O_ pre_ w_) (fun (c_ : Code) (O_ : List Nat) (pre_ : List (Int × (Option Addr))) (w_ : World) => False) ?_ ?_ ?_ hkp_ ?_ ?_ ?_
  ·intro pre_ O_ O2_ A_ B_ hi_ hO_ hc_ hO2_ hg_
   exact hst_I1  pre_ O_ O2_ A_ B_ hi_ hO_ hc_ hO2_ hg_
  ·intro c_ pre_ O_ O2_ A_ B_ hi_ hO_ hc_ hO2_ hg_
   exact hi_.elim
  ·intro O_ A_ hc_ hO_
   exact h0_ O_ A_ hc_ hO_
  ·intro l1 O1 pre1 x_ w7 hO_ hl_ hSp_ hi_
   obtain ⟨x1, x2⟩ := x_
   have h := hrd_ l1 O1 pre1 x1 x2 w7 hO_ hl_ hSp_ hi_
   refine XR.CW.seq ?_
   refine XR.CW.region fun L hL => ?_
   refine XR.LW.rd hL rfl (Wants.free rfl) rfl (Rd.assign (v := .int .i64 x1) rfl) ?_
   refine XR.LW.nil hL rfl ?_
   refine XR.NW.then ?_
   refine XR.CW.region fun L hL => ?_
   refine XR.LW.rd hL rfl (Wants.free rfl) rfl (Rd.assign (v := .pointer x2) rfl) ?_
   refine XR.LW.nil hL rfl ?_
   refine XR.NW.begin (Chg.refl [] w7) (fun w8 hcb_w8 hlp_ hib_ => ?_)
   have hc_w8 : Chg [l1] w7 w8 := sil_more (Chg.refl [] w7) hcb_w8
   replace h := h  w8  hc_w8
   refine XR.CW.block ?_
   refine XR.CW.seq ?_
   refine XR.CW.region fun L hL => ?_
   refine XR.LW.rd hL rfl (Wants.free rfl) rfl (Rd.move (v := .pointer x2) rfl) ?_
   obtain ⟨a2, ha2, h⟩ := h
   refine XR.LW.rd hL rfl (Wants.free rfl) rfl (Rd.nil (q := a2) (by rw [← ha2]; rfl)) ?_
   obtain ⟨t3, hl1, hc3, h⟩ := h
   refine XR.LW.rd hL rfl (Wants.free rfl) rfl (Rd.ldN (cs := t3) rfl (by kernel_rfl) (by rw [hl1]; kernel_rfl) (cellsS hc3)) ?_
   obtain ⟨b4, hb_b4⟩ : ∃ b4, b4 = World.size w8 := ⟨_, rfl⟩
   obtain ⟨w9, hw_w9⟩ : ∃ w9, w9 = World.alloc w8 (.cells (z167_XG3).toArray 167) := ⟨_, rfl⟩
   replace h := h b4 hb_b4 w9 hw_w9
   refine XR.LW.val hL rfl (Wants.free rfl) rfl (boxE hb_b4 hw_w9 (Vl.alloc (z := .agg ((z167_XG3)).toArray) (by kernel_rfl))) ?_
   obtain ⟨hv1, ho2, hf2, h⟩ := h
   obtain ⟨w10, hw_w10⟩ : ∃ w10, w10 = setCells w9 (⟨b4, 0, none⟩ : Addr) 0 t3 := ⟨_, rfl⟩
   replace h := h w10 hw_w10
   refine XR.LW.eff hL rfl (Wants.free rfl) rfl (stNE hw_w10 (Ef.stN (cs := t3) rfl rfl (by rw [hl1]; kernel_rfl) hv1 (hl1 ▸ ho2) (hl1 ▸ hf2))) ?_
   refine XR.LW.nil hL rfl ?_
   refine XR.NW.then ?_
   refine XR.CW.region fun L hL => ?_
   obtain ⟨t4, hc4, h⟩ := h
   refine XR.LW.rd hL rfl (Wants.free rfl) rfl (Rd.ld (v := .pointer t4) rfl (by kernel_rfl) (eqs hc4)) ?_
   obtain ⟨a3, ha3, h⟩ := h
   refine XR.LW.rd hL rfl (Wants.free rfl) rfl (Rd.nil (q := a3) (by rw [← ha3]; rfl)) ?_
   refine XR.LW.rd hL rfl (Wants.free rfl) rfl (Rd.fa (v := .pointer (some (a3.add 1))) rfl (fun _ => by kernel_rfl)) ?_
   obtain ⟨t5, hc5, h⟩ := h
   refine XR.LW.rd hL rfl (Wants.free rfl) rfl (Rd.ld (v := .map t5) rfl (by kernel_rfl) (eqs hc5)) ?_
   refine XR.LW.rd hL rfl (Wants.free rfl) rfl (Rd.move (v := .int .i64 x1) rfl) ?_
   obtain ⟨w11, hm1, h⟩ := h
   refine XR.LW.eff hL rfl (Wants.free rfl) rfl (Ef.mapUpdate rfl rfl rfl hm1) ?_
   refine XR.LW.nil hL rfl ?_
   refine NW.block ?_
   exact fun a_ ha_ => ⟨h.1, h.2.1, h.2.2⟩
  ·intro d1 O2 xs1 w12 hO_ hd_ hdh_ hS_ hi_
   have h := hdn_ d1 O2 xs1 w12 hO_ hd_ hS_ hi_
   have hK := XR.Marks.cons (XR.Marks.nil _) hdh_ (by simp)
   refine NW.block ?_
   refine NW.then ?_
   refine CW.seq ?_
   refine CW.region fun L hL => ?_
   obtain ⟨t6, hc6, h⟩ := h
   refine LW.rd hL rfl (Wants.free rfl) rfl (Rd.ld (v := .pointer t6) rfl (by kernel_rfl) (eqs hc6)) ?_
   refine LW.rd hL rfl (Wants.free rfl) rfl (Rd.assign (v := .pointer t6) rfl) ?_
   refine LW.nil hL rfl ?_
   refine NW.then ?_
   refine CW.ret ?_
   exact XR.resM (ms := [d1]) (vs := [.pointer t6]) hK rfl (fun w_ hc_ => ⟨(ResOK.t rfl ResOK.nil), t6, rfl, h w_ hc_⟩)
  ·intro d2 c_ O3 xs2 w14 hO_ hd_ hdh_ hS_ hi_
   exact hi_.elim
/- maps.All[map[int]*pomander/shadow.page,int,*pomander/shadow.page] -/
def W_maps_All_0 (m1 : Option Nat) (w : World) (R : Value → World → Prop) : Prop :=
 ∀ b1 : Nat, b1 = World.size w → ∀ w1 : World, w1 = World.alloc w (.cells #[.map m1] 156) → (R (.func (.func 100) #[] #[.pointer (some (⟨b1, 0, none⟩ : Addr))]) w1)
set_option maxRecDepth 100000 in
theorem go_maps_All_0 (m1 : Option Nat) (w : World) (R : Value → World → Prop) (h : W_maps_All_0 m1 w R) : Calls Tryz.prog 82 #[.map m1] w (fun e w' => ∃ (r1 : Value), e = .returned (r1) ∧ R r1 w') := by
 unfold W_maps_All_0 at h
 refine enter (N := 4) Tryz.func82 rfl rfl ?_
 refine CW.seq ?_
 refine CW.region fun L hL => ?_
 obtain ⟨b1, hb_b1⟩ : ∃ b1, b1 = World.size w := ⟨_, rfl⟩
 obtain ⟨w1, hw_w1⟩ : ∃ w1, w1 = World.alloc w (.cells #[.map m1] 156) := ⟨_, rfl⟩
 replace h := h b1 hb_b1 w1 hw_w1
 refine LW.val hL rfl (Wants.free rfl) rfl (boxE hb_b1 hw_w1 (Vl.box (v := .map m1) rfl)) ?_
 refine LW.rd hL rfl (Wants.free rfl) rfl (Rd.assign (v := .nilFunc) rfl) ?_
 refine LW.nil hL rfl ?_
 refine NW.then ?_
 refine CW.seq ?_
 refine CW.region fun L hL => ?_
 refine LW.rd hL rfl (Wants.free rfl) rfl (Rd.makeFunc rfl) ?_
 refine LW.rd hL rfl (Wants.free rfl) rfl (Rd.assign (v := .func (.func 100) #[] #[.pointer (some (⟨b1, 0, none⟩ : Addr))]) rfl) ?_
 refine LW.nil hL rfl ?_
 refine NW.then ?_
 refine CW.ret ?_
 exact res1 rfl rfl ⟨.func (.func 100) #[] #[.pointer (some (⟨b1, 0, none⟩ : Addr))], rfl, h⟩
/- maps.Keys[map[int]*pomander/shadow.page,int,*pomander/shadow.page]$1 -/
def W_maps_Keys_0_1 (yield1 : Value) (cap1 : Addr) (w : World) (R : World → Prop) : Prop :=
 ∃ (t1 : Option Nat), w.cell? cap1 = some (.map t1) ∧ (∃ (it1 : Option Addr) (w1 : World), (Instr.range 156 (.map t1)).run Tryz.prog w = .ok (.pointer it1) w1 ∧ (∃ (I1 : World → Prop) (m1 : World → Nat), I1 w1 ∧ ∀ (w2 : World), I1 w2 → ∃ (nx1 : Array Value) (ok1 : Bool) (w3 : World), (Instr.next (.pointer it1) false 0).run Tryz.prog w2 = .ok (.tuple nx1) w3 ∧ nx1[0]? = some (.bool ok1) ∧ ((ok1 = true → ∃ (k1 : Int) (v1 : Option Addr), (Instr.entry (.pointer it1)).run Tryz.prog w3 = .ok (.tuple #[.int .i64 k1, .pointer v1]) w3 ∧ (XR.CallsY Tryz.prog yield1 #[.int .i64 k1] w3 fun e w4 => ∃ (r1 : Bool), e = .returned (.bool r1) ∧ (((!r1) = true → R w4) ∧ ((!r1) = false → (I1 w4 ∧ m1 w4 < m1 w2))))) ∧ (ok1 = false → R w3))))
set_option maxRecDepth 100000 in
theorem go_maps_Keys_0_1 (yield1 : Value) (cap1 : Addr) (w : World) (R : World → Prop) (h : W_maps_Keys_0_1 yield1 cap1 w R) : Calls Tryz.prog 120 #[yield1, .pointer (some cap1)] w (fun e w' => e = .returned (.tuple #[]) ∧ R w') := by
 unfold W_maps_Keys_0_1 at h
 refine enter (N := 14) Tryz.func120 rfl rfl ?_
 refine CW.seq ?_
 refine CW.region fun L hL => ?_
 obtain ⟨t1, hc1, h⟩ := h
 refine LW.rd hL rfl (Wants.free rfl) rfl (Rd.ld (v := .map t1) rfl (by kernel_rfl) (eqs hc1)) ?_
 obtain ⟨it1, w1, hm1, h⟩ := h
 refine LW.val hL rfl (Wants.free rfl) rfl (Vl.range (v := .pointer it1) rfl hm1) ?_
 refine LW.nil hL rfl ?_
 refine NW.then ?_
 refine CW.block ?_
 obtain ⟨I1, m1, hI1, h⟩ := h
 refine CW.loop (S := Unit) (fun s1 => [(0, yield1), (5, .pointer it1)]) (fun s1 w2 => I1 w2) (fun s1 w2 => m1 w2) () (by exact ⟨rfl, rfl, trivial⟩) hI1 (fun s1 w2 hI1 => ?_)
 replace h := h w2 hI1
 refine CW.seq ?_
 refine CW.region fun L hL => ?_
 obtain ⟨nx1, ok1, w3, hm2, hk1, h⟩ := h
 refine LW.val hL rfl (Wants.free rfl) rfl (Vl.next (v := .tuple nx1) rfl hm2) ?_
 refine LW.rd hL rfl (Wants.free rfl) rfl (Rd.extract (v := .bool ok1) rfl hk1) ?_
 refine LW.nil hL rfl ?_
 refine NW.then ?_
 refine CW.seq ?_
 refine CW.cond rfl (fun hb1 => ?_) (fun hb1 => ?_)
 ·replace h := h.1 hb1
  refine CW.skip ?_
  refine NW.then ?_
  refine CW.block ?_
  refine CW.seq ?_
  refine CW.region fun L hL => ?_
  obtain ⟨k1, v1, hl1, h⟩ := h
  refine LW.rd hL rfl (Wants.free rfl) rfl (Rd.entry (v := .tuple #[.int .i64 k1, .pointer v1]) rfl (fun _ e => e ▸ hl1)) ?_
  refine LW.rd hL rfl (Wants.free rfl) rfl (Rd.extract (v := .int .i64 k1) rfl rfl) ?_
  refine LW.rd hL rfl (Wants.free rfl) rfl (Rd.assign (v := .int .i64 k1) rfl) ?_
  refine LW.nil hL rfl ?_
  refine NW.then ?_
  refine CW.seq ?_
  refine XR.CW.un ?_
  refine XR.CW.region fun L hL => ?_
  refine XR.LW.rd hL rfl (Wants.free rfl) rfl (Rd.move (v := yield1) rfl) ?_
  refine XR.LW.rd hL rfl (Wants.free rfl) rfl (Rd.move (v := .int .i64 k1) rfl) ?_
  refine XR.LW.callY hL rfl (Wants.free rfl) rfl rfl rfl h (fun e w4 h_ => ?_)
  clear h
  obtain ⟨r1, rfl, h⟩ := h_
  refine ⟨_, rfl, ?_⟩
  refine XR.LW.rd hL rfl (Wants.free rfl) rfl (Rd.un (v := .bool (!r1)) rfl (fun _ => by kernel_rfl)) ?_
  refine XR.LW.nil hL rfl ?_
  refine NW.then ?_
  refine CW.cond rfl (fun hb2 => ?_) (fun hb2 => ?_)
  ·replace h := h.1 hb2
   refine CW.ret ?_
   refine RW.block ?_
   refine RW.then ?_
   refine RW.block ?_
   exact res0 rfl ⟨rfl, h⟩
  ·replace h := h.2 hb2
   refine CW.skip ?_
   refine NW.block ?_
   exact NW.loop (S := Unit) (Ek := fun s1 => [(0, yield1), (5, .pointer it1)]) () (by exact ⟨rfl, rfl, trivial⟩) h
 ·replace h := h.2 hb1
  refine CW.exit ?_
  refine XW.then ?_
  refine XW.then ?_
  refine XW.hit ?_
  exact res0n rfl (by exact ⟨rfl, h⟩)
/- maps.All[map[int]*pomander/shadow.page,int,*pomander/shadow.page]$1 -/
def W_maps_All_0_1 (yield1 : Value) (cap1 : Addr) (w : World) (R : World → Prop) : Prop :=
 ∃ (t1 : Option Nat), w.cell? cap1 = some (.map t1) ∧ (∃ (it1 : Option Addr) (w1 : World), (Instr.range 156 (.map t1)).run Tryz.prog w = .ok (.pointer it1) w1 ∧ (∃ (I1 : World → Prop) (m1 : World → Nat), I1 w1 ∧ ∀ (w2 : World), I1 w2 → ∃ (nx1 : Array Value) (ok1 : Bool) (w3 : World), (Instr.next (.pointer it1) false 0).run Tryz.prog w2 = .ok (.tuple nx1) w3 ∧ nx1[0]? = some (.bool ok1) ∧ ((ok1 = true → ∃ (k1 : Int) (v1 : Option Addr), (Instr.entry (.pointer it1)).run Tryz.prog w3 = .ok (.tuple #[.int .i64 k1, .pointer v1]) w3 ∧ (XR.CallsY Tryz.prog yield1 #[.int .i64 k1, .pointer v1] w3 fun e w4 => ∃ (r1 : Bool), e = .returned (.bool r1) ∧ (((!r1) = true → R w4) ∧ ((!r1) = false → (I1 w4 ∧ m1 w4 < m1 w2))))) ∧ (ok1 = false → R w3))))
set_option maxRecDepth 100000 in
theorem go_maps_All_0_1 (yield1 : Value) (cap1 : Addr) (w : World) (R : World → Prop) (h : W_maps_All_0_1 yield1 cap1 w R) : Calls Tryz.prog 100 #[yield1, .pointer (some cap1)] w (fun e w' => e = .returned (.tuple #[]) ∧ R w') := by
 unfold W_maps_All_0_1 at h
 refine enter (N := 17) Tryz.func100 rfl rfl ?_
 refine CW.seq ?_
 refine CW.region fun L hL => ?_
 obtain ⟨t1, hc1, h⟩ := h
 refine LW.rd hL rfl (Wants.free rfl) rfl (Rd.ld (v := .map t1) rfl (by kernel_rfl) (eqs hc1)) ?_
 obtain ⟨it1, w1, hm1, h⟩ := h
 refine LW.val hL rfl (Wants.free rfl) rfl (Vl.range (v := .pointer it1) rfl hm1) ?_
 refine LW.nil hL rfl ?_
 refine NW.then ?_
 refine CW.block ?_
 obtain ⟨I1, m1, hI1, h⟩ := h
 refine CW.loop (S := Unit) (fun s1 => [(0, yield1), (6, .pointer it1)]) (fun s1 w2 => I1 w2) (fun s1 w2 => m1 w2) () (by exact ⟨rfl, rfl, trivial⟩) hI1 (fun s1 w2 hI1 => ?_)
 replace h := h w2 hI1
 refine CW.seq ?_
 refine CW.region fun L hL => ?_
 obtain ⟨nx1, ok1, w3, hm2, hk1, h⟩ := h
 refine LW.val hL rfl (Wants.free rfl) rfl (Vl.next (v := .tuple nx1) rfl hm2) ?_
 refine LW.rd hL rfl (Wants.free rfl) rfl (Rd.extract (v := .bool ok1) rfl hk1) ?_
 refine LW.nil hL rfl ?_
 refine NW.then ?_
 refine CW.seq ?_
 refine CW.cond rfl (fun hb1 => ?_) (fun hb1 => ?_)
 ·replace h := h.1 hb1
  refine CW.skip ?_
  refine NW.then ?_
  refine CW.block ?_
  refine CW.seq ?_
  refine CW.region fun L hL => ?_
  obtain ⟨k1, v1, hl1, h⟩ := h
  refine LW.rd hL rfl (Wants.free rfl) rfl (Rd.entry (v := .tuple #[.int .i64 k1, .pointer v1]) rfl (fun _ e => e ▸ hl1)) ?_
  refine LW.rd hL rfl (Wants.free rfl) rfl (Rd.extract (v := .int .i64 k1) rfl rfl) ?_
  refine LW.rd hL rfl (Wants.free rfl) rfl (Rd.extract (v := .pointer v1) rfl rfl) ?_
  refine LW.rd hL rfl (Wants.free rfl) rfl (Rd.assign (v := .int .i64 k1) rfl) ?_
  refine LW.rd hL rfl (Wants.free rfl) rfl (Rd.assign (v := .pointer v1) rfl) ?_
  refine LW.nil hL rfl ?_
  refine NW.then ?_
  refine CW.seq ?_
  refine XR.CW.un ?_
  refine XR.CW.region fun L hL => ?_
  refine XR.LW.rd hL rfl (Wants.free rfl) rfl (Rd.move (v := yield1) rfl) ?_
  refine XR.LW.rd hL rfl (Wants.free rfl) rfl (Rd.move (v := .int .i64 k1) rfl) ?_
  refine XR.LW.rd hL rfl (Wants.free rfl) rfl (Rd.move (v := .pointer v1) rfl) ?_
  refine XR.LW.callY hL rfl (Wants.free rfl) rfl rfl rfl h (fun e w4 h_ => ?_)
  clear h
  obtain ⟨r1, rfl, h⟩ := h_
  refine ⟨_, rfl, ?_⟩
  refine XR.LW.rd hL rfl (Wants.free rfl) rfl (Rd.un (v := .bool (!r1)) rfl (fun _ => by kernel_rfl)) ?_
  refine XR.LW.nil hL rfl ?_
  refine NW.then ?_
  refine CW.cond rfl (fun hb2 => ?_) (fun hb2 => ?_)
  ·replace h := h.1 hb2
   refine CW.ret ?_
   refine RW.block ?_
   refine RW.then ?_
   refine RW.block ?_
   exact res0 rfl ⟨rfl, h⟩
  ·replace h := h.2 hb2
   refine CW.skip ?_
   refine NW.block ?_
   exact NW.loop (S := Unit) (Ek := fun s1 => [(0, yield1), (6, .pointer it1)]) () (by exact ⟨rfl, rfl, trivial⟩) h
 ·replace h := h.2 hb1
  refine CW.exit ?_
  refine XW.then ?_
  refine XW.then ?_
  refine XW.hit ?_
  exact res0n rfl (by exact ⟨rfl, h⟩)
end Go.Proofs.YtfcfkhbkkfpehaaGreat
end
section
/- Iterators over maps: maps.All, maps.Keys over the pages of a shadow. -/
namespace Go.Proofs.YtfcfkhbkkfpehaaGreat
open Go Go.RowKit Go.X Go.XR
theorem _root_.Go.X.IterAt.eq {K V : Type} [DecidableEq K] {ke : K → Value} {ve : V → Value} {w w' : World} {it m : Nat} {l done : List (K × V)} (h : IterAt w it m ke ve l done) (h1 : w'.heap[it]? = w.heap[it]?) (h2 : w'.heap[m]? = w.heap[m]?) : IterAt w' it m ke ve l done := by
 obtain ⟨es, clk, since, c0, seen, ds, a, b, b', c, rest⟩ := h
 exact ⟨es, clk, since, c0, seen, ds, h1.trans a, b, b', h2.trans c, rest⟩
theorem _root_.Go.X.IterAt.lt {K V : Type} [DecidableEq K] {ke : K → Value} {ve : V → Value} {w : World} {it m : Nat} {l done : List (K × V)} (h : IterAt w it m ke ve l done) : it < w.heap.size := by
 obtain ⟨es, clk, since, c0, seen, ds, a, _⟩ := h
 exact lt_of_heap a
def allS {K V α : Type} (f : K × V → α) (l : List (K × V)) (xs : List α) : Prop := ∃ done : List (K × V), xs = done.map f ∧ (done.map Prod.fst).Nodup ∧ (∀ x ∈ done, x ∈ l) ∧ ∀ x ∈ l, x ∈ done
def allSp {K V α : Type} (f : K × V → α) (l : List (K × V)) (xs : List α) : Prop := ∃ done : List (K × V), xs = done.map f ∧ (done.map Prod.fst).Nodup ∧ ∀ x ∈ done, x ∈ l
def pgF (x : Int × Nat) : Int × Option Addr := (x.1, some ⟨x.2, 0, none⟩)
theorem isFn118 (cb : Nat) : IsFn Tryz.prog (.func (.func 100) #[] #[.pointer (some ⟨cb, 0, none⟩)]) := ⟨100, Tryz.f100, _, rfl, Tryz.func100, by kernel_rfl, by kernel_rfl⟩
theorem iterates_all {w : World} {cb m : Nat} {l : List (Int × Nat)} (hcb : w.heap[cb]? = some (.cells #[.map (some m)] 156 (0, 0))) (hm : MapIs w m (fun n : Int => .int .i64 n) encPg l) :
  Iterates Tryz.prog (.func (.func 100) #[] #[.pointer (some ⟨cb, 0, none⟩)]) (fun x : Int × Option Addr => #[.int .i64 x.1, .pointer x.2]) (allS pgF l) (allSp pgF l) [cb, m] w := by
 intro W yv I Ix hW hI hIx h0 hround
 refine ⟨100, #[.pointer (some ⟨cb, 0, none⟩)], Tryz.f100, rfl, Tryz.func100, by kernel_rfl, by kernel_rfl, ?_⟩
 have hcW := hW.obj (by simp) hcb
 have hmW := hm.chg hW (by simp)
 have hlm := hmW.lt
 refine (go_maps_All_0_1 yv ⟨cb, 0, none⟩ W (fun w' => ∃ Own, InO W Own w' ∧ ((∃ xs, allS pgF l xs ∧ I Own xs w') ∨ ∃ pre, allSp pgF l pre ∧ Ix Own pre w')) ?_).mono (fun e w' h => ⟨⟨_, h.1⟩, h.2⟩)
 unfold W_maps_All_0_1
 obtain ⟨it, w1, hrg, c1, hit, hI1⟩ := iter_range (P := Tryz.prog) (T := 156) hmW u173
 refine ⟨_, by rw [cell_of hcW]; rfl, _, w1, hrg, ?_⟩
 have hne : it ≠ m := by omega
 have s1 := c1.size
 have hitlt := hI1.lt
 refine ⟨fun w2 => ∃ done, I [it] (done.map pgF) w2 ∧ IterAt w2 it m (fun n : Int => .int .i64 n) encPg l done ∧ w1.heap.size ≤ w2.heap.size, fun w2 => l.length - seenN w2 it, ⟨[], ?_, hI1, Nat.le_refl _⟩, ?_⟩
 ·exact hI [] [] [it] W w1 h0 (by intro i hi; cases hi) c1 (by intro i hi; simp at hi; omega) (by intro i hi; simp at hi; omega)
 rintro w2 ⟨done, hi, hIt, s2⟩
 have hin : ∀ {A : World}, w1.heap.size ≤ A.heap.size → InO W [it] A := fun hA i hi => by simp at hi; omega
 rcases iter_next (P := Tryz.prog) hIt hne keyInt.inj 0 with ⟨hnx, hall⟩ | ⟨k, v, w3, hkl, hnew, hrun, c3, hI3, hent⟩
 ·exact ⟨_, false, w2, hnx, rfl, fun h => by simp at h, fun _ => ⟨[it], hin s2, .inl ⟨_, ⟨done, rfl, hIt.sub.2.1, hIt.sub.1, hall⟩, hi⟩⟩⟩
 ·have s3 := c3.size
  refine ⟨_, true, w3, hrun, rfl, fun _ => ⟨k, some ⟨v, 0, none⟩, hent, ?_⟩, fun h => by simp at h⟩
  have hi3 := hI (done.map pgF) [it] [it] w2 w3 hi (hin s2) c3 (hin (by omega)) (fun i h => .inl h)
  have e1 : done.map pgF ++ [(k, some ⟨v, 0, none⟩)] = (done ++ [(k, v)]).map pgF := by simp [pgF]
  refine (hround [it] (done.map pgF) (k, some ⟨v, 0, none⟩) w3 (hin (by omega)) ⟨done ++ [(k, v)], e1, hI3.sub.2.1, hI3.sub.1⟩ hi3).mono ?_
  rintro e w4 ⟨s4, ⟨rfl, hi4, hs4⟩ | ⟨rfl, hx4⟩⟩
  ·refine ⟨true, rfl, fun h => by simp at h, fun _ => ⟨⟨done ++ [(k, v)], by rw [← e1]; exact hi4, hI3.eq (hs4 it (by simp)) (hs4 m (by simp)), by omega⟩, ?_⟩⟩
   have a1 := hIt.count
   have a2 := hI3.count
   have a3 := hIt.more hkl hnew
   have a4 : seenN w4 it = seenN w3 it := by unfold seenN; rw [hs4 it (by simp)]
   simp at a2
   simp only []
   omega
  ·exact ⟨false, rfl, fun _ => ⟨[it], hin (by omega), .inr ⟨_, ⟨done ++ [(k, v)], e1, hI3.sub.2.1, hI3.sub.1⟩, hx4⟩⟩, fun h => by simp at h⟩
theorem isFn117 (cb : Nat) : IsFn Tryz.prog (.func (.func 120) #[] #[.pointer (some ⟨cb, 0, none⟩)]) := ⟨120, Tryz.f120, _, rfl, Tryz.func120, by kernel_rfl, by kernel_rfl⟩
theorem iterates_keys {w : World} {cb m : Nat} {l : List (Int × Nat)} (hcb : w.heap[cb]? = some (.cells #[.map (some m)] 156 (0, 0))) (hm : MapIs w m (fun n : Int => .int .i64 n) encPg l) :
  Iterates Tryz.prog (.func (.func 120) #[] #[.pointer (some ⟨cb, 0, none⟩)]) (fun x : Int => #[.int .i64 x]) (allS Prod.fst l) (allSp Prod.fst l) [cb, m] w := by
 intro W yv I Ix hW hI hIx h0 hround
 refine ⟨120, #[.pointer (some ⟨cb, 0, none⟩)], Tryz.f120, rfl, Tryz.func120, by kernel_rfl, by kernel_rfl, ?_⟩
 have hcW := hW.obj (by simp) hcb
 have hmW := hm.chg hW (by simp)
 have hlm := hmW.lt
 refine (go_maps_Keys_0_1 yv ⟨cb, 0, none⟩ W (fun w' => ∃ Own, InO W Own w' ∧ ((∃ xs, allS Prod.fst l xs ∧ I Own xs w') ∨ ∃ pre, allSp Prod.fst l pre ∧ Ix Own pre w')) ?_).mono (fun e w' h => ⟨⟨_, h.1⟩, h.2⟩)
 unfold W_maps_Keys_0_1
 obtain ⟨it, w1, hrg, c1, hit, hI1⟩ := iter_range (P := Tryz.prog) (T := 156) hmW u173
 refine ⟨_, by rw [cell_of hcW]; rfl, _, w1, hrg, ?_⟩
 have hne : it ≠ m := by omega
 have s1 := c1.size
 have hitlt := hI1.lt
 refine ⟨fun w2 => ∃ done, I [it] (done.map Prod.fst) w2 ∧ IterAt w2 it m (fun n : Int => .int .i64 n) encPg l done ∧ w1.heap.size ≤ w2.heap.size, fun w2 => l.length - seenN w2 it, ⟨[], ?_, hI1, Nat.le_refl _⟩, ?_⟩
 ·exact hI [] [] [it] W w1 h0 (by intro i hi; cases hi) c1 (by intro i hi; simp at hi; omega) (by intro i hi; simp at hi; omega)
 rintro w2 ⟨done, hi, hIt, s2⟩
 have hin : ∀ {A : World}, w1.heap.size ≤ A.heap.size → InO W [it] A := fun hA i hi => by simp at hi; omega
 rcases iter_next (P := Tryz.prog) hIt hne keyInt.inj 0 with ⟨hnx, hall⟩ | ⟨k, v, w3, hkl, hnew, hrun, c3, hI3, hent⟩
 ·exact ⟨_, false, w2, hnx, rfl, fun h => by simp at h, fun _ => ⟨[it], hin s2, .inl ⟨_, ⟨done, rfl, hIt.sub.2.1, hIt.sub.1, hall⟩, hi⟩⟩⟩
 ·have s3 := c3.size
  refine ⟨_, true, w3, hrun, rfl, fun _ => ⟨k, some ⟨v, 0, none⟩, hent, ?_⟩, fun h => by simp at h⟩
  have hi3 := hI (done.map Prod.fst) [it] [it] w2 w3 hi (hin s2) c3 (hin (by omega)) (fun i h => .inl h)
  have e1 : done.map Prod.fst ++ [k] = (done ++ [(k, v)]).map Prod.fst := by simp
  refine (hround [it] (done.map Prod.fst) k w3 (hin (by omega)) ⟨done ++ [(k, v)], e1, hI3.sub.2.1, hI3.sub.1⟩ hi3).mono ?_
  rintro e w4 ⟨s4, ⟨rfl, hi4, hs4⟩ | ⟨rfl, hx4⟩⟩
  ·refine ⟨true, rfl, fun h => by simp at h, fun _ => ⟨⟨done ++ [(k, v)], by rw [← e1]; exact hi4, hI3.eq (hs4 it (by simp)) (hs4 m (by simp)), by omega⟩, ?_⟩⟩
   have a1 := hIt.count
   have a2 := hI3.count
   have a3 := hIt.more hkl hnew
   have a4 : seenN w4 it = seenN w3 it := by unfold seenN; rw [hs4 it (by simp)]
   simp at a2
   simp only []
   omega
  ·exact ⟨false, rfl, fun _ => ⟨[it], hin (by omega), .inr ⟨_, ⟨done ++ [(k, v)], e1, hI3.sub.2.1, hI3.sub.1⟩, hx4⟩⟩, fun h => by simp at h⟩
end Go.Proofs.YtfcfkhbkkfpehaaGreat
end
section
namespace Go.Proofs.YtfcfkhbkkfpehaaGreat
open Go Go.X
/- slices.Collect[int] -/
def W_slices_Collect_61 (seq1 : Value) (w : World) (R : (Option Addr) → Nat → Nat → World → Prop) : Prop :=
 Calls Tryz.prog 136 #[.slice none 0 0, seq1] w fun e w1 => ∃ (r2 : Option Addr) (r2n : Nat) (r2c : Nat), e = .returned (.slice r2 r2n r2c) ∧ (R r2 r2n r2c w1)
set_option maxRecDepth 100000 in
theorem go_slices_Collect_61 (seq1 : Value) (w : World) (R : (Option Addr) → Nat → Nat → World → Prop) (h : W_slices_Collect_61 seq1 w R) : Calls Tryz.prog 118 #[seq1] w (fun e w' => ∃ (r1 : Option Addr) (r1n : Nat) (r1c : Nat), e = .returned (.slice r1 r1n r1c) ∧ R r1 r1n r1c w') := by
 unfold W_slices_Collect_61 at h
 refine enter (N := 5) Tryz.func118 rfl rfl ?_
 refine CW.seq ?_
 refine CW.region fun L hL => ?_
 refine LW.rd hL rfl (Wants.free rfl) rfl (Rd.assign (v := .slice none 0 0) rfl) ?_
 refine LW.nil hL rfl ?_
 refine NW.then ?_
 refine CW.seq ?_
 refine CW.region fun L hL => ?_
 refine LW.rd hL rfl (Wants.free rfl) rfl (Rd.move (v := seq1) rfl) ?_
 refine LW.call hL rfl (Wants.free rfl) rfl (Cl.fn (f := 136) rfl Tryz.func136 (by kernel_rfl) rfl) h (fun e w1 h_ => ?_)
 clear h
 obtain ⟨r2, r2n, r2c, rfl, h⟩ := h_
 refine ⟨_, rfl, ?_⟩
 refine LW.rd hL rfl (Wants.free rfl) rfl (Rd.assign (v := .slice r2 r2n r2c) rfl) ?_
 refine LW.nil hL rfl ?_
 refine NW.then ?_
 refine CW.ret ?_
 exact res1 rfl rfl ⟨r2, r2n, r2c, rfl, h⟩
/- slices.AppendSeq[[]int,int] -/
def W_slices_AppendSeq_577 (s1 : Option Addr) (s1n : Nat) (s1c : Nat) (seq1 : Value) (w : World) (R : (Option Addr) → Nat → Nat → World → Prop) : Prop :=
 ∀ (b1 : Nat) (w1 : World), (w.heap.size ≤ b1 ∧ b1 < w1.heap.size) → Chg [] w w1 → (∃ (S1 Sp1 : List (Int) → Prop) (keep1 : List Nat), XR.IsFn Tryz.prog seq1 ∧ XR.Iterates Tryz.prog seq1 (fun x : Int => #[.int .i64 x]) S1 Sp1 keep1 w1 ∧ (∀ i_ ∈ keep1, i_ < w1.heap.size) ∧ ∃ (I1 : (Option Addr) → Nat → Nat → List Nat → List (Int) → World → Prop), (∀ (c1 : Option Addr) (c1n : Nat) (c1c : Nat) (pre_ : List (Int)), XR.Stab w1 (fun O_ w_ => I1 c1 c1n c1c O_ pre_ w_)) ∧ (∀ (O1 : List Nat) (w2 : World), Chg [] w1 w2 → XR.InO w1 O1 w2 → I1 s1 s1n s1c O1 ([]) w2) ∧ (∀ (l1 : Nat) (O1 : List Nat) (pre1 : List (Int)) (x1 : Int) (c1 : Option Addr) (c1n : Nat) (c1c : Nat) (w2 : World), XR.InO w1 O1 w2 → l1 ∈ O1 → Sp1 (pre1 ++ [x1]) → I1 c1 c1n c1c O1 pre1 w2 → (∀ (w3 : World), Chg [l1] w2 w3 → (∀ b2 : Nat, b2 = World.size w3 → ∀ w4 : World, w4 = World.alloc w3 (.cells #[.int .i64 x1] 3) → (∃ (l2 : Option Addr) (l2n : Nat) (l2c : Nat) (w5 : World), (Builtin.append_ #[188, 188] 188 #[.slice c1 c1n c1c, .slice (some (⟨b2, 0, none⟩ : Addr)) 1 1]).run Tryz.prog w4 = .ok (.slice l2 l2n l2c) w5 ∧ (Same w4 w5 [b1] ∧ (∀ (w6 : World), Chg [b1] w5 w6 → ((w3.heap.size ≤ w6.heap.size ∧ I1 l2 l2n l2c O1 (pre1 ++ [x1]) w6 ∧ Same w3 w6 (keep1 ++ O1))))))))) ∧ (∀ (d1 : Nat) (O2 : List Nat) (xs1 : List (Int)) (c1 : Option Addr) (c1n : Nat) (c1c : Nat) (w7 : World), XR.InO w1 O2 w7 → d1 ∈ O2 → S1 xs1 → I1 c1 c1n c1c O2 xs1 w7 → (∀ w8 : World, Chg [d1] w7 w8 → (R c1 c1n c1c w8))))
set_option maxRecDepth 100000 in
theorem go_slices_AppendSeq_577 (s1 : Option Addr) (s1n : Nat) (s1c : Nat) (seq1 : Value) (w : World) (R : (Option Addr) → Nat → Nat → World → Prop) (h : W_slices_AppendSeq_577 s1 s1n s1c seq1 w R) : Calls Tryz.prog 136 #[.slice s1 s1n s1c, seq1] w (fun e w' => ∃ (r1 : Option Addr) (r1n : Nat) (r1c : Nat), e = .returned (.slice r1 r1n r1c) ∧ R r1 r1n r1c w') := by
 unfold W_slices_AppendSeq_577 at h
 refine XR.enterM (N := 13) Tryz.func136 rfl rfl ?_
 refine CW.seq ?_
 refine CW.region fun L hL => ?_
 obtain ⟨b1, hb_b1⟩ : ∃ b1, b1 = World.size w := ⟨_, rfl⟩
 obtain ⟨w1, hw_w1⟩ : ∃ w1, w1 = World.alloc w (.cells #[.slice s1 s1n s1c] 188) := ⟨_, rfl⟩
 refine LW.val hL rfl (Wants.free rfl) rfl (boxE hb_b1 hw_w1 (Vl.box (v := .slice s1 s1n s1c) rfl)) ?_
 have hB := Boxes.alloc (cs := [.slice s1 s1n s1c]) (T := 188) (Boxes.nil w) hb_b1 hw_w1
 have hlo_b1 := sil_lo (Chg.refl [] w) hb_b1
 have hc_w1 := sil_alloc (Chg.refl [] w) hw_w1
 refine LW.rd hL rfl (Wants.free rfl) rfl (Rd.assign (v := .slice none 0 0) rfl) ?_
 refine LW.nil hL rfl ?_
 refine NW.then ?_
 refine CW.seq ?_
 refine CW.seq ?_
 refine CW.region fun L hL => ?_
 refine LW.rd hL rfl (Wants.free rfl) rfl (Rd.move (v := seq1) rfl) ?_
 refine LW.nil hL rfl ?_
 refine NW.then ?_
 refine CW.block ?_
 replace h := h b1 w1 ⟨hlo_b1, lt_of_heap (hB.at (i := 0) rfl)⟩ hc_w1
 obtain ⟨S1, Sp1, keep1, hfn_, hit_, hkp_, I1, hst_I1, h0_, hrd_, hdn_⟩ := h
 refine XR.CW.rangeV (α := Int) (enc := (fun x : Int => #[.int .i64 x])) (S := S1) (Sp := Sp1) (keep := keep1) rfl hfn_ (fun _ => rfl) (by decide) hit_ (fun (O_ : List Nat) (pre_ : List (Int)) (w_ : World) => ∃ (c1 : Option Addr) (c1n : Nat) (c1c : Nat), I1 c1 c1n c1c O_ pre_ w_ ∧ Boxes w_ [(b1, [.slice c1 c1n c1c], 188)]) (fun (c_ : Code) (O_ : List Nat) (pre_ : List (Int)) (w_ : World) => False) ?_ ?_ ?_ hkp_ ?_ ?_ ?_
 ·intro pre_ O_ O2_ A_ B_ hi_ hO_ hc_ hO2_ hg_
  have hB0_ := hB
  obtain ⟨c1, c1n, c1c, hi_, hB⟩ := hi_
  exact ⟨c1, c1n, c1c, hst_I1 c1 c1n c1c pre_ O_ O2_ A_ B_ hi_ hO_ hc_ hO2_ hg_, hB.stab hB0_ rfl hO_ hc_⟩
 ·intro c_ pre_ O_ O2_ A_ B_ hi_ hO_ hc_ hO2_ hg_
  exact hi_.elim
 ·intro O_ A_ hc_ hO_
  exact ⟨s1, s1n, s1c, h0_ O_ A_ hc_ hO_, Boxes.chg hB hc_ (by simp)⟩
 ·intro l1 O1 pre1 x_ w2 hO_ hl_ hSp_ hi_
  obtain ⟨x1, rfl⟩ : ∃ y, y = x_ := ⟨_, rfl⟩
  obtain ⟨c1, c1n, c1c, hi_, hB⟩ := hi_
  have h := hrd_ l1 O1 pre1 x1 c1 c1n c1c w2 hO_ hl_ hSp_ hi_
  refine XR.CW.region fun L hL => ?_
  refine XR.LW.rd hL rfl (Wants.free rfl) rfl (Rd.assign (v := .int .i64 x1) rfl) ?_
  refine XR.LW.nil hL rfl ?_
  refine XR.NW.begin (Chg.refl [] w2) (fun w3 hcb_w3 hlp_ hib_ => ?_)
  have hc_w3 : Chg [l1] w2 w3 := sil_more (Chg.refl [] w2) hcb_w3
  replace hB := hB.notloop hlp_ hcb_w3
  replace h := h  w3  hc_w3
  refine XR.CW.block ?_
  refine XR.CW.region fun L hL => ?_
  refine XR.LW.rd hL rfl (Wants.free rfl) rfl (Rd.ld (v := .slice c1 c1n c1c) rfl (by kernel_rfl) (eqs (box_cell (hB.at (i := 0) rfl) rfl))) ?_
  refine XR.LW.rd hL rfl (Wants.free rfl) rfl (Rd.move (v := .int .i64 x1) rfl) ?_
  obtain ⟨b2, hb_b2⟩ : ∃ b2, b2 = World.size w3 := ⟨_, rfl⟩
  obtain ⟨w4, hw_w4⟩ : ∃ w4, w4 = World.alloc w3 (.cells #[.int .i64 x1] 3) := ⟨_, rfl⟩
  replace h := h b2 hb_b2 w4 hw_w4
  refine XR.LW.val hL rfl (Wants.free rfl) rfl (sliceE (n := 1) hb_b2 hw_w4 (fun w => Vl.buildSlice (vs := [(0, .int .i64 x1)]) rfl (by kernel_rfl))) ?_
  replace hB := hB.grow hw_w4
  obtain ⟨l2, l2n, l2c, w5, ha1, h⟩ := h
  refine XR.LW.val hL rfl (Wants.free rfl) rfl (Vl.builtin (v := .slice l2 l2n l2c) rfl (valB ha1)) ?_
  obtain ⟨hsm1, h⟩ := h
  replace hB := Boxes.sameS hB hsm1 (by simp)
  obtain ⟨w6, hw_w6⟩ : ∃ x, x = World.setCell w5 (⟨b1, 0, none⟩ : Addr) (.slice l2 l2n l2c) := ⟨_, rfl⟩
  refine XR.LW.eff hL rfl (Wants.free rfl) rfl (stE hw_w6 (Ef.st rfl rfl rfl (by kernel_rfl) (box_cell (v := .slice c1 c1n c1c) (hB.at (i := 0) rfl) rfl) (free_of (hB.at (i := 0) rfl) 0))) ?_
  replace hB : Boxes w6 [(b1, [.slice l2 l2n l2c], 188)] := Boxes.store1  (i := 0) (o := 0) hB rfl rfl rfl rfl hw_w6
  have hc_w6 : Chg [b1] w5 w6 := sil_more (Chg.refl [] w5) (sil_c1 hw_w6)
  refine XR.LW.nil hL rfl ?_
  refine NW.block ?_
  replace h := h  w6  hc_w6
  exact fun a_ ha_ => ⟨h.1, ⟨l2, l2n, l2c, h.2.1, hB⟩, h.2.2⟩
 ·intro d1 O2 xs1 w7 hO_ hd_ hdh_ hS_ hi_
  obtain ⟨c1, c1n, c1c, hi_, hB⟩ := hi_
  have h := hdn_ d1 O2 xs1 c1 c1n c1c w7 hO_ hd_ hS_ hi_
  have hK := XR.Marks.cons (XR.Marks.nil _) hdh_ (by simp)
  refine NW.block ?_
  refine NW.then ?_
  refine CW.seq ?_
  refine CW.region fun L hL => ?_
  refine LW.rd hL rfl (Wants.free rfl) rfl (Rd.ld (v := .slice c1 c1n c1c) rfl (by kernel_rfl) (eqs (box_cell (hB.at (i := 0) rfl) rfl))) ?_
  refine LW.rd hL rfl (Wants.free rfl) rfl (Rd.assign (v := .slice c1 c1n c1c) rfl) ?_
  refine LW.nil hL rfl ?_
  refine NW.then ?_
  refine CW.ret ?_
  exact XR.resM (ms := [d1]) (vs := [.slice c1 c1n c1c]) hK rfl (fun w_ hc_ => ⟨(ResOK.t rfl ResOK.nil), c1, c1n, c1c, rfl, h w_ hc_⟩)
 ·intro d2 c_ O3 xs2 w9 hO_ hd_ hdh_ hS_ hi_
  exact hi_.elim
/- slices.Sorted[int] -/
def W_slices_Sorted_61 (seq1 : Value) (w : World) (R : (Option Addr) → Nat → Nat → World → Prop) : Prop :=
 Calls Tryz.prog 118 #[seq1] w fun e w1 => ∃ (r2 : Option Addr) (r2n : Nat) (r2c : Nat), e = .returned (.slice r2 r2n r2c) ∧ (Calls Tryz.prog 119 #[.slice r2 r2n r2c] w1 fun e w2 => e = .returned (.tuple #[]) ∧ (R r2 r2n r2c w2))
set_option maxRecDepth 100000 in
theorem go_slices_Sorted_61 (seq1 : Value) (w : World) (R : (Option Addr) → Nat → Nat → World → Prop) (h : W_slices_Sorted_61 seq1 w R) : Calls Tryz.prog 102 #[seq1] w (fun e w' => ∃ (r1 : Option Addr) (r1n : Nat) (r1c : Nat), e = .returned (.slice r1 r1n r1c) ∧ R r1 r1n r1c w') := by
 unfold W_slices_Sorted_61 at h
 refine enter (N := 9) Tryz.func102 rfl rfl ?_
 refine CW.seq ?_
 refine CW.region fun L hL => ?_
 refine LW.rd hL rfl (Wants.free rfl) rfl (Rd.assign (v := .slice none 0 0) rfl) ?_
 refine LW.nil hL rfl ?_
 refine NW.then ?_
 refine CW.seq ?_
 refine CW.region fun L hL => ?_
 refine LW.rd hL rfl (Wants.free rfl) rfl (Rd.move (v := seq1) rfl) ?_
 refine LW.call hL rfl (Wants.free rfl) rfl (Cl.fn (f := 118) rfl Tryz.func118 (by kernel_rfl) rfl) h (fun e w1 h_ => ?_)
 clear h
 obtain ⟨r2, r2n, r2c, rfl, h⟩ := h_
 refine ⟨_, rfl, ?_⟩
 refine LW.rd hL rfl (Wants.free rfl) rfl (Rd.assign (v := .slice r2 r2n r2c) rfl) ?_
 refine LW.nil hL rfl ?_
 refine NW.then ?_
 refine CW.seq ?_
 refine CW.region fun L hL => ?_
 refine LW.rd hL rfl (Wants.free rfl) rfl (Rd.move (v := .slice r2 r2n r2c) rfl) ?_
 refine LW.call hL rfl (Wants.free rfl) rfl (Cl.fn (f := 119) rfl Tryz.func119 (by kernel_rfl) rfl) h (fun e w2 h_ => ?_)
 clear h
 obtain ⟨rfl, h⟩ := h_
 refine ⟨_, rfl, ?_⟩
 refine LW.nil hL rfl ?_
 refine NW.then ?_
 refine CW.seq ?_
 refine CW.region fun L hL => ?_
 refine LW.rd hL rfl (Wants.free rfl) rfl (Rd.move (v := .slice r2 r2n r2c) rfl) ?_
 refine LW.rd hL rfl (Wants.free rfl) rfl (Rd.assign (v := .slice r2 r2n r2c) rfl) ?_
 refine LW.nil hL rfl ?_
 refine NW.then ?_
 refine CW.ret ?_
 exact res1 rfl rfl ⟨r2, r2n, r2c, rfl, h⟩
/- (*pomander/shadow.Shadow).All -/
def W_shadow_Shadow_All (s1 : Option Addr) (w : World) (R : Value → World → Prop) : Prop :=
 ∀ b1 : Nat, b1 = World.size w → ∀ w1 : World, w1 = World.alloc w (.cells #[.pointer s1] 98) → (∃ (t1 : Option Addr), w1.cell? (⟨b1, 0, none⟩ : Addr) = some (.pointer t1) ∧ (Calls Tryz.prog 45 #[.pointer t1] w1 fun e w2 => ∃ (r2 : Option Addr), e = .returned (.pointer r2) ∧ ((∃ o : Value, w2.cell? (⟨b1, 0, none⟩ : Addr) = some o) ∧ w2.frozen? (⟨b1, 0, none⟩ : Addr) = false ∧ ∀ w3 : World, w3 = World.setCell w2 (⟨b1, 0, none⟩ : Addr) (.pointer r2) → (R (.func (.func 101) #[] #[.pointer (some (⟨b1, 0, none⟩ : Addr))]) w3))))
set_option maxRecDepth 100000 in
theorem go_shadow_Shadow_All (s1 : Option Addr) (w : World) (R : Value → World → Prop) (h : W_shadow_Shadow_All s1 w R) : Calls Tryz.prog 88 #[.pointer s1] w (fun e w' => ∃ (r1 : Value), e = .returned (r1) ∧ R r1 w') := by
 unfold W_shadow_Shadow_All at h
 refine enter (N := 6) Tryz.func88 rfl rfl ?_
 refine CW.seq ?_
 refine CW.region fun L hL => ?_
 obtain ⟨b1, hb_b1⟩ : ∃ b1, b1 = World.size w := ⟨_, rfl⟩
 obtain ⟨w1, hw_w1⟩ : ∃ w1, w1 = World.alloc w (.cells #[.pointer s1] 98) := ⟨_, rfl⟩
 replace h := h b1 hb_b1 w1 hw_w1
 refine LW.val hL rfl (Wants.free rfl) rfl (boxE hb_b1 hw_w1 (Vl.box (v := .pointer s1) rfl)) ?_
 refine LW.rd hL rfl (Wants.free rfl) rfl (Rd.assign (v := .nilFunc) rfl) ?_
 refine LW.nil hL rfl ?_
 refine NW.then ?_
 refine CW.seq ?_
 refine CW.region fun L hL => ?_
 obtain ⟨t1, hc1, h⟩ := h
 refine LW.rd hL rfl (Wants.free rfl) rfl (Rd.ld (v := .pointer t1) rfl (by kernel_rfl) (eqs hc1)) ?_
 refine LW.call hL rfl (Wants.free rfl) rfl (Cl.fn (f := 45) rfl Tryz.func45 (by kernel_rfl) rfl) h (fun e w2 h_ => ?_)
 clear h
 obtain ⟨r2, rfl, h⟩ := h_
 refine ⟨_, rfl, ?_⟩
 obtain ⟨⟨o_w3, ho1⟩, hf1, h⟩ := h
 obtain ⟨w3, hw_w3⟩ : ∃ w3, w3 = World.setCell w2 (⟨b1, 0, none⟩ : Addr) (.pointer r2) := ⟨_, rfl⟩
 replace h := h w3 hw_w3
 refine LW.eff hL rfl (Wants.free rfl) rfl (stE hw_w3 (Ef.st rfl rfl rfl (by kernel_rfl) ho1 hf1)) ?_
 refine LW.nil hL rfl ?_
 refine NW.then ?_
 refine CW.seq ?_
 refine CW.region fun L hL => ?_
 refine LW.rd hL rfl (Wants.free rfl) rfl (Rd.makeFunc rfl) ?_
 refine LW.rd hL rfl (Wants.free rfl) rfl (Rd.assign (v := .func (.func 101) #[] #[.pointer (some (⟨b1, 0, none⟩ : Addr))]) rfl) ?_
 refine LW.nil hL rfl ?_
 refine NW.then ?_
 refine CW.ret ?_
 exact res1 rfl rfl ⟨.func (.func 101) #[] #[.pointer (some (⟨b1, 0, none⟩ : Addr))], rfl, h⟩
/- (*pomander/shadow.Shadow).All$1 -/
def W_shadow_Shadow_All_1 (yield1 : Value) (cap1 : Addr) (w : World) (R : World → Prop) : Prop :=
 ∃ (t1 : Option Addr), w.cell? cap1 = some (.pointer t1) ∧ (Calls Tryz.prog 81 #[.pointer t1] w fun e w1 => ∃ (r1 : Bool), e = .returned (.bool r1) ∧ ((r1 = true → R w1) ∧ (r1 = false → ∃ (t2 : Option Addr), w1.cell? cap1 = some (.pointer t2) ∧ (∃ a1 : Addr, t2 = some a1 ∧ (∃ (t3 : Option Nat), w1.cell? (a1.add 1) = some (.map t3) ∧ (Calls Tryz.prog 103 #[.map t3] w1 fun e w2 => ∃ (r2 : Value), e = .returned (r2) ∧ (Calls Tryz.prog 102 #[r2] w2 fun e w3 => ∃ (r3 : Option Addr) (r3n : Nat) (r3c : Nat), e = .returned (.slice r3 r3n r3c) ∧ (∃ (I1 : Int → World → Prop) (m1 : Int → World → Nat), I1 0 w3 ∧ ∀ (x1 : Int) (w4 : World), I1 x1 w4 → ((decide (x1 < (r3n : Int))) = true → ∃ a2 : Addr, r3 = some a2 ∧ (0 : Int) ≤ x1 ∧ x1 < (r3n : Int) ∧ (∃ (t4 : Int), w4.cell? (a2.add (Int.toNat x1 * 1)) = some (.int .i64 t4) ∧ (∃ (t5 : Option Addr), w4.cell? cap1 = some (.pointer t5) ∧ (∃ a3 : Addr, t5 = some a3 ∧ (∃ (t6 : Option Nat), w4.cell? (a3.add 1) = some (.map t6) ∧ (∃ (v1 : Option Addr), (Instr.lookup 156 (.map t6) (.int .i64 t4) false).run Tryz.prog w4 = .ok (.pointer v1) w4 ∧ (∃ a4 : Addr, v1 = some a4 ∧ (∃ (t7 : List Value), t7.length = 64 ∧ CellsAt w4 (a4.add 1) 0 t7 ∧ (∃ (I2 : Int → World → Prop) (m2 : Int → World → Nat), I2 0 w4 ∧ ∀ (x2 : Int) (w5 : World), I2 x2 w5 → ((decide (x2 < 64)) = true → ∃ (x3 : Int), (∀ w : World, (Instr.index 165 (.agg (t7).toArray) (.int .i64 x2)).run Tryz.prog w = .ok (.int .u32 x3) w) ∧ (∃ J1 : Bool → World → Prop, (∀ (b1 : Bool) (w6 : World), J1 b1 w6 → (b1 = true → R w6) ∧ (b1 = false → (I2 (IntKind.wrap .i64 (x2 + 1)) w6 ∧ m2 (IntKind.wrap .i64 (x2 + 1)) w6 < m2 x2 w5))) ∧ (((!(x3 == 0)) = true → XR.CallsY Tryz.prog yield1 #[.int .i64 (IntKind.wrap .i64 ((IntKind.wrap .i64 (t4 * 64)) + x2)), .int .u32 x3] w5 fun e w7 => ∃ (r4 : Bool), e = .returned (.bool r4) ∧ (J1 (!r4) w7)) ∧ ((!(x3 == 0)) = false → J1 false w5)))) ∧ ((decide (x2 < 64)) = false → (I1 (IntKind.wrap .i64 (x1 + 1)) w5 ∧ m1 (IntKind.wrap .i64 (x1 + 1)) w5 < m1 x1 w4))))))))))) ∧ ((decide (x1 < (r3n : Int))) = false → R w4)))))))))
set_option maxRecDepth 100000 in
theorem go_shadow_Shadow_All_1 (yield1 : Value) (cap1 : Addr) (w : World) (R : World → Prop) (h : W_shadow_Shadow_All_1 yield1 cap1 w R) : Calls Tryz.prog 101 #[yield1, .pointer (some cap1)] w (fun e w' => e = .returned (.tuple #[]) ∧ R w') := by
 unfold W_shadow_Shadow_All_1 at h
 refine enter (N := 47) Tryz.func101 rfl rfl ?_
 refine CW.scope0 ?_
 refine CW.seq ?_
 refine CW.seq ?_
 refine CW.region fun L hL => ?_
 obtain ⟨t1, hc1, h⟩ := h
 refine LW.rd hL rfl (Wants.free rfl) rfl (Rd.ld (v := .pointer t1) rfl (by kernel_rfl) (eqs hc1)) ?_
 refine LW.call hL rfl (Wants.free rfl) rfl (Cl.fn (f := 81) rfl Tryz.func81 (by kernel_rfl) rfl) h (fun e w1 h_ => ?_)
 clear h
 obtain ⟨r1, rfl, h⟩ := h_
 refine ⟨_, rfl, ?_⟩
 refine LW.nil hL rfl ?_
 refine NW.then ?_
 refine CW.cond rfl (fun hb1 => ?_) (fun hb1 => ?_)
 ·replace h := h.1 hb1
  refine CW.ret ?_
  refine RW.then ?_
  refine RW.noGoto ?_
  exact res0 rfl ⟨rfl, h⟩
 ·replace h := h.2 hb1
  refine CW.skip ?_
  refine NW.then ?_
  refine CW.seq ?_
  refine CW.label ?_
  refine NW.then ?_
  refine CW.seq ?_
  refine CW.region fun L hL => ?_
  obtain ⟨t2, hc2, h⟩ := h
  refine LW.rd hL rfl (Wants.free rfl) rfl (Rd.ld (v := .pointer t2) rfl (by kernel_rfl) (eqs hc2)) ?_
  obtain ⟨a1, ha1, h⟩ := h
  refine LW.rd hL rfl (Wants.free rfl) rfl (Rd.nil (q := a1) (by rw [← ha1]; rfl)) ?_
  refine LW.rd hL rfl (Wants.free rfl) rfl (Rd.fa (v := .pointer (some (a1.add 1))) rfl (fun _ => by kernel_rfl)) ?_
  obtain ⟨t3, hc3, h⟩ := h
  refine LW.rd hL rfl (Wants.free rfl) rfl (Rd.ld (v := .map t3) rfl (by kernel_rfl) (eqs hc3)) ?_
  refine LW.call hL rfl (Wants.free rfl) rfl (Cl.fn (f := 103) rfl Tryz.func103 (by kernel_rfl) rfl) h (fun e w2 h_ => ?_)
  clear h
  obtain ⟨r2, rfl, h⟩ := h_
  refine ⟨_, rfl, ?_⟩
  refine LW.call hL rfl (Wants.free rfl) rfl (Cl.fn (f := 102) rfl Tryz.func102 (by kernel_rfl) rfl) h (fun e w3 h_ => ?_)
  clear h
  obtain ⟨r3, r3n, r3c, rfl, h⟩ := h_
  refine ⟨_, rfl, ?_⟩
  refine LW.rd hL rfl (Wants.free rfl) rfl (Rd.builtin (v := .int .i64 (r3n : Int)) rfl (fun _ _ => by kernel_rfl)) ?_
  refine LW.rd hL rfl (Wants.free rfl) rfl (Rd.move (v := .int .i64 0) rfl) ?_
  refine LW.nil hL rfl ?_
  refine NW.then ?_
  refine CW.block ?_
  obtain ⟨I1, m1, hI1, h⟩ := h
  refine CW.loop (S := Int) (fun x1 => [(0, yield1), (1, .pointer (some cap1)), (14, .slice r3 r3n r3c), (15, .int .i64 (r3n : Int)), (16, .int .i64 x1)]) (fun x1 w4 => I1 x1 w4) (fun x1 w4 => m1 x1 w4) 0 (by exact ⟨rfl, rfl, rfl, rfl, rfl, trivial⟩) hI1 (fun x1 w4 hI1 => ?_)
  replace h := h x1 w4 hI1
  refine CW.seq ?_
  refine CW.region fun L hL => ?_
  refine LW.rd hL rfl (Wants.free rfl) rfl (Rd.bin (v := .bool (decide (x1 < (r3n : Int)))) rfl rfl (fun w => by kernel_rfl)) ?_
  refine LW.nil hL rfl ?_
  refine NW.then ?_
  refine CW.seq ?_
  refine CW.cond rfl (fun hb2 => ?_) (fun hb2 => ?_)
  ·replace h := h.1 hb2
   refine CW.skip ?_
   refine NW.then ?_
   refine CW.seq ?_
   refine CW.block ?_
   refine CW.seq ?_
   refine CW.region fun L hL => ?_
   obtain ⟨a2, he1, hi1, hi2, h⟩ := h
   refine LW.rd hL rfl (Wants.free rfl) rfl (Rd.iaS (q := a2) (sz := 1) (by rw [← he1]; rfl) rfl Tryz.underlying188 (by kernel_rfl) hi1 hi2) ?_
   obtain ⟨t4, hc4, h⟩ := h
   refine LW.rd hL rfl (Wants.free rfl) rfl (Rd.ld (v := .int .i64 t4) rfl (by kernel_rfl) (eqs hc4)) ?_
   refine LW.rd hL rfl (Wants.free rfl) rfl (Rd.assign (v := .int .i64 t4) rfl) ?_
   refine LW.nil hL rfl ?_
   refine NW.then ?_
   refine CW.seq ?_
   refine CW.region fun L hL => ?_
   obtain ⟨t5, hc5, h⟩ := h
   refine LW.rd hL rfl (Wants.free rfl) rfl (Rd.ld (v := .pointer t5) rfl (by kernel_rfl) (eqs hc5)) ?_
   obtain ⟨a3, ha2, h⟩ := h
   refine LW.rd hL rfl (Wants.free rfl) rfl (Rd.nil (q := a3) (by rw [← ha2]; rfl)) ?_
   refine LW.rd hL rfl (Wants.free rfl) rfl (Rd.fa (v := .pointer (some (a3.add 1))) rfl (fun _ => by kernel_rfl)) ?_
   obtain ⟨t6, hc6, h⟩ := h
   refine LW.rd hL rfl (Wants.free rfl) rfl (Rd.ld (v := .map t6) rfl (by kernel_rfl) (eqs hc6)) ?_
   refine LW.rd hL rfl (Wants.free rfl) rfl (Rd.move (v := .int .i64 t4) rfl) ?_
   obtain ⟨v1, hl1, h⟩ := h
   refine LW.rd hL rfl (Wants.free rfl) rfl (Rd.lookup (v := .pointer v1) rfl rfl (fun _ e => e ▸ hl1)) ?_
   obtain ⟨a4, ha3, h⟩ := h
   refine LW.rd hL rfl (Wants.free rfl) rfl (Rd.nil (q := a4) (by rw [← ha3]; rfl)) ?_
   refine LW.rd hL rfl (Wants.free rfl) rfl (Rd.fa (v := .pointer (some (a4.add 1))) rfl (fun _ => by kernel_rfl)) ?_
   obtain ⟨t7, hl2, hc7, h⟩ := h
   refine LW.rd hL rfl (Wants.free rfl) rfl (Rd.ldN (cs := t7) rfl (by kernel_rfl) (by rw [hl2]; kernel_rfl) (cellsS hc7)) ?_
   refine LW.rd hL rfl (Wants.free rfl) rfl (Rd.move (v := .int .i64 0) rfl) ?_
   refine LW.nil hL rfl ?_
   refine NW.then ?_
   refine CW.block ?_
   obtain ⟨I2, m2, hI2, h⟩ := h
   refine CW.loop (S := Int) (fun x2 => [(0, yield1), (1, .pointer (some cap1)), (4, .int .i64 t4), (14, .slice r3 r3n r3c), (15, .int .i64 (r3n : Int)), (16, .int .i64 x1), (28, .agg (t7).toArray), (29, .int .i64 x2)]) (fun x2 w5 => I2 x2 w5) (fun x2 w5 => m2 x2 w5) 0 (by exact ⟨rfl, rfl, rfl, rfl, rfl, rfl, rfl, rfl, trivial⟩) hI2 (fun x2 w5 hI2 => ?_)
   replace h := h x2 w5 hI2
   refine CW.seq ?_
   refine CW.region fun L hL => ?_
   refine LW.rd hL rfl (Wants.free rfl) rfl (Rd.bin (v := .bool (decide (x2 < 64))) rfl rfl (fun w => by kernel_rfl)) ?_
   refine LW.nil hL rfl ?_
   refine NW.then ?_
   refine CW.seq ?_
   refine CW.cond rfl (fun hb3 => ?_) (fun hb3 => ?_)
   ·replace h := h.1 hb3
    refine CW.skip ?_
    refine NW.then ?_
    refine CW.seq ?_
    refine CW.block ?_
    refine CW.seq ?_
    refine CW.region fun L hL => ?_
    refine LW.rd hL rfl (Wants.free rfl) rfl (Rd.move (v := .int .i64 x2) rfl) ?_
    obtain ⟨x3, hx1, h⟩ := h
    refine LW.rd hL rfl (Wants.free rfl) rfl (Rd.index (v := .int .u32 x3) rfl rfl hx1) ?_
    refine LW.rd hL rfl (Wants.free rfl) rfl (Rd.assign (v := .int .i64 x2) rfl) ?_
    refine LW.rd hL rfl (Wants.free rfl) rfl (Rd.assign (v := .int .u32 x3) rfl) ?_
    refine LW.nil hL rfl ?_
    refine NW.then ?_
    refine CW.seq ?_
    refine XR.CW.un ?_
    refine XR.CW.region fun L hL => ?_
    refine XR.LW.rd hL rfl (Wants.free rfl) rfl (Rd.move (v := .int .u32 x3) rfl) ?_
    refine XR.LW.rd hL rfl (Wants.free rfl) rfl (Rd.bin (v := .bool (!(x3 == 0))) rfl rfl (fun w => by kernel_rfl)) ?_
    refine XR.LW.rd hL rfl (Wants.free rfl) rfl (Rd.move (v := .bool (!(x3 == 0))) rfl) ?_
    obtain ⟨J1, hJ1, h1_J1, h0_J1⟩ := h
    suffices K1 : ∀ (b1 : Bool) (w6 : World), J1 b1 w6 → L 12 [(0, yield1), (1, .pointer (some cap1)), (4, .int .i64 t4), (14, .slice r3 r3n r3c), (15, .int .i64 (r3n : Int)), (16, .int .i64 x1), (28, .agg (t7).toArray), (29, .int .i64 x2), (44, .bool b1)] w6 by
     rcases Bool.eq_false_or_eq_true (!(x3 == 0)) with hb4 | hb4
     ·have h := h1_J1 hb4
      refine XR.LW.rd hL rfl (Wants.on rfl rfl rfl rfl rfl hb4) rfl (Rd.move (v := yield1) rfl) ?_
      refine XR.LW.rd hL rfl (Wants.on rfl rfl rfl rfl rfl hb4) rfl (Rd.move (v := .int .i64 t4) rfl) ?_
      refine XR.LW.rd hL rfl (Wants.on rfl rfl rfl rfl rfl hb4) rfl (Rd.bin (v := .int .i64 (IntKind.wrap .i64 (t4 * 64))) rfl rfl (fun w => by kernel_rfl)) ?_
      refine XR.LW.rd hL rfl (Wants.on rfl rfl rfl rfl rfl hb4) rfl (Rd.move (v := .int .i64 x2) rfl) ?_
      refine XR.LW.rd hL rfl (Wants.on rfl rfl rfl rfl rfl hb4) rfl (Rd.bin (v := .int .i64 (IntKind.wrap .i64 ((IntKind.wrap .i64 (t4 * 64)) + x2))) rfl rfl (fun w => by kernel_rfl)) ?_
      refine XR.LW.rd hL rfl (Wants.on rfl rfl rfl rfl rfl hb4) rfl (Rd.move (v := .int .u32 x3) rfl) ?_
      refine XR.LW.callY hL rfl (Wants.on rfl rfl rfl rfl rfl hb4) rfl rfl rfl h (fun e w7 h_ => ?_)
      clear h
      obtain ⟨r4, rfl, h⟩ := h_
      refine ⟨_, rfl, ?_⟩
      refine XR.LW.rd hL rfl (Wants.on rfl rfl rfl rfl rfl hb4) rfl (Rd.un (v := .bool (!r4)) rfl (fun _ => by kernel_rfl)) ?_
      refine XR.LW.rd hL rfl (Wants.free rfl) rfl (Rd.pickT rfl hb4 rfl) ?_
      exact XR.LW.sub hL (by exact ⟨rfl, rfl, rfl, rfl, rfl, rfl, rfl, rfl, rfl, trivial⟩) (K1 (!r4) w7 h)
     ·have h := h0_J1 hb4
      refine XR.LW.skip hL rfl (Skips.on rfl rfl rfl rfl rfl hb4) rfl ?_
      refine XR.LW.skip hL rfl (Skips.on rfl rfl rfl rfl rfl hb4) rfl ?_
      refine XR.LW.skip hL rfl (Skips.on rfl rfl rfl rfl rfl hb4) rfl ?_
      refine XR.LW.skip hL rfl (Skips.on rfl rfl rfl rfl rfl hb4) rfl ?_
      refine XR.LW.skip hL rfl (Skips.on rfl rfl rfl rfl rfl hb4) rfl ?_
      refine XR.LW.skip hL rfl (Skips.on rfl rfl rfl rfl rfl hb4) rfl ?_
      refine XR.LW.skip hL rfl (Skips.on rfl rfl rfl rfl rfl hb4) rfl ?_
      refine XR.LW.skip hL rfl (Skips.on rfl rfl rfl rfl rfl hb4) rfl ?_
      refine XR.LW.rd hL rfl (Wants.free rfl) rfl (Rd.pickF rfl hb4 rfl) ?_
      exact XR.LW.sub hL (by exact ⟨rfl, rfl, rfl, rfl, rfl, rfl, rfl, rfl, rfl, trivial⟩) (K1 false w5 h)
    intro b1 w6 h_
    have h := hJ1 b1 w6 h_; clear h_
    refine XR.LW.nil hL rfl ?_
    refine NW.then ?_
    refine CW.cond rfl (fun hb5 => ?_) (fun hb5 => ?_)
    ·replace h := h.1 hb5
     refine CW.exit ?_
     refine XW.miss rfl ?_
     refine XW.then ?_
     refine XW.then ?_
     refine XW.miss rfl ?_
     refine XW.miss rfl ?_
     refine XW.then ?_
     refine XW.then ?_
     refine XW.hit ?_
     refine NW.noGoto ?_
     exact res0n rfl (by exact ⟨rfl, h⟩)
    ·replace h := h.2 hb5
     refine CW.skip ?_
     refine NW.block ?_
     refine NW.then ?_
     refine CW.region fun L hL => ?_
     refine LW.rd hL rfl (Wants.free rfl) rfl (Rd.bin (v := .int .i64 (IntKind.wrap .i64 (x2 + 1))) rfl rfl (fun w => by kernel_rfl)) ?_
     refine LW.rd hL rfl (Wants.free rfl) rfl (Rd.move (v := .int .i64 (IntKind.wrap .i64 (x2 + 1))) rfl) ?_
     refine LW.nil hL rfl ?_
     exact NW.loop (S := Int) (Ek := fun x2 => [(0, yield1), (1, .pointer (some cap1)), (4, .int .i64 t4), (14, .slice r3 r3n r3c), (15, .int .i64 (r3n : Int)), (16, .int .i64 x1), (28, .agg (t7).toArray), (29, .int .i64 x2)]) (IntKind.wrap .i64 (x2 + 1)) (by exact ⟨rfl, rfl, rfl, rfl, rfl, rfl, rfl, rfl, trivial⟩) h
   ·replace h := h.2 hb3
    refine CW.exit ?_
    refine XW.then ?_
    refine XW.then ?_
    refine XW.hit ?_
    refine NW.block ?_
    refine NW.then ?_
    refine CW.region fun L hL => ?_
    refine LW.rd hL rfl (Wants.free rfl) rfl (Rd.bin (v := .int .i64 (IntKind.wrap .i64 (x1 + 1))) rfl rfl (fun w => by kernel_rfl)) ?_
    refine LW.rd hL rfl (Wants.free rfl) rfl (Rd.move (v := .int .i64 (IntKind.wrap .i64 (x1 + 1))) rfl) ?_
    refine LW.nil hL rfl ?_
    exact NW.loop (S := Int) (Ek := fun x1 => [(0, yield1), (1, .pointer (some cap1)), (14, .slice r3 r3n r3c), (15, .int .i64 (r3n : Int)), (16, .int .i64 x1)]) (IntKind.wrap .i64 (x1 + 1)) (by exact ⟨rfl, rfl, rfl, rfl, rfl, trivial⟩) h
  ·replace h := h.2 hb2
   refine CW.exit ?_
   refine XW.then ?_
   refine XW.then ?_
   refine XW.hit ?_
   refine NW.noGoto ?_
   exact res0n rfl (by exact ⟨rfl, h⟩)
/- maps.Keys[map[int]*pomander/shadow.page,int,*pomander/shadow.page] -/
def W_maps_Keys_0 (m1 : Option Nat) (w : World) (R : Value → World → Prop) : Prop :=
 ∀ b1 : Nat, b1 = World.size w → ∀ w1 : World, w1 = World.alloc w (.cells #[.map m1] 156) → (R (.func (.func 120) #[] #[.pointer (some (⟨b1, 0, none⟩ : Addr))]) w1)
set_option maxRecDepth 100000 in
theorem go_maps_Keys_0 (m1 : Option Nat) (w : World) (R : Value → World → Prop) (h : W_maps_Keys_0 m1 w R) : Calls Tryz.prog 103 #[.map m1] w (fun e w' => ∃ (r1 : Value), e = .returned (r1) ∧ R r1 w') := by
 unfold W_maps_Keys_0 at h
 refine enter (N := 4) Tryz.func103 rfl rfl ?_
 refine CW.seq ?_
 refine CW.region fun L hL => ?_
 obtain ⟨b1, hb_b1⟩ : ∃ b1, b1 = World.size w := ⟨_, rfl⟩
 obtain ⟨w1, hw_w1⟩ : ∃ w1, w1 = World.alloc w (.cells #[.map m1] 156) := ⟨_, rfl⟩
 replace h := h b1 hb_b1 w1 hw_w1
 refine LW.val hL rfl (Wants.free rfl) rfl (boxE hb_b1 hw_w1 (Vl.box (v := .map m1) rfl)) ?_
 refine LW.rd hL rfl (Wants.free rfl) rfl (Rd.assign (v := .nilFunc) rfl) ?_
 refine LW.nil hL rfl ?_
 refine NW.then ?_
 refine CW.seq ?_
 refine CW.region fun L hL => ?_
 refine LW.rd hL rfl (Wants.free rfl) rfl (Rd.makeFunc rfl) ?_
 refine LW.rd hL rfl (Wants.free rfl) rfl (Rd.assign (v := .func (.func 120) #[] #[.pointer (some (⟨b1, 0, none⟩ : Addr))]) rfl) ?_
 refine LW.nil hL rfl ?_
 refine NW.then ?_
 refine CW.ret ?_
 exact res1 rfl rfl ⟨.func (.func 120) #[] #[.pointer (some (⟨b1, 0, none⟩ : Addr))], rfl, h⟩
end Go.Proofs.YtfcfkhbkkfpehaaGreat
end
section
/- slices.AppendSeq, slices.Collect over iterators of ints. -/
namespace Go.Proofs.YtfcfkhbkkfpehaaGreat
open Go Go.RowKit Go.X Go.XR
theorem _root_.Go.XR.Iterates.later {α : Type} {P : Program} {fv : Value} {enc : α → Array Value} {S Sp : List α → Prop} {keep : List Nat} {w w1 : World} (h : Iterates P fv enc S Sp keep w) (hc : Chg [] w w1) : Iterates P fv enc S Sp keep w1 :=
 fun W yv I Ix hW => h W yv I Ix (hc.trans0 hW)
theorem append_seq {w : World} {fv : Value} {S Sp : List Int → Prop} {keep : List Nat} (hf : IsFn Tryz.prog fv) (hi : Iterates Tryz.prog fv (fun x : Int => #[.int .i64 x]) S Sp keep w) (hk : ∀ i ∈ keep, i < w.heap.size)
  (hle : ∀ pre, Sp pre → pre.length ≤ 1000000) :
  Calls Tryz.prog 136 #[.slice none 0 0, fv] w fun e w' => ∃ (p : Option Addr) (n c : Nat), e = .returned (.slice p n c) ∧ ∃ xs, S xs ∧ n = xs.length ∧ RowAt w' 3 1 p n c (xs.map (Value.int .i64)) ∧ Chg [] w w' ∧ ∀ b ∈ rowB p, w.heap.size ≤ b := by
 refine go_slices_AppendSeq_577 _ _ _ _ _ _ ?_
 unfold W_slices_AppendSeq_577
 rintro b1 w1 ⟨hb1, hb2⟩ c1
 have s1 := c1.size
 refine ⟨S, Sp, keep, hf, hi.later c1, fun i h => Nat.lt_of_lt_of_le (hk i h) s1,
  fun p n c O pre w' => n = pre.length ∧ RowAt w' 3 1 p n c (pre.map (Value.int .i64)) ∧ (∀ b ∈ rowB p, b ∉ O ∧ w1.heap.size ≤ b) ∧ Chg [] w w' ∧ w1.heap.size ≤ w'.heap.size, ?_, ?_, ?_, ?_⟩
 ·rintro p n c pre O O' A B ⟨k1, k2, k3, k4, k5⟩ hO hc hO' hg
  have hsz := hc.size
  refine ⟨k1, k2.chg hc (fun b hb => (k3 b hb).1), fun b hb => ⟨fun hm => ?_, (k3 b hb).2⟩, k4.trans hc (fun i hi hlt => by have := (hO i hi).1; omega), by omega⟩
  rcases hg _ hm with h | h
  ·exact (k3 b hb).1 h
  ·have := k2.lt b hb; omega
 ·intro O w2 c2 hO
  exact ⟨rfl, RowAt.nil, by simp [rowB], c1.trans0 c2, c2.size⟩
 ·rintro l1 O pre x p n c w2 hO hl1 hsp ⟨k1, k2, k3, k4, k5⟩ w3 c3
  have s3 := c3.size
  have hl := hO l1 hl1
  have hlp : ∀ b ∈ rowB p, b ∉ [l1] := fun b hb hm => by simp at hm; subst hm; exact (k3 _ hb).1 hl1
  refine v_alloc fun b2 w4 e2 hb2' c4 => ?_
  have s4 := c4.size
  have hlen := hle _ hsp
  simp at hlen
  have hr4 : RowAt w4 3 1 p n c (pre.map (Value.int .i64)) := (k2.chg c3 hlp).chg c4 (by simp)
  obtain ⟨p', c', w5, hrun, hr5, c5, hnew⟩ := hr4.append (P := Tryz.prog) (t := 188) (ty := 188) (i := Tryz.t3) (z := .int .i64 0) (bytes := 8) (by kernel_rfl) (by kernel_rfl) (by kernel_rfl) (by kernel_rfl) (by kernel_rfl) rfl (by omega) (a := ⟨b2, 0, none⟩) (m := 1) (mc := 1) (news := [Value.int .i64 x]) (by simp)
   (fun j u hj => by
    cases j with
    | zero => simp at hj; subst hj; rw [add_at, cell_of hb2']; rfl
    | succ j => simp at hj) (by simp; rfl) (by subst k1; unfold maxLen; omega) (by omega)
  have s5 := c5.size
  refine ⟨p', n + 1, c', w5, hrun, Same.of c5 (fun b hb => ⟨by simp at hb; omega, fun hm => by simp at hb; have := (k3 _ hm).2; omega⟩), fun w6 c6 => ?_⟩
  have s6 := c6.size
  have hnew' : ∀ b ∈ rowB p', b ∉ O ∧ w1.heap.size ≤ b := fun b hb => by
   rcases hnew b hb with h | h
   ·exact k3 b h
   ·exact ⟨fun hm => by have := (hO _ hm).2; omega, by omega⟩
  have c46 : Chg (b1 :: rowB p) w4 w6 := (c5.mono (fun i hi _ => List.mem_cons_of_mem _ hi)).trans c6 (fun i hi _ => by simp at hi; simp [hi])
  have c36 : Chg (b1 :: rowB p) w3 w6 := (c4.nil (f := b1 :: rowB p)).trans c46 (fun i hi _ => hi)
  refine ⟨by omega, ⟨by simp [k1], ?_, hnew', ?_, by omega⟩, ?_⟩
  ·rw [List.map_append]
   exact hr5.chg c6 (fun b hb hm => by simp at hm; have := (hnew' b hb).2; omega)
  ·have c03 : Chg [] w w3 := k4.trans c3 (fun i hi hlt => by simp at hi; omega)
   exact c03.trans c36 (fun i hi hlt => by
    rcases List.mem_cons.1 hi with h | h
    ·omega
    ·have := (k3 i h).2; omega)
  ·refine Same.of c36 (fun b hb => ?_)
   rcases List.mem_append.1 hb with h | h
   ·have := hk b h
    refine ⟨by omega, fun hm => ?_⟩
    rcases List.mem_cons.1 hm with h | h
    ·omega
    ·have := (k3 b h).2; omega
   ·have := hO b h
    refine ⟨by omega, fun hm => ?_⟩
    rcases List.mem_cons.1 hm with h' | h'
    ·omega
    ·exact (k3 b h').1 h
 ·rintro d O xs p n c w7 hO hd hS ⟨k1, k2, k3, k4, k5⟩ w8 c8
  exact ⟨xs, hS, k1, k2.chg c8 (fun b hb hm => by simp at hm; subst hm; exact (k3 _ hb).1 hd), k4.trans c8 (fun i hi hlt => by simp at hi; subst hi; have := (hO _ hd).1; omega), fun b hb => by have := (k3 b hb).2; omega⟩
theorem collect {w : World} {fv : Value} {S Sp : List Int → Prop} {keep : List Nat} (hf : IsFn Tryz.prog fv) (hi : Iterates Tryz.prog fv (fun x : Int => #[.int .i64 x]) S Sp keep w) (hk : ∀ i ∈ keep, i < w.heap.size)
  (hle : ∀ pre, Sp pre → pre.length ≤ 1000000) :
  Calls Tryz.prog 118 #[fv] w fun e w' => ∃ (p : Option Addr) (n c : Nat), e = .returned (.slice p n c) ∧ ∃ xs, S xs ∧ n = xs.length ∧ RowAt w' 3 1 p n c (xs.map (Value.int .i64)) ∧ Chg [] w w' ∧ ∀ b ∈ rowB p, w.heap.size ≤ b := by
 refine go_slices_Collect_61 _ _ _ ?_
 unfold W_slices_Collect_61
 refine (append_seq hf hi hk hle).mono ?_
 rintro _ w1 ⟨p, n, c, rfl, xs, h⟩
 exact ⟨p, n, c, rfl, xs, h⟩
end Go.Proofs.YtfcfkhbkkfpehaaGreat
end
section
/- slices.Sort over ints (by the shelf's contract), slices.Sorted. -/
namespace Go.Proofs.YtfcfkhbkkfpehaaGreat
open Go Go.RowKit Go.X Go.XR Go.Shelf
/-! The shelf's laying of slices.Sort (written by the kit's lay-plain) -/
def sortA_ren : Go.Shelf.Ren := ⟨fun | 5 => 119 | 8 => 114 | 7 => 137 | 19 => 132 | 20 => 133 | 10 => 144 | 11 => 145 | 12 => 146 | 13 => 147 | 14 => 148 | 15 => 149 | 16 => 150 | 17 => 151 | 18 => 152 | 30 => 154 | 31 => 140 | 32 => 141 | 33 => 155 | 34 => 156 | 35 => 116 | 40 => 157 | n => n, fun | 23 => 188 | 25 => 3 | 3 => 3 | 32 => 198 | 22 => 188 | 0 => 0 | 44 => 22 | 46 => 214 | 4 => 4 | 36 => 208 | 35 => 207 | 41 => 193 | 5 => 5 | 9 => 9 | 53 => 219 | 57 => 223 | 63 => 231 | 64 => 92 | n => n, fun | n => n⟩
theorem sortA : Go.Proofs.SlLaysM.n5 Tryz.prog sortA_ren := {
 mixed := by kernel_rfl
 f5 := ⟨Tryz.f119.name, by decide, Tryz.func119.trans (congrArg some (by kernel_rfl))⟩
 f7 := ⟨Tryz.f137.name, by decide, Tryz.func137.trans (congrArg some (by kernel_rfl))⟩
 f8 := Tryz.func114.trans (congrArg some (by kernel_rfl))
 f10 := ⟨Tryz.f144.name, by decide, Tryz.func144.trans (congrArg some (by kernel_rfl))⟩
 f11 := ⟨Tryz.f145.name, by decide, Tryz.func145.trans (congrArg some (by kernel_rfl))⟩
 f12 := ⟨Tryz.f146.name, by decide, Tryz.func146.trans (congrArg some (by kernel_rfl))⟩
 f13 := ⟨Tryz.f147.name, by decide, Tryz.func147.trans (congrArg some (by kernel_rfl))⟩
 f14 := ⟨Tryz.f148.name, by decide, Tryz.func148.trans (congrArg some (by kernel_rfl))⟩
 f15 := ⟨Tryz.f149.name, by decide, Tryz.func149.trans (congrArg some (by kernel_rfl))⟩
 f16 := ⟨Tryz.f150.name, by decide, Tryz.func150.trans (congrArg some (by kernel_rfl))⟩
 f17 := ⟨Tryz.f151.name, by decide, Tryz.func151.trans (congrArg some (by kernel_rfl))⟩
 f18 := ⟨Tryz.f152.name, by decide, Tryz.func152.trans (congrArg some (by kernel_rfl))⟩
 f19 := Tryz.func132.trans (congrArg some (by kernel_rfl))
 f20 := Tryz.func133.trans (congrArg some (by kernel_rfl))
 f30 := ⟨Tryz.f154.name, by decide, Tryz.func154.trans (congrArg some (by kernel_rfl))⟩
 f31 := Tryz.func140.trans (congrArg some (by kernel_rfl))
 f32 := Tryz.func141.trans (congrArg some (by kernel_rfl))
 f33 := ⟨Tryz.f155.name, by decide, Tryz.func155.trans (congrArg some (by kernel_rfl))⟩
 f34 := ⟨Tryz.f156.name, by decide, Tryz.func156.trans (congrArg some (by kernel_rfl))⟩
 f35 := ⟨Tryz.f116.name, by decide, Tryz.func116.trans (congrArg some (by kernel_rfl))⟩
 f40 := ⟨Tryz.f157.name, by decide, Tryz.func157.trans (congrArg some (by kernel_rfl))⟩
 t0 := Tryz.underlying0
 a0 := Tryz.isAgg0
 z0 := Tryz.sizeOf0
 v0 := Tryz.zeroValue0
 t3 := Tryz.underlying3
 a3 := Tryz.isAgg3
 z3 := Tryz.sizeOf3
 v3 := Tryz.zeroValue3
 t4 := Tryz.underlying4
 a4 := Tryz.isAgg4
 z4 := Tryz.sizeOf4
 v4 := Tryz.zeroValue4
 t5 := Tryz.underlying5
 a5 := Tryz.isAgg5
 z5 := Tryz.sizeOf5
 v5 := Tryz.zeroValue5
 t9 := Tryz.underlying9
 a9 := Tryz.isAgg9
 z9 := Tryz.sizeOf9
 v9 := Tryz.zeroValue9
 t22 := Tryz.underlying188
 a22 := Tryz.isAgg188
 z22 := Tryz.sizeOf188
 v22 := Tryz.zeroValue188
 t23 := Tryz.underlying188
 a23 := Tryz.isAgg188
 z23 := Tryz.sizeOf188
 v23 := Tryz.zeroValue188
 t25 := Tryz.underlying3
 a25 := Tryz.isAgg3
 z25 := Tryz.sizeOf3
 v25 := Tryz.zeroValue3
 t32 := Tryz.underlying198
 a32 := Tryz.isAgg198
 z32 := Tryz.sizeOf198
 v32 := Tryz.zeroValue198
 t35 := Tryz.underlying207
 a35 := Tryz.isAgg207
 z35 := Tryz.sizeOf207
 v35 := Tryz.zeroValue207
 t36 := Tryz.underlying208
 a36 := Tryz.isAgg208
 z36 := Tryz.sizeOf208
 v36 := Tryz.zeroValue208
 t41 := Tryz.underlying193
 a41 := Tryz.isAgg193
 z41 := Tryz.sizeOf193
 v41 := Tryz.zeroValue193
 t44 := Tryz.underlying22
 a44 := Tryz.isAgg22
 z44 := Tryz.sizeOf22
 v44 := Tryz.zeroValue22
 t46 := Tryz.underlying214
 a46 := Tryz.isAgg214
 z46 := Tryz.sizeOf214
 v46 := Tryz.zeroValue214
 t53 := Tryz.underlying219
 a53 := Tryz.isAgg219
 z53 := Tryz.sizeOf219
 v53 := Tryz.zeroValue219
 t57 := Tryz.underlying223
 a57 := Tryz.isAgg223
 z57 := Tryz.sizeOf223
 v57 := Tryz.zeroValue223
 t63 := Tryz.underlying231
 a63 := Tryz.isAgg231
 z63 := Tryz.sizeOf231
 v63 := Tryz.zeroValue231
 t64 := Tryz.underlying92
 a64 := Tryz.isAgg92
 z64 := Tryz.sizeOf92
 v64 := Tryz.zeroValue92 }
theorem sort_ints {w : World} {p : Option Addr} {n c : Nat} {xs : List Int} (h : RowAt w 3 1 p n c (xs.map (Value.int .i64))) (hn : n = xs.length) (hle : n ≤ 1000000) :
  Calls Tryz.prog 119 #[.slice p n c] w fun e w' => e = .returned (.tuple #[]) ∧ RowAt w' 3 1 p n c ((xs.mergeSort fun x y => decide (x ≤ y)).map (Value.int .i64)) ∧ Chg (rowB p) w w' := by
 subst hn
 rcases h.2 with ⟨hv, hz⟩ | ⟨g, cap, cur, hv, hb, hg, h1, h2, h3, h4⟩
 ·obtain rfl : xs = [] := List.eq_nil_of_length_eq_zero hz
  cases hv
  refine (AnyM.slices_Sort_int_none sortA none 0 w).mono ?_
  rintro e w' ⟨rfl, rfl⟩
  exact ⟨rfl, by simpa using h, Chg.refl _ _⟩
 ·cases hv
  refine (AnyM.slices_Sort_int sortA g 0 c xs w (holds_of_blockI hg (by simpa using h4)) (lt_of_heap hg) (by omega)).mono ?_
  rintro e w' ⟨rfl, nn, os, rfl⟩
  refine ⟨rfl, ?_, ?_⟩
  ·exact ownsRow_sortedI (by simp) (Nat.zero_le _) hg h1 h2 h3
  ·obtain ⟨k1, k2, k3, k4, k5⟩ := grownBy_sortedI (w := w) (g := g) (n := nn) (os := os) (xs.mergeSort fun x y => decide (x ≤ y)).toArray
   exact ⟨k1, k2, k3, k4, fun k hk hf => k5 k hk (fun e => hf (by simp [rowB] at e ⊢; omega))⟩
theorem sorted {w : World} {fv : Value} {S Sp : List Int → Prop} {keep : List Nat} (hf : IsFn Tryz.prog fv) (hi : Iterates Tryz.prog fv (fun x : Int => #[.int .i64 x]) S Sp keep w) (hk : ∀ i ∈ keep, i < w.heap.size)
  (hle : ∀ pre, Sp pre → pre.length ≤ 1000000) (hSp : ∀ xs, S xs → Sp xs) :
  Calls Tryz.prog 102 #[fv] w fun e w' => ∃ (p : Option Addr) (n c : Nat), e = .returned (.slice p n c) ∧ ∃ xs, S xs ∧ n = xs.length ∧ RowAt w' 3 1 p n c ((xs.mergeSort fun x y => decide (x ≤ y)).map (Value.int .i64)) ∧ Chg [] w w' ∧ ∀ b ∈ rowB p, w.heap.size ≤ b := by
 refine go_slices_Sorted_61 _ _ _ ?_
 unfold W_slices_Sorted_61
 refine (collect hf hi hk hle).mono ?_
 rintro _ w1 ⟨p, n, c, rfl, xs, hS, hn, hr, c1, hb⟩
 refine ⟨p, n, c, rfl, ?_⟩
 refine (sort_ints hr hn (by have := hle _ (hSp _ hS); omega)).mono ?_
 rintro _ w2 ⟨rfl, hr2, c2⟩
 exact ⟨rfl, xs, hS, hn, hr2, c1.trans c2 (fun i hi hlt => by have := hb i hi; omega), hb⟩
end Go.Proofs.YtfcfkhbkkfpehaaGreat
end
section
/- Shadows: Copy. -/
namespace Go.Proofs.YtfcfkhbkkfpehaaGreat
open Go Go.RowKit Go.X Go.XR
theorem maps_all (w : World) (m : Option Nat) : Calls Tryz.prog 82 #[.map m] w fun e w' => ∃ r : Value, e = .returned r ∧ ∃ cb, r = .func (.func 100) #[] #[.pointer (some ⟨cb, 0, none⟩)] ∧ cb = w.heap.size ∧ w'.heap[cb]? = some (.cells #[.map m] 156 (0, 0)) ∧ Chg [] w w' := by
 refine go_maps_All_0 _ _ _ ?_
 unfold W_maps_All_0
 exact v_alloc fun b w1 e h c => ⟨b, rfl, e, h, c⟩
theorem PageC.ones {w : World} {q : Nat} {n : Int} {s : Nat → Int} {c : Array Value} (h1 : c.size = 65) (h2 : c[0]? = some (.int .i64 n)) (h3 : ∀ i, i < 64 → c[1 + i]? = some (.int .u32 (s i))) : ∀ v ∈ c.toList, Value.oneCell' v = true := by
 intro v hv
 obtain ⟨j, hj⟩ := List.getElem?_of_mem hv
 have hlt : j < c.toList.length := (List.getElem?_eq_some_iff.1 hj).1
 simp at hlt
 cases j with
 | zero =>
  have : c[0]? = some v := by simpa using hj
  rw [h2] at this; cases this; rfl
 | succ j =>
  have : c[1 + j]? = some v := by rw [Nat.add_comm]; simpa using hj
  rw [h3 j (by omega)] at this; cases this; rfl
theorem shadow_copy {w : World} {b : Nat} {pages : Int} {g : Int → Int} {fp : List Nat} (h : ShadowAt w b pages g fp) :
  Calls Tryz.prog 45 #[.pointer (some ⟨b, 0, none⟩)] w fun e w' => ∃ r1 : Option Addr, e = .returned (.pointer r1) ∧ (∃ b' fp', r1 = some ⟨b', 0, none⟩ ∧ ShadowAt w' b' pages g fp' ∧ Chg [] w w' ∧ ∀ i ∈ fp', w.heap.size ≤ i) := by
 obtain ⟨r, l, h1, h2, h3, h4, rfl⟩ := h.there
 have hlt := h.lt
 refine go_shadow_Shadow_Copy _ _ _ ?_
 unfold W_shadow_Shadow_Copy
 refine (shadow_none h).mono ?_
 rintro _ w1 ⟨_, rfl, rfl, hw⟩
 subst w1
 refine ⟨_, rfl, fun h => by simp at h, fun _ => ⟨_, rfl, pages, by rw [cell_of h1]; rfl, ?_⟩⟩
 refine v_alloc fun b1 w2 e1 hb1 c2 => ?_
 refine v_alloc fun b2 w3 e2 hb2 c3 => ?_
 refine v_alloc fun b3 w4 e3 hb3 c4 => ?_
 refine v_set0 hb3 (by simp) fun w5 hb35 c5 s5 => ?_
 have s2 := c2.size
 have s3 := c3.size
 have s4 := c4.size
 have l2 : b1 < w2.heap.size := lt_of_heap hb1
 have l3 : b2 < w3.heap.size := lt_of_heap hb2
 have l4 : b3 < w4.heap.size := lt_of_heap hb3
 have c05 : Chg [] w w5 := ((c2.trans0 c3).trans0 c4).trans c5 (fun i hi hlt => by simp at hi; omega)
 have hh5 := c05.obj (by simp) h1
 have hb15 := c5.obj (by simp; omega) (c4.obj (by simp) (c3.obj (by simp) hb1))
 have hb25 := c5.obj (by simp; omega) (c4.obj (by simp) hb2)
 refine ⟨some r, by rw [add_at, cell_of hh5]; rfl, ?_⟩
 refine (maps_all w5 (some r)).mono ?_
 rintro _ w6 ⟨_, rfl, cb, rfl, ecb, hcb, c6⟩
 have s6 := c6.size
 have c06 := c05.trans0 c6
 have hm6 := h2.chg c06 (by simp)
 have hcbl : cb < w6.heap.size := lt_of_heap hcb
 have hrl : r < w6.heap.size := hm6.lt
 refine ⟨_, rfl, allS pgF l, allSp pgF l, [cb, r], isFn118 cb, iterates_all hcb hm6, by simp; exact ⟨hcbl, hrl⟩,
  fun O pre w' => ∃ l' : List (Int × Nat), l'.map Prod.fst = pre.map Prod.fst ∧ MapIs w' b1 (fun n : Int => .int .i64 n) encPg l' ∧ (∀ x ∈ l', PageC w' x.2 (many (pg g x.1)) (pg g x.1) ∧ x.2 ∉ O ∧ w6.heap.size ≤ x.2) ∧ (l'.map Prod.snd).Nodup ∧
   w'.heap[b2]? = some (.cells #[.int .i64 pages, .map (some b1)] 158 (0, 0)) ∧ w'.heap[b3]? = some (.cells #[.pointer (some ⟨b2, 0, none⟩)] 98 (0, 0)) ∧ Chg [] w w' ∧ w6.heap.size ≤ w'.heap.size, ?_, ?_, ?_, ?_⟩
 ·rintro pre O O' A B ⟨l', k1, k2, k3, k4, k5, k6, k7, k8⟩ hO hc hO' hg
  have hn : ∀ {i : Nat}, i < w6.heap.size → i ∉ O := fun hi hm => by have := (hO _ hm).1; omega
  have hsz := hc.size
  refine ⟨l', k1, k2.chg hc (hn (by omega)), fun x hx => ?_, k4, hc.obj (hn (by omega)) k5, hc.obj (hn (by omega)) k6, k7.trans hc (fun i hi hlt => by have := (hO i hi).1; omega), by omega⟩
  obtain ⟨a1, a2, a3⟩ := k3 x hx
  refine ⟨a1.chg hc a2, fun hm => ?_, a3⟩
  rcases hg _ hm with h | h
  ·exact a2 h
  ·have := a1.lt; omega
 ·intro O w7 c7 hO
  exact ⟨[], rfl, ⟨#[], 0, c7.obj (by simp) (c6.obj (by simp) hb15), rfl, by simp, by simp, by simp⟩, by simp, by simp, c7.obj (by simp) (c6.obj (by simp) hb25), c7.obj (by simp) (c6.obj (by simp) hb35), c06.trans0 c7, c7.size⟩
 ·rintro l1 O pre x1 x2 w7 hO hl1 ⟨done, hd, hdn, hds⟩ ⟨l', k1, k2, k3, k4, k5, k6, k7, k8⟩ w8 c8
  have hn : ∀ {i : Nat}, i < w6.heap.size → i ∉ [l1] := fun hi hm => by simp at hm; subst hm; have := (hO _ hl1).1; omega
  have s8 := c8.size
  -- the element
  obtain ⟨k, v, done', hdd, hx1, hx2, hpre⟩ : ∃ (k : Int) (v : Nat) (done' : List (Int × Nat)), done = done' ++ [(k, v)] ∧ x1 = k ∧ x2 = some ⟨v, 0, none⟩ ∧ pre = done'.map pgF := by
   have hne : done ≠ [] := by rintro rfl; simp at hd
   obtain ⟨done', y, rfl⟩ : ∃ d' y, done = d' ++ [y] := ⟨done.dropLast, done.getLast hne, (List.dropLast_concat_getLast hne).symm⟩
   rw [List.map_append] at hd
   have := List.append_inj' hd rfl
   have h2' : (x1, x2) = pgF y := by simpa using this.2
   exact ⟨y.1, y.2, done', rfl, congrArg Prod.fst h2', congrArg Prod.snd h2', this.1⟩
  subst hdd hx1 hx2 hpre
  have hkl : (x1, v) ∈ l := hds _ (by simp)
  have hknew : x1 ∉ done'.map Prod.fst := fun hm => by
   rw [List.map_append, List.nodup_append] at hdn
   exact hdn.2.2 _ hm x1 (by simp) rfl
  obtain ⟨v0, v1, ⟨c, p1, p2, p3, p4⟩, vm⟩ := h3 _ hkl
  simp only [] at v0 v1 p1 p3 p4
  have c08 : Chg [] w w8 := k7.trans c8 (fun i hi hlt => by simp at hi; subst hi; have := (hO _ hl1).1; omega)
  have hp8 := c08.obj (by simp) p1
  refine ⟨_, rfl, c.toList, by simp [p2], cellsAt_of (by simpa using hp8), ?_⟩
  refine v_alloc fun b4 w9 e4 hb4 c9 => ?_
  have s9 := c9.size
  have l9 : b4 < w9.heap.size := lt_of_heap hb4
  refine ⟨PageC.ones (w := w) (q := v) p2 p3 p4, ?_⟩
  refine v_fill hb4 (by simp [z167_XG3, p2]) (by simp [z167_XG3]) fun w10 hb410 c10 s10 => ?_
  have c810 : Chg [] w8 w10 := c9.trans c10 (fun i hi hlt => by simp at hi; omega)
  have hb310 := c810.obj (by simp) (c8.obj (hn (by omega)) k6)
  have hb210 := c810.obj (by simp) (c8.obj (hn (by omega)) k5)
  refine ⟨_, by rw [cell_of hb310]; rfl, _, rfl, some b1, by rw [add_at, cell_of hb210]; rfl, ?_⟩
  have hm10 := (k2.chg c8 (hn (by omega))).chg c810 (by simp)
  obtain ⟨w11, hu, c11, hs11, hm11⟩ := hm10.update (P := Tryz.prog) (T := 156) u173 keyInt x1 b4
  refine ⟨w11, hu, by omega, ?_, ?_⟩
  ·have hknone : lookK x1 l' = none := lookK_none.2 fun p hp e => by
    have : p.1 ∈ l'.map Prod.fst := List.mem_map.2 ⟨p, hp, rfl⟩
    rw [k1, List.map_map] at this
    exact hknew (e ▸ (by simpa [pgF, Function.comp_def] using this))
   have hupd : upd x1 b4 l' = l' ++ [(x1, b4)] := by unfold upd; rw [hknone]; rfl
   rw [hupd] at hm11
   refine ⟨l' ++ [(x1, b4)], by simp [k1], hm11, fun x hx => ?_, ?_, c11.obj (by simp; omega) hb210, c11.obj (by simp; omega) hb310, (c08.trans0 c810).trans c11 (fun i hi hlt => by simp at hi; omega), by omega⟩
   ·rcases List.mem_append.1 hx with hx | hx
    ·obtain ⟨a1, a2, a3⟩ := k3 x hx
     exact ⟨((a1.chg c8 (fun hm => by simp at hm; exact a2 (hm ▸ hl1))).chg c810 (by simp)).chg c11 (by simp; omega), a2, a3⟩
    ·simp at hx; subst hx
     refine ⟨⟨c, c11.obj (by simp; omega) (by simpa using hb410), p2, p3, p4⟩, fun hm => ?_, by simp only []; omega⟩
     have := (hO _ hm).2; omega
   ·rw [List.map_append, List.nodup_append]
    refine ⟨k4, by simp, fun a ha b' hb' e => ?_⟩
    simp at hb'; subst hb'; subst e
    obtain ⟨x, hx, rfl⟩ := List.mem_map.1 ha
    have := (k3 x hx).1.lt; omega
  ·intro i hi
   have hi' : i < w8.heap.size ∧ i ≠ b1 := by
    rcases List.mem_append.1 hi with hi | hi
    ·simp at hi; rcases hi with rfl | rfl
     ·exact ⟨by omega, by omega⟩
     ·have := h2.lt; exact ⟨by omega, by omega⟩
    ·have := hO i hi; exact ⟨by omega, by omega⟩
   rw [c11.block i (by have := c810.size; omega) (by simpa using hi'.2), c810.block i hi'.1 (by simp)]
 ·rintro d1 O xs w12 hO hd1 ⟨done, rfl, hdn, hds, hda⟩ ⟨l', k1, k2, k3, k4, k5, k6, k7, k8⟩
  refine ⟨_, by rw [cell_of k6]; rfl, fun w13 c13 => ?_⟩
  have hn : ∀ {i : Nat}, i < w6.heap.size → i ∉ [d1] := fun hi hm => by simp at hm; subst hm; have := (hO _ hd1).1; omega
  have hkeys : ∀ n, n ∈ l'.map Prod.fst ↔ n ∈ l.map Prod.fst := fun n => by
   rw [k1, List.map_map]
   constructor
   ·intro hm
    obtain ⟨x, hx, e⟩ := List.mem_map.1 hm
    exact List.mem_map.2 ⟨x, hds x hx, e⟩
   ·intro hm
    obtain ⟨x, hx, e⟩ := List.mem_map.1 hm
    exact List.mem_map.2 ⟨x, hda x hx, e⟩
  have hget : ∀ x ∈ l', ∃ y ∈ l, y.1 = x.1 := fun x hx => by
   have := (hkeys x.1).1 (List.mem_map.2 ⟨x, hx, rfl⟩)
   obtain ⟨y, hy, e⟩ := List.mem_map.1 this
   exact ⟨y, hy, e⟩
  refine ⟨b2, b2 :: b1 :: l'.map Prod.snd, rfl, ⟨⟨b1, l', c13.obj (hn (by omega)) k5, k2.chg c13 (hn (by omega)), fun x hx => ?_, fun n hnone i hi => ?_, rfl⟩, ?_, h.pages1, h.pages2, h.each⟩, k7.trans c13 (fun i hi hlt => by simp at hi; subst hi; have := (hO _ hd1).1; omega), fun i hi => ?_⟩
  ·obtain ⟨a1, a2, a3⟩ := k3 x hx
   obtain ⟨y, hy, e⟩ := hget x hx
   obtain ⟨q1, q2, q3, q4⟩ := h3 y hy
   rw [e] at q1 q2 q4
   exact ⟨q1, q2, a1.chg c13 (fun hm => by simp at hm; exact a2 (hm ▸ hd1)), q4⟩
  ·refine h4 n (lookK_none.2 fun p hp e => ?_) i hi
   have := (hkeys n).2 (List.mem_map.2 ⟨p, hp, e⟩)
   obtain ⟨x, hx, e'⟩ := List.mem_map.1 this
   exact lookK_none.1 hnone x hx e'
  ·simp only [List.nodup_cons, List.mem_cons, not_or]
   refine ⟨⟨by omega, fun hm => ?_⟩, fun hm => ?_, k4⟩
   ·obtain ⟨x, hx, e⟩ := List.mem_map.1 hm
    have := (k3 x hx).2.2; omega
   ·obtain ⟨x, hx, e⟩ := List.mem_map.1 hm
    have := (k3 x hx).2.2; omega
  ·simp only [List.mem_cons] at hi
   rcases hi with rfl | rfl | hi
   ·omega
   ·omega
   ·obtain ⟨x, hx, e⟩ := List.mem_map.1 hi
    have := (k3 x hx).2.2; omega
end Go.Proofs.YtfcfkhbkkfpehaaGreat
end
section
/- Shadows: All. -/
namespace Go.Proofs.YtfcfkhbkkfpehaaGreat
open Go Go.RowKit Go.X Go.XR
/-! ### The plain law: what is told -/
def one (g : Int → Int) (n : Int) (i : Nat) : List (Int × Int) := if pg g n i = 0 then [] else [(64 * n + i, pg g n i)]
def pgL (g : Int → Int) (n : Int) (k : Nat) : List (Int × Int) := (List.range k).flatMap (one g n)
def someL (g : Int → Int) (k : Nat) : List (Int × Int) := (List.range k).flatMap fun i : Nat => if g i = 0 then [] else [((i : Int), g i)]
theorem pgL_succ (g : Int → Int) (n : Int) (k : Nat) : pgL g n (k + 1) = pgL g n k ++ one g n k := by simp [pgL, List.range_succ]
theorem pgL_none {g : Int → Int} {n : Int} (h : ∀ i, i < 64 → pg g n i = 0) : pgL g n 64 = [] := by
 unfold pgL
 rw [List.flatMap_eq_nil_iff]
 intro i hi
 simp [one, h i (List.mem_range.1 hi)]
theorem someL_add (g : Int → Int) (k m : Nat) : someL g (k + m) = someL g k ++ (List.range m).flatMap fun i : Nat => if g (k + i) = 0 then [] else [((k : Int) + i, g (k + i))] := by
 unfold someL
 rw [List.range_add, List.flatMap_append, List.flatMap_map]
 simp
theorem someL_page (g : Int → Int) (n : Nat) : someL g (64 * (n + 1)) = someL g (64 * n) ++ pgL g n 64 := by
 rw [Nat.mul_succ, someL_add]
 unfold pgL one pg
 simp
theorem someL_pages (g : Int → Int) (n : Nat) : someL g (64 * n) = (List.range n).flatMap fun i : Nat => pgL g i 64 := by
 induction n with
 | zero => rfl
 | succ n ih => rw [someL_page, List.range_succ, List.flatMap_append, ih]; simp
theorem sorted_ext {a b : List Int} (ha : a.Pairwise (· < ·)) (hb : b.Pairwise (· < ·)) (h : ∀ x, x ∈ a ↔ x ∈ b) : a = b := by
 induction a generalizing b with
 | nil => cases b with
  | nil => rfl
  | cons y b => exact absurd ((h y).2 (by simp)) (by simp)
 | cons x a ih =>
  cases b with
  | nil => exact absurd ((h x).1 (by simp)) (by simp)
  | cons y b =>
   rw [List.pairwise_cons] at ha hb
   have hxy : x = y := by
    rcases List.mem_cons.1 ((h x).1 (by simp)) with e | hx
    ·exact e
    ·rcases List.mem_cons.1 ((h y).2 (by simp)) with e | hy
     ·exact e.symm
     ·have := ha.1 y hy; have := hb.1 x hx; omega
   subst hxy
   rw [ih ha.2 hb.2 fun z => ?_]
   constructor
   ·intro hz
    rcases List.mem_cons.1 ((h z).1 (by simp [hz])) with e | h'
    ·have := ha.1 z hz; omega
    ·exact h'
   ·intro hz
    rcases List.mem_cons.1 ((h z).2 (by simp [hz])) with e | h'
    ·have := hb.1 z hz; omega
    ·exact h'
theorem flatMap_filter {α β : Type} (p : α → Bool) (f : α → List β) (l : List α) (h : ∀ x ∈ l, p x = false → f x = []) : (l.filter p).flatMap f = l.flatMap f := by
 induction l with
 | nil => rfl
 | cons a l ih =>
  have ih := ih fun x hx => h x (by simp [hx])
  cases hp : p a with
  | true => simp [hp, ih]
  | false => simp [hp, ih, h a (by simp) hp]
theorem sort_strict {ks : List Int} (hn : ks.Nodup) : (ks.mergeSort fun x y => decide (x ≤ y)).Pairwise (· < ·) := by
 have h1 := List.pairwise_mergeSort (le := fun x y : Int => decide (x ≤ y)) (fun a b c h1 h2 => by simp at *; omega) (fun a b => by simp; omega) ks
 have h2 : (ks.mergeSort fun x y => decide (x ≤ y)).Nodup := (List.mergeSort_perm ks _).nodup_iff.2 hn
 exact (h1.and h2).imp fun {a b} h => by have := h.1; have := h.2; simp at *; omega
theorem keys_all {g : Int → Int} {pages : Int} {l : List (Int × Nat)} {xs : List Int} (hx : allS Prod.fst l xs) (hp : ∀ x ∈ l, 0 ≤ x.1 ∧ x.1 < pages) (hnone : ∀ n, lookK n l = none → ∀ i, i < 64 → pg g n i = 0) :
  (xs.mergeSort fun x y => decide (x ≤ y)).flatMap (fun n => pgL g n 64) = someL g (64 * pages.toNat) := by
 obtain ⟨done, rfl, hn, h1, h2⟩ := hx
 have hmem : ∀ n : Int, n ∈ done.map Prod.fst ↔ (lookK n l).isSome = true := fun n => by
  constructor
  ·intro h
   obtain ⟨x, hx, rfl⟩ := List.mem_map.1 h
   cases hl : lookK x.1 l with
   | none => exact absurd rfl (lookK_none.1 hl x (h1 x hx))
   | some v => rfl
  ·intro h
   obtain ⟨v, hv⟩ := Option.isSome_iff_exists.1 h
   exact List.mem_map.2 ⟨(n, v), h2 _ (lookK_mem hv), rfl⟩
 have e1 : (done.map Prod.fst).mergeSort (fun x y => decide (x ≤ y)) = ((List.range pages.toNat).map (fun i : Nat => (i : Int))).filter fun n => (lookK n l).isSome := by
  refine sorted_ext (sort_strict hn) (List.Pairwise.filter _ ?_) fun n => ?_
  ·rw [List.pairwise_map]
   exact List.pairwise_lt_range.imp fun {a b} h => by omega
  ·rw [(List.mergeSort_perm _ _).mem_iff, hmem, List.mem_filter]
   constructor
   ·intro h
    obtain ⟨v, hv⟩ := Option.isSome_iff_exists.1 h
    have := hp _ (lookK_mem hv)
    exact ⟨List.mem_map.2 ⟨n.toNat, List.mem_range.2 (by simp at this; omega), by simp at this; omega⟩, h⟩
   ·exact fun h => h.2
 rw [e1, flatMap_filter, List.flatMap_map, someL_pages]
 intro n hn' hno
 exact pgL_none (hnone n (by simpa using hno))
/-! ### The walk -/
theorem maps_keys (w : World) (m : Option Nat) : Calls Tryz.prog 103 #[.map m] w fun e w' => ∃ r : Value, e = .returned r ∧ ∃ cb, r = .func (.func 120) #[] #[.pointer (some ⟨cb, 0, none⟩)] ∧ cb = w.heap.size ∧ w'.heap[cb]? = some (.cells #[.map m] 156 (0, 0)) ∧ Chg [] w w' := by
 refine go_maps_Keys_0 _ _ _ ?_
 unfold W_maps_Keys_0
 exact v_alloc fun b w1 e h c => ⟨b, rfl, e, h, c⟩
theorem index_179 {c : Array Value} (hs : c.size = 65) {i : Nat} {z : Int} (hi : i < 64) (hz : c[1 + i]? = some (.int .u32 z)) (w : World) :
  (Instr.index 165 (.agg ((c.toList.drop 1).toArray)) (.int .i64 (i : Int))).run Tryz.prog w = .ok (.int .u32 z) w := by
 have hu : Tryz.prog.underlying 165 = some (.array 64 22) := by kernel_rfl
 have hz' : c[i + 1]? = some (.int .u32 z) := by rw [Nat.add_comm]; exact hz
 unfold Instr.index
 simp [go_sem, run_underlying hu, Result.andThen, hi, part, hz']
theorem isFn93 (cb : Nat) : IsFn Tryz.prog (.func (.func 101) #[] #[.pointer (some ⟨cb, 0, none⟩)]) := ⟨101, Tryz.f101, _, rfl, Tryz.func101, by kernel_rfl, by kernel_rfl⟩
theorem ShadowAt.same {w w' : World} {b : Nat} {pages : Int} {g : Int → Int} {fp : List Nat} (h : ShadowAt w b pages g fp) (hs : Same w w' fp) : ShadowAt w' b pages g fp := by
 obtain ⟨r, l, h1, ⟨es, clk, m1, m2⟩, h3, h4, rfl⟩ := h.there
 refine ⟨⟨r, l, (hs b (by simp)).trans h1, ⟨es, clk, (hs r (by simp)).trans m1, m2⟩, fun x hx => ?_, h4, rfl⟩, h.nodup, h.pages1, h.pages2, h.each⟩
 obtain ⟨a1, a2, ⟨c, a3, a4⟩, a5⟩ := h3 x hx
 exact ⟨a1, a2, ⟨c, (hs x.2 (by simp; exact .inr (.inr ⟨x.1, hx⟩))).trans a3, a4⟩, a5⟩
theorem same_cell {w w' : World} {q : Addr} {v : Value} (h : w'.heap[q.block]? = w.heap[q.block]?) (hq : w.cell? q = some v) : w'.cell? q = some v := by
 unfold World.cell? at hq ⊢
 rw [h]; exact hq
theorem pgL_pre (g : Int → Int) (n : Int) (i m : Nat) : ∃ s, pgL g n (i + m) = pgL g n i ++ s := by
 unfold pgL
 rw [List.range_add, List.flatMap_append]
 exact ⟨_, rfl⟩
theorem allSp_len {l : List (Int × Nat)} {pages : Int} (hp : pages ≤ 32) (h : ∀ x ∈ l, 0 ≤ x.1 ∧ x.1 < pages) {pre : List Int} (hs : allSp Prod.fst l pre) : pre.length ≤ 1000000 := by
 obtain ⟨done, rfl, hn, hd⟩ := hs
 have := nodup_sub_length hn (b := (List.range 32).map fun i : Nat => (i : Int)) fun x hx => by
  obtain ⟨y, hy, rfl⟩ := List.mem_map.1 hx
  have := h y (hd y hy)
  exact List.mem_map.2 ⟨y.1.toNat, List.mem_range.2 (by omega), by omega⟩
 simp at this ⊢
 omega
theorem iterates_shadow {w : World} {cb b : Nat} {pages : Int} {g : Int → Int} {fp : List Nat} (hcb : w.heap[cb]? = some (.cells #[.pointer (some ⟨b, 0, none⟩)] 98 (0, 0))) (h : ShadowAt w b pages g fp) :
  Iterates Tryz.prog (.func (.func 101) #[] #[.pointer (some ⟨cb, 0, none⟩)]) (fun x : Int × Int => #[.int .i64 x.1, .int .u32 x.2]) (fun xs => xs = someL g (64 * pages.toNat)) (fun pre => ∃ suf, pre ++ suf = someL g (64 * pages.toNat)) (cb :: fp) w := by
 intro W yv I Ix hW hI hIx h0 hround
 refine ⟨101, #[.pointer (some ⟨cb, 0, none⟩)], Tryz.f101, rfl, Tryz.func101, by kernel_rfl, by kernel_rfl, ?_⟩
 have hcW := hW.obj (by simp) hcb
 have hSW := h.chg hW (by simp)
 obtain ⟨r, l, h1, h2, h3, h4, rfl⟩ := hSW.there
 have hpg := h.pages2
 have hlr := h2.lt
 have hlcb := lt_of_heap hcW
 have hl := hSW.lt
 have hkeys : ∀ x ∈ l, 0 ≤ x.1 ∧ x.1 < pages := fun x hx => ⟨(h3 x hx).1, (h3 x hx).2.1⟩
 refine (go_shadow_Shadow_All_1 yv ⟨cb, 0, none⟩ W (fun w' => ∃ Own, InO W Own w' ∧ ((∃ xs, xs = someL g (64 * pages.toNat) ∧ I Own xs w') ∨ ∃ pre, (∃ suf, pre ++ suf = someL g (64 * pages.toNat)) ∧ Ix Own pre w')) ?_).mono (fun e w' h => ⟨⟨_, h.1⟩, h.2⟩)
 unfold W_shadow_Shadow_All_1
 refine ⟨_, by rw [cell_of hcW]; rfl, ?_⟩
 refine (shadow_none hSW).mono ?_
 rintro _ w1 ⟨_, rfl, rfl, hw⟩
 subst w1
 refine ⟨_, rfl, fun h => by simp at h, fun _ => ⟨_, by rw [cell_of hcW]; rfl, _, rfl, some r, by rw [add_at, cell_of h1]; rfl, ?_⟩⟩
 refine (maps_keys W (some r)).mono ?_
 rintro _ w2 ⟨_, rfl, kb, rfl, ekb, hkb, c2⟩
 have s2 := c2.size
 have hkl := lt_of_heap hkb
 refine ⟨_, rfl, ?_⟩
 refine (sorted (isFn117 kb) (iterates_keys hkb (h2.chg c2 (by simp))) (by simp; omega) (fun pre hp => allSp_len hpg hkeys hp) (fun xs ⟨d, e, n, a, _⟩ => ⟨d, e, n, a⟩)).mono ?_
 rintro _ w3 ⟨p, n, c, rfl, xs, hS, hn, hr, c3, hp⟩
 have s3 := c3.size
 have hks := keys_all (g := g) hS hkeys h4
 have hmem : ∀ k ∈ (xs.mergeSort fun x y => decide (x ≤ y)), ∃ q, lookK k l = some q ∧ (k, q) ∈ l := fun k hk => by
  rw [(List.mergeSort_perm _ _).mem_iff] at hk
  obtain ⟨done, rfl, d1, d2, d3⟩ := hS
  obtain ⟨x, hx, rfl⟩ := List.mem_map.1 hk
  cases hl : lookK x.1 l with
  | none => exact absurd rfl (lookK_none.1 hl x (d2 x hx))
  | some v => exact ⟨v, rfl, lookK_mem hl⟩
 have hlen : (xs.mergeSort fun x y => decide (x ≤ y)).length = n := by simp [hn]
 have hxs : n ≤ 1000000 := hn ▸ allSp_len hpg hkeys (by obtain ⟨d, e, n, a, _⟩ := hS; exact ⟨d, e, n, a⟩)
 generalize (xs.mergeSort fun x y => decide (x ≤ y)) = ks at hr hks hmem hlen
 refine ⟨p, n, c, rfl, ?_⟩
 have c03 : Chg [] W w3 := c2.trans0 c3
 have hO : ∀ {A : World}, w3.heap.size ≤ A.heap.size → InO W (rowB p) A := fun hA i hi => ⟨by have := hp i hi; omega, by have := hr.lt i hi; omega⟩
 have hI3 := hI [] [] (rowB p) W w3 h0 (by intro i hi; cases hi) c03 (hO (Nat.le_refl _)) (fun i hi => .inr (by have := hp i hi; omega))
 refine ⟨fun x1 w4 => ∃ j : Nat, x1 = j ∧ j ≤ n ∧ I (rowB p) ((ks.take j).flatMap fun n => pgL g n 64) w4 ∧ Same w3 w4 ((cb :: b :: r :: l.map Prod.snd) ++ rowB p) ∧ w3.heap.size ≤ w4.heap.size, fun x1 _ => n - x1.toNat,
  ⟨0, rfl, Nat.zero_le _, hI3, Same.refl _ _, Nat.le_refl _⟩, ?_⟩
 rintro x1 w4 ⟨j, rfl, hj, hI4, hs4, s4⟩
 refine ⟨fun hlt => ?_, fun hge => ?_⟩
 ·simp at hlt
  have hjl : j < ks.length := by omega
  obtain ⟨k, hk⟩ : ∃ k, ks[j]? = some k := ⟨_, List.getElem?_eq_getElem hjl⟩
  obtain ⟨q, hq, hql⟩ := hmem k (List.mem_of_getElem? hk)
  obtain ⟨a, rfl, hcell⟩ := RowAt.at hr (j := j) (u := .int .i64 k) (by simp [hk])
  have hks' : ks = ks.take j ++ k :: ks.drop (j + 1) := by
   rw [← List.take_append_drop j ks]
   congr 1
   ·simp
   ·rw [List.take_append_drop, List.drop_eq_getElem_cons hjl]
    rw [List.getElem?_eq_getElem hjl] at hk
    cases hk; rfl
  have hcb4 := (hs4 cb (by simp)).trans (c03.obj (by simp) hcW)
  have hb4 := (hs4 b (by simp)).trans (c03.obj (by simp) h1)
  have hS4 : ShadowAt w4 b pages g (b :: r :: l.map Prod.snd) := (hSW.chg c03 (by simp)).same (fun x hx => hs4 x (List.mem_append_left _ (List.mem_cons_of_mem _ hx)))
  have hm4 : MapIs w4 r (fun n : Int => .int .i64 n) encPg l := by
   obtain ⟨es, clk, m1, m2⟩ := h2.chg c03 (by simp)
   exact ⟨es, clk, (hs4 r (by simp)).trans m1, m2⟩
  obtain ⟨k0, k1, ⟨cc, p1, p2, p3, p4⟩, _⟩ := h3 _ hql
  simp only [] at k0 k1 p1 p3 p4
  have p1' := (hs4 q (by simp; exact .inr (.inr (.inr (.inl ⟨k, hql⟩))))).trans (c03.obj (by simp) p1)
  refine ⟨a, rfl, by omega, by simp; omega, k, ?_, some ⟨b, 0, none⟩, by rw [cell_of hcb4]; rfl, _, rfl, some r, by rw [add_at, cell_of hb4]; rfl, some ⟨q, 0, none⟩, ?_, _, rfl, cc.toList.drop 1, by simp [p2], ?_, ?_⟩
  ·have : ((j : Int).toNat * 1) = j := by simp
   rw [this]
   exact same_cell (hs4 _ (by rw [add_block]; simp [rowB])) hcell
  ·have := hm4.lookup (P := Tryz.prog) (T := 156) u173 keyInt (z := .pointer none) (fun _ => by kernel_rfl) k false
   rw [this, hq]; rfl
  ·rw [add_at]
   exact box_cells (cs := cc.toList) (by simpa using p1') (by rw [List.take_of_length_le (Nat.le_refl _)])
  have hpre : ∀ i, i < 64 → ∃ suf, ((ks.take j).flatMap fun n => pgL g n 64) ++ pgL g k i ++ one g k i ++ suf = someL g (64 * pages.toNat) := fun i hi => by
   obtain ⟨s, hs⟩ := pgL_pre g k (i + 1) (64 - (i + 1))
   refine ⟨s ++ (ks.drop (j + 1)).flatMap fun n => pgL g n 64, ?_⟩
   rw [← hks]
   conv => rhs; rw [hks']
   rw [List.flatMap_append, List.flatMap_cons, show (64 : Nat) = i + 1 + (64 - (i + 1)) by omega, hs, pgL_succ]
   simp
  refine ⟨fun x2 w5 => ∃ i : Nat, x2 = i ∧ i ≤ 64 ∧ I (rowB (some a)) (((ks.take j).flatMap fun n => pgL g n 64) ++ pgL g k i) w5 ∧ Same w3 w5 ((cb :: b :: r :: l.map Prod.snd) ++ rowB (some a)) ∧ w3.heap.size ≤ w5.heap.size, fun x2 _ => 64 - x2.toNat,
   ⟨0, rfl, by omega, by simpa [pgL] using hI4, hs4, s4⟩, ?_⟩
  rintro x2 w5 ⟨i, rfl, hi, hI5, hs5, s5⟩
  have ew : IntKind.wrap .i64 ((i : Int) + 1) = ((i + 1 : Nat) : Int) := by rw [wr (by omega) (by omega)]; omega
  refine ⟨fun hlt => ?_, fun hge => ?_⟩
  ·simp at hlt
   have hi6 : i < 64 := by omega
   refine ⟨pg g k i, fun w => index_179 p2 hi6 (p4 i hi6) w, ?_⟩
   have next : ∀ w6, I (rowB (some a)) (((ks.take j).flatMap fun n => pgL g n 64) ++ pgL g k i ++ one g k i) w6 → Same w3 w6 ((cb :: b :: r :: l.map Prod.snd) ++ rowB (some a)) → w3.heap.size ≤ w6.heap.size →
     ((∃ i' : Nat, IntKind.wrap .i64 ((i : Int) + 1) = i' ∧ i' ≤ 64 ∧ I (rowB (some a)) (((ks.take j).flatMap fun n => pgL g n 64) ++ pgL g k i') w6 ∧ Same w3 w6 ((cb :: b :: r :: l.map Prod.snd) ++ rowB (some a)) ∧ w3.heap.size ≤ w6.heap.size) ∧ 64 - (IntKind.wrap .i64 ((i : Int) + 1)).toNat < 64 - (i : Int).toNat) := fun w6 h1 h2 h3 =>
    ⟨⟨i + 1, ew, by omega, by rw [pgL_succ, ← List.append_assoc]; exact h1, h2, h3⟩, by rw [ew]; omega⟩
   refine ⟨fun b6 w6 => (b6 = true → ∃ Own, InO W Own w6 ∧ ∃ pre, (∃ suf, pre ++ suf = someL g (64 * pages.toNat)) ∧ Ix Own pre w6) ∧ (b6 = false → I (rowB (some a)) (((ks.take j).flatMap fun n => pgL g n 64) ++ pgL g k i ++ one g k i) w6 ∧ Same w3 w6 ((cb :: b :: r :: l.map Prod.snd) ++ rowB (some a)) ∧ w3.heap.size ≤ w6.heap.size), ?_, fun hne => ?_, fun heq => ?_⟩
   ·rintro b6 w6 ⟨k1, k2⟩
    refine ⟨fun hb => ?_, fun hb => ?_⟩
    ·obtain ⟨Own, h1, h2⟩ := k1 hb
     exact ⟨Own, h1, .inr h2⟩
    ·obtain ⟨h1, h2, h3⟩ := k2 hb
     exact next w6 h1 h2 h3
   ·have hne' : pg g k i ≠ 0 := by simpa using hne
    have e1 : one g k i = [(64 * k + (i : Int), pg g k i)] := by simp [one, hne']
    have e2 : IntKind.wrap .i64 (IntKind.wrap .i64 (k * 64) + (i : Int)) = 64 * k + i := by
     rw [wr (n := k * 64) (by omega) (by omega), wr (by omega) (by omega)]; omega
    rw [e2]
    have hpi := hpre i hi6
    rw [e1] at hpi ⊢
    refine (hround (rowB (some a)) _ (64 * k + (i : Int), pg g k i) w5 (hO s5) hpi hI5).mono ?_
    rintro e w7 ⟨s7, ⟨rfl, hI7, hs7⟩ | ⟨rfl, hx7⟩⟩
    ·exact ⟨true, rfl, fun h => by simp at h, fun _ => ⟨hI7, fun x hx => (hs7 x hx).trans (hs5 x hx), by omega⟩⟩
    ·exact ⟨false, rfl, fun _ => ⟨rowB (some a), hO (by omega), _, hpi, hx7⟩, fun h => by simp at h⟩
   ·have he : pg g k i = 0 := by simpa using heq
    exact ⟨fun h => by simp at h, fun _ => ⟨by simpa [one, he] using hI5, hs5, s5⟩⟩
  ·simp at hge
   have : i = 64 := by omega
   subst this
   have ew1 : IntKind.wrap .i64 ((j : Int) + 1) = ((j + 1 : Nat) : Int) := by rw [wr (by omega) (by omega)]; omega
   refine ⟨⟨j + 1, ew1, by omega, ?_, hs5, s5⟩, by rw [ew1]; simp only []; omega⟩
   rw [List.take_add_one, hk, List.flatMap_append]
   simpa using hI5
 ·simp at hge
  have : j = n := by omega
  subst this
  rw [List.take_of_length_le (by omega), hks] at hI4
  exact ⟨rowB p, hO s4, .inl ⟨_, rfl, hI4⟩⟩
end Go.Proofs.YtfcfkhbkkfpehaaGreat
end
section
namespace Go.Proofs.YtfcfkhbkkfpehaaGreat
open Go Go.X
/- (*pomander/shadow.Shadow).Pages -/
def W_shadow_Shadow_Pages (s1 : Option Addr) (w : World) (R : Int → World → Prop) : Prop :=
 Calls Tryz.prog 81 #[.pointer s1] w fun e w1 => ∃ (r2 : Bool), e = .returned (.bool r2) ∧ ((r2 = true → R 0 w1) ∧ (r2 = false → ∃ a1 : Addr, s1 = some a1 ∧ (∃ (t1 : Option Nat), w1.cell? (a1.add 1) = some (.map t1) ∧ (∃ n1 : Int, (Builtin.len_ #[156] 3 #[.map t1]).run Tryz.prog w1 = .ok (.int .i64 n1) w1 ∧ (R n1 w1)))))
set_option maxRecDepth 100000 in
theorem go_shadow_Shadow_Pages (s1 : Option Addr) (w : World) (R : Int → World → Prop) (h : W_shadow_Shadow_Pages s1 w R) : Calls Tryz.prog 74 #[.pointer s1] w (fun e w' => ∃ (r1 : Int), e = .returned (.int .i64 r1) ∧ R r1 w') := by
 unfold W_shadow_Shadow_Pages at h
 refine enter (N := 10) Tryz.func74 rfl rfl ?_
 refine CW.seq ?_
 refine CW.region fun L hL => ?_
 refine LW.rd hL rfl (Wants.free rfl) rfl (Rd.assign (v := .int .i64 0) rfl) ?_
 refine LW.nil hL rfl ?_
 refine NW.then ?_
 refine CW.seq ?_
 refine CW.seq ?_
 refine CW.region fun L hL => ?_
 refine LW.rd hL rfl (Wants.free rfl) rfl (Rd.move (v := .pointer s1) rfl) ?_
 refine LW.call hL rfl (Wants.free rfl) rfl (Cl.fn (f := 81) rfl Tryz.func81 (by kernel_rfl) rfl) h (fun e w1 h_ => ?_)
 clear h
 obtain ⟨r2, rfl, h⟩ := h_
 refine ⟨_, rfl, ?_⟩
 refine LW.nil hL rfl ?_
 refine NW.then ?_
 refine CW.cond rfl (fun hb1 => ?_) (fun hb1 => ?_)
 ·replace h := h.1 hb1
  refine CW.seq ?_
  refine CW.region fun L hL => ?_
  refine LW.rd hL rfl (Wants.free rfl) rfl (Rd.assign (v := .int .i64 0) rfl) ?_
  refine LW.nil hL rfl ?_
  refine NW.then ?_
  refine CW.ret ?_
  refine RW.then ?_
  exact res1 rfl rfl ⟨0, rfl, h⟩
 ·replace h := h.2 hb1
  refine CW.skip ?_
  refine NW.then ?_
  refine CW.seq ?_
  refine CW.region fun L hL => ?_
  refine LW.rd hL rfl (Wants.free rfl) rfl (Rd.move (v := .pointer s1) rfl) ?_
  obtain ⟨a1, ha1, h⟩ := h
  refine LW.rd hL rfl (Wants.free rfl) rfl (Rd.nil (q := a1) (by rw [← ha1]; rfl)) ?_
  refine LW.rd hL rfl (Wants.free rfl) rfl (Rd.fa (v := .pointer (some (a1.add 1))) rfl (fun _ => by kernel_rfl)) ?_
  obtain ⟨t1, hc1, h⟩ := h
  refine LW.rd hL rfl (Wants.free rfl) rfl (Rd.ld (v := .map t1) rfl (by kernel_rfl) (eqs hc1)) ?_
  obtain ⟨n1, hl1, h⟩ := h
  refine LW.rd hL rfl (Wants.free rfl) rfl (Rd.builtin (v := .int .i64 n1) rfl (fun _ e => e ▸ lenB hl1)) ?_
  refine LW.rd hL rfl (Wants.free rfl) rfl (Rd.assign (v := .int .i64 n1) rfl) ?_
  refine LW.nil hL rfl ?_
  refine NW.then ?_
  refine CW.ret ?_
  exact res1 rfl rfl ⟨n1, rfl, h⟩
end Go.Proofs.YtfcfkhbkkfpehaaGreat
end
section
/- The document's shadow (pomanderref03): a list of sets. -/
namespace Go.Proofs.YtfcfkhbkkfpehaaGreat
open Go Go.RowKit Go.X
section
variable {w : World} {p : Option Addr} {n c : Nat} {g : Int → Int} {pages : Int}
def privL (g : Int → Int) (pages page : Int) : Bool := decide (0 ≤ page ∧ page < pages ∧ 0 < many (pg g page))
def pagesL (g : Int → Int) (pages : Int) (k : Nat) : Nat := (List.range k).countP fun i : Nat => privL g pages i
end
end Go.Proofs.YtfcfkhbkkfpehaaGreat
end
section
/- Shadows: Pages, Private; All. -/
namespace Go.Proofs.YtfcfkhbkkfpehaaGreat
open Go Go.RowKit Go.X Go.XR
theorem priv_look {w : World} {g : Int → Int} {pages : Int} {l : List (Int × Nat)} (h3 : ∀ x ∈ l, 0 ≤ x.1 ∧ x.1 < pages ∧ PageC w x.2 (many (pg g x.1)) (pg g x.1) ∧ 0 < many (pg g x.1)) (h4 : ∀ n, lookK n l = none → ∀ i, i < 64 → pg g n i = 0) (n : Int) :
  (lookK n l).isSome = privL g pages n := by
 cases h : lookK n l with
 | none => exact (decide_eq_false (by rw [many_none (h4 n h)]; omega)).symm
 | some q =>
  obtain ⟨a1, a2, _, a3⟩ := h3 _ (lookK_mem h)
  exact (decide_eq_true ⟨a1, a2, a3⟩).symm
theorem map_len {w : World} {r : Nat} {l : List (Int × Nat)} (h : MapIs w r (fun n : Int => .int .i64 n) encPg l) (T : TypeId) : (Builtin.len_ #[156] T #[.map (some r)]).run Tryz.prog w = .ok (.int .i64 (l.length : Int)) w := by
 obtain ⟨es, clk, hb, he, _⟩ := h
 have : es.size = l.length := by
  have := congrArg List.length he
  simpa using this
 simp [Builtin.len_, run_underlying u173, MapKept.run_getObj_map hb, Result.andThen, this, go_sem]
theorem pages_len {w : World} {g : Int → Int} {pages : Int} {l : List (Int × Nat)} (hn : (l.map Prod.fst).Nodup) (h3 : ∀ x ∈ l, 0 ≤ x.1 ∧ x.1 < pages ∧ PageC w x.2 (many (pg g x.1)) (pg g x.1) ∧ 0 < many (pg g x.1)) (h4 : ∀ n, lookK n l = none → ∀ i, i < 64 → pg g n i = 0) :
  l.length = pagesL g pages pages.toNat := by
 have hmem : ∀ n : Int, n ∈ l.map Prod.fst ↔ (lookK n l).isSome = true := fun n => by
  constructor
  ·intro h
   obtain ⟨x, hx, rfl⟩ := List.mem_map.1 h
   cases hl : lookK x.1 l with
   | none => exact absurd rfl (lookK_none.1 hl x hx)
   | some v => rfl
  ·intro h
   obtain ⟨v, hv⟩ := Option.isSome_iff_exists.1 h
   exact List.mem_map.2 ⟨(n, v), lookK_mem hv, rfl⟩
 have e1 : (l.map Prod.fst).mergeSort (fun x y => decide (x ≤ y)) = ((List.range pages.toNat).map (fun i : Nat => (i : Int))).filter fun n => (lookK n l).isSome := by
  refine sorted_ext (sort_strict hn) (List.Pairwise.filter _ ?_) fun n => ?_
  ·rw [List.pairwise_map]
   exact List.pairwise_lt_range.imp fun {a b} h => by omega
  ·rw [(List.mergeSort_perm _ _).mem_iff, hmem, List.mem_filter]
   constructor
   ·intro h
    obtain ⟨v, hv⟩ := Option.isSome_iff_exists.1 h
    have := h3 _ (lookK_mem hv)
    exact ⟨List.mem_map.2 ⟨n.toNat, List.mem_range.2 (by simp at this; omega), by simp at this; omega⟩, h⟩
   ·exact fun h => h.2
 have e2 := congrArg List.length e1
 rw [List.length_mergeSort, List.length_map, ← List.countP_eq_length_filter, List.countP_map] at e2
 rw [e2]
 unfold pagesL
 exact List.countP_congr fun i hi => by simp [priv_look h3 h4]
theorem shadow_pages {w : World} {b : Nat} {pages : Int} {g : Int → Int} {fp : List Nat} (h : ShadowAt w b pages g fp) :
  Calls Tryz.prog 74 #[.pointer (some ⟨b, 0, none⟩)] w fun e w' => ∃ r : Int, e = .returned (.int .i64 r) ∧ (r = pagesL g pages pages.toNat ∧ w' = w) := by
 obtain ⟨r, l, h1, h2, h3, h4, rfl⟩ := h.there
 refine go_shadow_Shadow_Pages _ _ _ ?_
 unfold W_shadow_Shadow_Pages
 refine (shadow_none h).mono ?_
 rintro _ w1 ⟨_, rfl, rfl, hw⟩
 subst w1
 refine ⟨_, rfl, fun h => by simp at h, fun _ => ⟨_, rfl, some r, by rw [add_at, cell_of h1]; rfl, _, map_len h2 _, ?_, rfl⟩⟩
 obtain ⟨_, _, _, _, hnd, _⟩ := h2
 rw [pages_len hnd h3 h4]
theorem shadow_all {w : World} {b : Nat} {pages : Int} {g : Int → Int} {fp : List Nat} (h : ShadowAt w b pages g fp) :
  Calls Tryz.prog 88 #[.pointer (some ⟨b, 0, none⟩)] w fun e w' => ∃ r : Value, e = .returned r ∧ ∃ cb b' fp', r = .func (.func 101) #[] #[.pointer (some ⟨cb, 0, none⟩)] ∧ w'.heap[cb]? = some (.cells #[.pointer (some ⟨b', 0, none⟩)] 98 (0, 0)) ∧ ShadowAt w' b' pages g fp' ∧ Chg [] w w' ∧ ∀ i ∈ cb :: fp', w.heap.size ≤ i := by
 refine go_shadow_Shadow_All _ _ _ ?_
 unfold W_shadow_Shadow_All
 refine v_alloc fun b1 w1 e1 hb1 c1 => ?_
 have s1 := c1.size
 have hl1 := lt_of_heap hb1
 refine ⟨_, by rw [cell_of hb1]; rfl, ?_⟩
 refine (shadow_copy (h.chg c1 (by simp))).mono ?_
 rintro _ w2 ⟨_, rfl, b', fp', rfl, hS, c2, hn⟩
 refine ⟨_, rfl, ?_⟩
 refine v_set0 (c2.obj (by simp) hb1) (by simp) fun w3 hb3 c3 s3 => ?_
 refine ⟨b1, b', fp', rfl, hb3, hS.chg c3 (fun i hi hm => by simp at hm; subst hm; have := hn _ hi; omega), (c1.trans0 c2).trans c3 (fun i hi hlt => by simp at hi; omega), ?_⟩
 intro i hi
 rcases List.mem_cons.1 hi with h | h
 ·omega
 ·have := hn i h; omega
end Go.Proofs.YtfcfkhbkkfpehaaGreat
end
section
namespace Go.Proofs.YtfcfkhbkkfpehaaGreat
open Go Go.X
end Go.Proofs.YtfcfkhbkkfpehaaGreat
end
section
/- pomanderlaw03: is. -/
namespace Go.Proofs.YtfcfkhbkkfpehaaGreat
open Go Go.RowKit Go.X Go.XR
theorem someL_succ (g : Int → Int) (k : Nat) : someL g (k + 1) = someL g k ++ if g k = 0 then [] else [((k : Int), g k)] := by
 unfold someL
 rw [List.range_succ, List.flatMap_append]
 simp
theorem someL_le (g : Int → Int) (k m : Nat) : ∃ s, someL g (k + m) = someL g k ++ s := ⟨_, someL_add g k m⟩
theorem someL_next {g : Int → Int} {n : Nat} {x s : Int} {suf : List (Int × Int)} : ∀ (m k : Nat), k + m = n → someL g k ++ (x, s) :: suf = someL g n →
  ∃ j : Nat, x = j ∧ k ≤ j ∧ j < n ∧ s = g j ∧ g j ≠ 0 ∧ (∀ i : Nat, k ≤ i → i < j → g i = 0) ∧ someL g (j + 1) = someL g k ++ [(x, s)]
 | 0, k, hk, h => by
  obtain rfl : k = n := by omega
  have := congrArg List.length h
  simp at this
 | m + 1, k, hk, h => by
  by_cases hz : g k = 0
  ·have e := someL_succ g k
   rw [if_pos hz, List.append_nil] at e
   rw [← e] at h
   obtain ⟨j, h1, h2, h3, h4, h5, h6, h7⟩ := someL_next m (k + 1) (by omega) h
   refine ⟨j, h1, by omega, h3, h4, h5, fun i hi hj => ?_, by rw [h7, e]⟩
   rcases Nat.lt_or_ge k i with h | h
   ·exact h6 i h hj
   ·obtain rfl : i = k := by omega
    exact hz
  ·have e := someL_succ g k
   rw [if_neg hz] at e
   obtain ⟨s', hs⟩ := someL_le g (k + 1) m
   rw [show k + 1 + m = n by omega, e, List.append_assoc] at hs
   rw [hs] at h
   have h' := List.append_cancel_left h
   simp at h'
   obtain ⟨⟨rfl, rfl⟩, rfl⟩ := h'
   exact ⟨k, rfl, Nat.le_refl _, by omega, rfl, hz, fun i hi hj => by omega, e⟩
end Go.Proofs.YtfcfkhbkkfpehaaGreat
end
section
namespace Go.Proofs.YtfcfkhbkkfpehaaGreat
open Go Go.X
/- (*pomander/flow.Flow).Copy -/
def W_flow_Flow_Copy (f1 : Option Addr) (w : World) (R : (Option Addr) → World → Prop) : Prop :=
 Calls Tryz.prog 43 #[.pointer f1] w fun e w1 => ∃ (r2 : Bool), e = .returned (.bool r2) ∧ ((r2 = true → R none w1) ∧ (r2 = false → ∀ (w2 : World), Chg [] w1 w2 → (∃ a1 : Addr, f1 = some a1 ∧ (∃ (t1 : Int) (t2 : Int), CellsAt w2 a1 0 [.int .i64 t1, .int .i64 t2] ∧ (∃ (t3 : Option Addr), w2.cell? (a1.add 2) = some (.pointer t3) ∧ (∃ (t4 : Option Addr), w2.cell? (a1.add 3) = some (.pointer t4) ∧ (∃ (t5 : Option Addr), w2.cell? (a1.add 4) = some (.pointer t5) ∧ (∃ (t6 : Option Nat), w2.cell? (a1.add 5) = some (.map t6) ∧ (Calls Tryz.prog 44 #[.pointer t3] w2 fun e w3 => ∃ (r3 : Option Addr), e = .returned (.pointer r3) ∧ ((CellsAt w3 a1 0 [.int .i64 t1, .int .i64 t2] ∧ w3.cell? (a1.add 2) = some (.pointer t3) ∧ w3.cell? (a1.add 3) = some (.pointer t4) ∧ w3.cell? (a1.add 4) = some (.pointer t5) ∧ w3.cell? (a1.add 5) = some (.map t6)) ∧ (Calls Tryz.prog 45 #[.pointer t4] w3 fun e w4 => ∃ (r4 : Option Addr), e = .returned (.pointer r4) ∧ ((CellsAt w4 a1 0 [.int .i64 t1, .int .i64 t2] ∧ w4.cell? (a1.add 2) = some (.pointer t3) ∧ w4.cell? (a1.add 3) = some (.pointer t4) ∧ w4.cell? (a1.add 4) = some (.pointer t5) ∧ w4.cell? (a1.add 5) = some (.map t6)) ∧ (Calls Tryz.prog 45 #[.pointer t5] w4 fun e w5 => ∃ (r5 : Option Addr), e = .returned (.pointer r5) ∧ ((CellsAt w5 a1 0 [.int .i64 t1, .int .i64 t2] ∧ w5.cell? (a1.add 2) = some (.pointer t3) ∧ w5.cell? (a1.add 3) = some (.pointer t4) ∧ w5.cell? (a1.add 4) = some (.pointer t5) ∧ w5.cell? (a1.add 5) = some (.map t6)) ∧ (Calls Tryz.prog 46 #[.map t6] w5 fun e w6 => ∃ (r6 : Option Nat), e = .returned (.map r6) ∧ ((CellsAt w6 a1 0 [.int .i64 t1, .int .i64 t2] ∧ w6.cell? (a1.add 2) = some (.pointer t3) ∧ w6.cell? (a1.add 3) = some (.pointer t4) ∧ w6.cell? (a1.add 4) = some (.pointer t5) ∧ w6.cell? (a1.add 5) = some (.map t6)) ∧ (∀ b1 : Nat, b1 = World.size w6 → ∀ w7 : World, w7 = World.alloc w6 (.cells #[.int .i64 t1, .int .i64 t2, .pointer r3, .pointer r4, .pointer r5, .map r6] 101) → (R (some (⟨b1, 0, none⟩ : Addr)) w7))))))))))))))))))
set_option maxRecDepth 100000 in
theorem go_flow_Flow_Copy (f1 : Option Addr) (w : World) (R : (Option Addr) → World → Prop) (h : W_flow_Flow_Copy f1 w R) : Calls Tryz.prog 15 #[.pointer f1] w (fun e w' => ∃ (r1 : Option Addr), e = .returned (.pointer r1) ∧ R r1 w') := by
 unfold W_flow_Flow_Copy at h
 refine enter (N := 31) Tryz.func15 rfl rfl ?_
 refine CW.seq ?_
 refine CW.region fun L hL => ?_
 refine LW.rd hL rfl (Wants.free rfl) rfl (Rd.assign (v := .pointer none) rfl) ?_
 refine LW.nil hL rfl ?_
 refine NW.then ?_
 refine CW.seq ?_
 refine CW.seq ?_
 refine CW.region fun L hL => ?_
 refine LW.rd hL rfl (Wants.free rfl) rfl (Rd.move (v := .pointer f1) rfl) ?_
 refine LW.call hL rfl (Wants.free rfl) rfl (Cl.fn (f := 43) rfl Tryz.func43 (by kernel_rfl) rfl) h (fun e w1 h_ => ?_)
 clear h
 obtain ⟨r2, rfl, h⟩ := h_
 refine ⟨_, rfl, ?_⟩
 refine LW.nil hL rfl ?_
 refine NW.then ?_
 refine CW.cond rfl (fun hb1 => ?_) (fun hb1 => ?_)
 ·replace h := h.1 hb1
  refine CW.seq ?_
  refine CW.region fun L hL => ?_
  refine LW.rd hL rfl (Wants.free rfl) rfl (Rd.assign (v := .pointer none) rfl) ?_
  refine LW.nil hL rfl ?_
  refine NW.then ?_
  refine CW.ret ?_
  refine RW.then ?_
  exact res1 rfl rfl ⟨none, rfl, h⟩
 ·replace h := h.2 hb1
  refine CW.skip ?_
  refine NW.then ?_
  refine CW.seq ?_
  obtain ⟨w2, hw_w2⟩ : ∃ x, x = World.drew w1 := ⟨_, rfl⟩
  have hc_w2 := sil_drew (Chg.refl [] w1) hw_w2
  replace h := h  w2  hc_w2
  obtain ⟨a1, ha1, h⟩ := h
  obtain ⟨t1, t2, hc1, h⟩ := h
  obtain ⟨t3, hc2, h⟩ := h
  obtain ⟨t4, hc3, h⟩ := h
  obtain ⟨t5, hc4, h⟩ := h
  obtain ⟨t6, hc5, h⟩ := h
  refine CW.drawn (fun w => CellsAt w a1 0 [.int .i64 t1, .int .i64 t2] ∧ w.cell? (a1.add 2) = some (.pointer t3) ∧ w.cell? (a1.add 3) = some (.pointer t4) ∧ w.cell? (a1.add 4) = some (.pointer t5) ∧ w.cell? (a1.add 5) = some (.map t6) ∧ True) 25 (by kernel_rfl) fun H hH => ?_
  rw [← hw_w2]
  have hS1 : CellsAt w2 a1 0 [.int .i64 t1, .int .i64 t2] ∧ w2.cell? (a1.add 2) = some (.pointer t3) ∧ w2.cell? (a1.add 3) = some (.pointer t4) ∧ w2.cell? (a1.add 4) = some (.pointer t5) ∧ w2.cell? (a1.add 5) = some (.map t6) ∧ True := ⟨hc1, hc2, hc3, hc4, hc5, trivial⟩
  refine HW.pure (i := 0) hH rfl (by kernel_rfl) (Wants.free rfl) rfl (fun _ => hS1) (Rd.move (v := .pointer f1) rfl) ?_
  refine HW.pure (i := 1) hH rfl (by kernel_rfl) (Wants.free rfl) rfl (fun _ => hS1) (Rd.nil (q := a1) (by rw [← ha1]; rfl)) ?_
  refine HW.pure (i := 2) hH rfl (by kernel_rfl) (Wants.free rfl) rfl (fun _ => hS1) (Rd.fa (v := .pointer (some a1)) rfl (fun _ => by kernel_rfl)) ?_
  refine HW.take (i := 3) hH rfl (by kernel_rfl) (by kernel_rfl) (Wants.free rfl) rfl (fun _ => hS1) (Rd.ldN (cs := [.int .i64 t1, .int .i64 t2]) rfl (by kernel_rfl) (by kernel_rfl) (fun w h => cellsAt_get h.1)) ?_
  refine HW.pure (i := 4) hH rfl (by kernel_rfl) (Wants.free rfl) rfl (fun _ => hS1) (Rd.move (v := .pointer f1) rfl) ?_
  refine HW.pure (i := 5) hH rfl (by kernel_rfl) (Wants.free rfl) rfl (fun _ => hS1) (Rd.nil (q := a1) (by rw [← ha1]; rfl)) ?_
  refine HW.pure (i := 6) hH rfl (by kernel_rfl) (Wants.free rfl) rfl (fun _ => hS1) (Rd.fa (v := .pointer (some (a1.add 2))) rfl (fun _ => by kernel_rfl)) ?_
  refine HW.take (i := 7) hH rfl (by kernel_rfl) (by kernel_rfl) (Wants.free rfl) rfl (fun _ => hS1) (Rd.ld (v := .pointer t3) rfl (by kernel_rfl) (fun w h => h.2.1)) ?_
  refine HW.pure (i := 9) hH rfl (by kernel_rfl) (Wants.free rfl) rfl (fun _ => hS1) (Rd.move (v := .pointer f1) rfl) ?_
  refine HW.pure (i := 10) hH rfl (by kernel_rfl) (Wants.free rfl) rfl (fun _ => hS1) (Rd.nil (q := a1) (by rw [← ha1]; rfl)) ?_
  refine HW.pure (i := 11) hH rfl (by kernel_rfl) (Wants.free rfl) rfl (fun _ => hS1) (Rd.fa (v := .pointer (some (a1.add 3))) rfl (fun _ => by kernel_rfl)) ?_
  refine HW.take (i := 12) hH rfl (by kernel_rfl) (by kernel_rfl) (Wants.free rfl) rfl (fun _ => hS1) (Rd.ld (v := .pointer t4) rfl (by kernel_rfl) (fun w h => h.2.2.1)) ?_
  refine HW.pure (i := 14) hH rfl (by kernel_rfl) (Wants.free rfl) rfl (fun _ => hS1) (Rd.move (v := .pointer f1) rfl) ?_
  refine HW.pure (i := 15) hH rfl (by kernel_rfl) (Wants.free rfl) rfl (fun _ => hS1) (Rd.nil (q := a1) (by rw [← ha1]; rfl)) ?_
  refine HW.pure (i := 16) hH rfl (by kernel_rfl) (Wants.free rfl) rfl (fun _ => hS1) (Rd.fa (v := .pointer (some (a1.add 4))) rfl (fun _ => by kernel_rfl)) ?_
  refine HW.take (i := 17) hH rfl (by kernel_rfl) (by kernel_rfl) (Wants.free rfl) rfl (fun _ => hS1) (Rd.ld (v := .pointer t5) rfl (by kernel_rfl) (fun w h => h.2.2.2.1)) ?_
  refine HW.pure (i := 19) hH rfl (by kernel_rfl) (Wants.free rfl) rfl (fun _ => hS1) (Rd.move (v := .pointer f1) rfl) ?_
  refine HW.pure (i := 20) hH rfl (by kernel_rfl) (Wants.free rfl) rfl (fun _ => hS1) (Rd.nil (q := a1) (by rw [← ha1]; rfl)) ?_
  refine HW.pure (i := 21) hH rfl (by kernel_rfl) (Wants.free rfl) rfl (fun _ => hS1) (Rd.fa (v := .pointer (some (a1.add 5))) rfl (fun _ => by kernel_rfl)) ?_
  refine HW.take (i := 22) hH rfl (by kernel_rfl) (by kernel_rfl) (Wants.free rfl) rfl (fun _ => hS1) (Rd.ld (v := .map t6) rfl (by kernel_rfl) (fun w h => h.2.2.2.2.1)) ?_
  refine HW.call (i := 8) hH (by kernel_rfl) rfl (Wants.free rfl) rfl (Cl.fn (f := 44) rfl Tryz.func44 (by kernel_rfl) rfl) h (fun e w3 h_ => ?_)
  clear h
  obtain ⟨r3, rfl, hS2, h⟩ := h_
  have hS3 := (⟨hS2.1, hS2.2.1, hS2.2.2.1, hS2.2.2.2.1, hS2.2.2.2.2, trivial⟩ : CellsAt w3 a1 0 [.int .i64 t1, .int .i64 t2] ∧ w3.cell? (a1.add 2) = some (.pointer t3) ∧ w3.cell? (a1.add 3) = some (.pointer t4) ∧ w3.cell? (a1.add 4) = some (.pointer t5) ∧ w3.cell? (a1.add 5) = some (.map t6) ∧ True)
  refine ⟨_, rfl, (fun _ => hS3), ?_⟩
  refine HW.call (i := 13) hH (by kernel_rfl) rfl (Wants.free rfl) rfl (Cl.fn (f := 45) rfl Tryz.func45 (by kernel_rfl) rfl) h (fun e w4 h_ => ?_)
  clear h
  obtain ⟨r4, rfl, hS4, h⟩ := h_
  have hS5 := (⟨hS4.1, hS4.2.1, hS4.2.2.1, hS4.2.2.2.1, hS4.2.2.2.2, trivial⟩ : CellsAt w4 a1 0 [.int .i64 t1, .int .i64 t2] ∧ w4.cell? (a1.add 2) = some (.pointer t3) ∧ w4.cell? (a1.add 3) = some (.pointer t4) ∧ w4.cell? (a1.add 4) = some (.pointer t5) ∧ w4.cell? (a1.add 5) = some (.map t6) ∧ True)
  refine ⟨_, rfl, (fun _ => hS5), ?_⟩
  refine HW.call (i := 18) hH (by kernel_rfl) rfl (Wants.free rfl) rfl (Cl.fn (f := 45) rfl Tryz.func45 (by kernel_rfl) rfl) h (fun e w5 h_ => ?_)
  clear h
  obtain ⟨r5, rfl, hS6, h⟩ := h_
  have hS7 := (⟨hS6.1, hS6.2.1, hS6.2.2.1, hS6.2.2.2.1, hS6.2.2.2.2, trivial⟩ : CellsAt w5 a1 0 [.int .i64 t1, .int .i64 t2] ∧ w5.cell? (a1.add 2) = some (.pointer t3) ∧ w5.cell? (a1.add 3) = some (.pointer t4) ∧ w5.cell? (a1.add 4) = some (.pointer t5) ∧ w5.cell? (a1.add 5) = some (.map t6) ∧ True)
  refine ⟨_, rfl, (fun _ => hS7), ?_⟩
  refine HW.call (i := 23) hH (by kernel_rfl) rfl (Wants.free rfl) rfl (Cl.fn (f := 46) rfl Tryz.func46 (by kernel_rfl) rfl) h (fun e w6 h_ => ?_)
  clear h
  obtain ⟨r6, rfl, hS8, h⟩ := h_
  have hS9 := (⟨hS8.1, hS8.2.1, hS8.2.2.1, hS8.2.2.2.1, hS8.2.2.2.2, trivial⟩ : CellsAt w6 a1 0 [.int .i64 t1, .int .i64 t2] ∧ w6.cell? (a1.add 2) = some (.pointer t3) ∧ w6.cell? (a1.add 3) = some (.pointer t4) ∧ w6.cell? (a1.add 4) = some (.pointer t5) ∧ w6.cell? (a1.add 5) = some (.map t6) ∧ True)
  refine ⟨_, rfl, (fun _ => hS9), ?_⟩
  refine HW.pure (i := 24) hH rfl (by kernel_rfl) (Wants.free rfl) rfl (fun _ => hS9) (Rd.build (v := .agg #[.int .i64 t1, .int .i64 t2, .pointer r3, .pointer r4, .pointer r5, .map r6]) rfl (fun _ => by kernel_rfl)) ?_
  obtain ⟨b1, hb_b1⟩ : ∃ b1, b1 = World.size w6 := ⟨_, rfl⟩
  obtain ⟨w7, hw_w7⟩ : ∃ w7, w7 = World.alloc w6 (.cells #[.int .i64 t1, .int .i64 t2, .pointer r3, .pointer r4, .pointer r5, .map r6] 101) := ⟨_, rfl⟩
  replace h := h b1 hb_b1 w7 hw_w7
  refine HW.val (i := 25) hH (by kernel_rfl) rfl (Wants.free rfl) rfl (boxE hb_b1 hw_w7 (Vl.box (v := .agg #[.int .i64 t1, .int .i64 t2, .pointer r3, .pointer r4, .pointer r5, .map r6]) rfl)) (fun hc => by cases hc) ?_
  refine HW.pure (i := 26) hH rfl (by kernel_rfl) (Wants.free rfl) rfl (fun hc => by cases hc) (Rd.assign (v := .pointer (some (⟨b1, 0, none⟩ : Addr))) rfl) ?_
  refine HW.done hH (by kernel_rfl) ?_
  refine NW.then ?_
  refine CW.ret ?_
  exact res1 rfl rfl ⟨some (⟨b1, 0, none⟩ : Addr), rfl, h⟩
/- (*pomander/labels.Table).Copy -/
def W_labels_Table_Copy (t1 : Option Addr) (w : World) (R : (Option Addr) → World → Prop) : Prop :=
 Calls Tryz.prog 77 #[.pointer t1] w fun e w1 => ∃ (r2 : Bool), e = .returned (.bool r2) ∧ ((r2 = true → R none w1) ∧ (r2 = false → ∀ (w2 : World), Chg [] w1 w2 → (∃ a1 : Addr, t1 = some a1 ∧ (∃ (t2 : Int), w2.cell? a1 = some (.int .i64 t2) ∧ (∃ (t3 : Option Addr) (t3n : Nat) (t3c : Nat), w2.cell? (a1.add 1) = some (.slice t3 t3n t3c) ∧ (∃ (t4 : Option Nat), w2.cell? (a1.add 2) = some (.map t4) ∧ (∃ (t5 : Option Nat), w2.cell? (a1.add 3) = some (.map t5) ∧ (Calls Tryz.prog 78 #[.slice t3 t3n t3c] w2 fun e w3 => ∃ (r3 : Option Addr) (r3n : Nat) (r3c : Nat), e = .returned (.slice r3 r3n r3c) ∧ ((w3.cell? a1 = some (.int .i64 t2) ∧ w3.cell? (a1.add 1) = some (.slice t3 t3n t3c) ∧ w3.cell? (a1.add 2) = some (.map t4) ∧ w3.cell? (a1.add 3) = some (.map t5)) ∧ (Calls Tryz.prog 79 #[.map t4] w3 fun e w4 => ∃ (r4 : Option Nat), e = .returned (.map r4) ∧ ((w4.cell? a1 = some (.int .i64 t2) ∧ w4.cell? (a1.add 1) = some (.slice t3 t3n t3c) ∧ w4.cell? (a1.add 2) = some (.map t4) ∧ w4.cell? (a1.add 3) = some (.map t5)) ∧ (Calls Tryz.prog 80 #[.map t5] w4 fun e w5 => ∃ (r5 : Option Nat), e = .returned (.map r5) ∧ ((w5.cell? a1 = some (.int .i64 t2) ∧ w5.cell? (a1.add 1) = some (.slice t3 t3n t3c) ∧ w5.cell? (a1.add 2) = some (.map t4) ∧ w5.cell? (a1.add 3) = some (.map t5)) ∧ (∀ b1 : Nat, b1 = World.size w5 → ∀ w6 : World, w6 = World.alloc w5 (.cells #[.int .i64 t2, .slice r3 r3n r3c, .map r4, .map r5] 150) → (R (some (⟨b1, 0, none⟩ : Addr)) w6)))))))))))))))
set_option maxRecDepth 100000 in
theorem go_labels_Table_Copy (t1 : Option Addr) (w : World) (R : (Option Addr) → World → Prop) (h : W_labels_Table_Copy t1 w R) : Calls Tryz.prog 44 #[.pointer t1] w (fun e w' => ∃ (r1 : Option Addr), e = .returned (.pointer r1) ∧ R r1 w') := by
 unfold W_labels_Table_Copy at h
 refine enter (N := 26) Tryz.func44 rfl rfl ?_
 refine CW.seq ?_
 refine CW.region fun L hL => ?_
 refine LW.rd hL rfl (Wants.free rfl) rfl (Rd.assign (v := .pointer none) rfl) ?_
 refine LW.nil hL rfl ?_
 refine NW.then ?_
 refine CW.seq ?_
 refine CW.seq ?_
 refine CW.region fun L hL => ?_
 refine LW.rd hL rfl (Wants.free rfl) rfl (Rd.move (v := .pointer t1) rfl) ?_
 refine LW.call hL rfl (Wants.free rfl) rfl (Cl.fn (f := 77) rfl Tryz.func77 (by kernel_rfl) rfl) h (fun e w1 h_ => ?_)
 clear h
 obtain ⟨r2, rfl, h⟩ := h_
 refine ⟨_, rfl, ?_⟩
 refine LW.nil hL rfl ?_
 refine NW.then ?_
 refine CW.cond rfl (fun hb1 => ?_) (fun hb1 => ?_)
 ·replace h := h.1 hb1
  refine CW.seq ?_
  refine CW.region fun L hL => ?_
  refine LW.rd hL rfl (Wants.free rfl) rfl (Rd.assign (v := .pointer none) rfl) ?_
  refine LW.nil hL rfl ?_
  refine NW.then ?_
  refine CW.ret ?_
  refine RW.then ?_
  exact res1 rfl rfl ⟨none, rfl, h⟩
 ·replace h := h.2 hb1
  refine CW.skip ?_
  refine NW.then ?_
  refine CW.seq ?_
  obtain ⟨w2, hw_w2⟩ : ∃ x, x = World.drew w1 := ⟨_, rfl⟩
  have hc_w2 := sil_drew (Chg.refl [] w1) hw_w2
  replace h := h  w2  hc_w2
  obtain ⟨a1, ha1, h⟩ := h
  obtain ⟨t2, hc1, h⟩ := h
  obtain ⟨t3, t3n, t3c, hc2, h⟩ := h
  obtain ⟨t4, hc3, h⟩ := h
  obtain ⟨t5, hc4, h⟩ := h
  refine CW.drawn (fun w => w.cell? a1 = some (.int .i64 t2) ∧ w.cell? (a1.add 1) = some (.slice t3 t3n t3c) ∧ w.cell? (a1.add 2) = some (.map t4) ∧ w.cell? (a1.add 3) = some (.map t5) ∧ True) 20 (by kernel_rfl) fun H hH => ?_
  rw [← hw_w2]
  have hS1 : w2.cell? a1 = some (.int .i64 t2) ∧ w2.cell? (a1.add 1) = some (.slice t3 t3n t3c) ∧ w2.cell? (a1.add 2) = some (.map t4) ∧ w2.cell? (a1.add 3) = some (.map t5) ∧ True := ⟨hc1, hc2, hc3, hc4, trivial⟩
  refine HW.pure (i := 0) hH rfl (by kernel_rfl) (Wants.free rfl) rfl (fun _ => hS1) (Rd.move (v := .pointer t1) rfl) ?_
  refine HW.pure (i := 1) hH rfl (by kernel_rfl) (Wants.free rfl) rfl (fun _ => hS1) (Rd.nil (q := a1) (by rw [← ha1]; rfl)) ?_
  refine HW.pure (i := 2) hH rfl (by kernel_rfl) (Wants.free rfl) rfl (fun _ => hS1) (Rd.fa (v := .pointer (some a1)) rfl (fun _ => by kernel_rfl)) ?_
  refine HW.take (i := 3) hH rfl (by kernel_rfl) (by kernel_rfl) (Wants.free rfl) rfl (fun _ => hS1) (Rd.ld (v := .int .i64 t2) rfl (by kernel_rfl) (fun w h => h.1)) ?_
  refine HW.pure (i := 4) hH rfl (by kernel_rfl) (Wants.free rfl) rfl (fun _ => hS1) (Rd.move (v := .pointer t1) rfl) ?_
  refine HW.pure (i := 5) hH rfl (by kernel_rfl) (Wants.free rfl) rfl (fun _ => hS1) (Rd.nil (q := a1) (by rw [← ha1]; rfl)) ?_
  refine HW.pure (i := 6) hH rfl (by kernel_rfl) (Wants.free rfl) rfl (fun _ => hS1) (Rd.fa (v := .pointer (some (a1.add 1))) rfl (fun _ => by kernel_rfl)) ?_
  refine HW.take (i := 7) hH rfl (by kernel_rfl) (by kernel_rfl) (Wants.free rfl) rfl (fun _ => hS1) (Rd.ld (v := .slice t3 t3n t3c) rfl (by kernel_rfl) (fun w h => h.2.1)) ?_
  refine HW.pure (i := 9) hH rfl (by kernel_rfl) (Wants.free rfl) rfl (fun _ => hS1) (Rd.move (v := .pointer t1) rfl) ?_
  refine HW.pure (i := 10) hH rfl (by kernel_rfl) (Wants.free rfl) rfl (fun _ => hS1) (Rd.nil (q := a1) (by rw [← ha1]; rfl)) ?_
  refine HW.pure (i := 11) hH rfl (by kernel_rfl) (Wants.free rfl) rfl (fun _ => hS1) (Rd.fa (v := .pointer (some (a1.add 2))) rfl (fun _ => by kernel_rfl)) ?_
  refine HW.take (i := 12) hH rfl (by kernel_rfl) (by kernel_rfl) (Wants.free rfl) rfl (fun _ => hS1) (Rd.ld (v := .map t4) rfl (by kernel_rfl) (fun w h => h.2.2.1)) ?_
  refine HW.pure (i := 14) hH rfl (by kernel_rfl) (Wants.free rfl) rfl (fun _ => hS1) (Rd.move (v := .pointer t1) rfl) ?_
  refine HW.pure (i := 15) hH rfl (by kernel_rfl) (Wants.free rfl) rfl (fun _ => hS1) (Rd.nil (q := a1) (by rw [← ha1]; rfl)) ?_
  refine HW.pure (i := 16) hH rfl (by kernel_rfl) (Wants.free rfl) rfl (fun _ => hS1) (Rd.fa (v := .pointer (some (a1.add 3))) rfl (fun _ => by kernel_rfl)) ?_
  refine HW.take (i := 17) hH rfl (by kernel_rfl) (by kernel_rfl) (Wants.free rfl) rfl (fun _ => hS1) (Rd.ld (v := .map t5) rfl (by kernel_rfl) (fun w h => h.2.2.2.1)) ?_
  refine HW.call (i := 8) hH (by kernel_rfl) rfl (Wants.free rfl) rfl (Cl.fn (f := 78) rfl Tryz.func78 (by kernel_rfl) rfl) h (fun e w3 h_ => ?_)
  clear h
  obtain ⟨r3, r3n, r3c, rfl, hS2, h⟩ := h_
  have hS3 := (⟨hS2.1, hS2.2.1, hS2.2.2.1, hS2.2.2.2, trivial⟩ : w3.cell? a1 = some (.int .i64 t2) ∧ w3.cell? (a1.add 1) = some (.slice t3 t3n t3c) ∧ w3.cell? (a1.add 2) = some (.map t4) ∧ w3.cell? (a1.add 3) = some (.map t5) ∧ True)
  refine ⟨_, rfl, (fun _ => hS3), ?_⟩
  refine HW.call (i := 13) hH (by kernel_rfl) rfl (Wants.free rfl) rfl (Cl.fn (f := 79) rfl Tryz.func79 (by kernel_rfl) rfl) h (fun e w4 h_ => ?_)
  clear h
  obtain ⟨r4, rfl, hS4, h⟩ := h_
  have hS5 := (⟨hS4.1, hS4.2.1, hS4.2.2.1, hS4.2.2.2, trivial⟩ : w4.cell? a1 = some (.int .i64 t2) ∧ w4.cell? (a1.add 1) = some (.slice t3 t3n t3c) ∧ w4.cell? (a1.add 2) = some (.map t4) ∧ w4.cell? (a1.add 3) = some (.map t5) ∧ True)
  refine ⟨_, rfl, (fun _ => hS5), ?_⟩
  refine HW.call (i := 18) hH (by kernel_rfl) rfl (Wants.free rfl) rfl (Cl.fn (f := 80) rfl Tryz.func80 (by kernel_rfl) rfl) h (fun e w5 h_ => ?_)
  clear h
  obtain ⟨r5, rfl, hS6, h⟩ := h_
  have hS7 := (⟨hS6.1, hS6.2.1, hS6.2.2.1, hS6.2.2.2, trivial⟩ : w5.cell? a1 = some (.int .i64 t2) ∧ w5.cell? (a1.add 1) = some (.slice t3 t3n t3c) ∧ w5.cell? (a1.add 2) = some (.map t4) ∧ w5.cell? (a1.add 3) = some (.map t5) ∧ True)
  refine ⟨_, rfl, (fun _ => hS7), ?_⟩
  refine HW.pure (i := 19) hH rfl (by kernel_rfl) (Wants.free rfl) rfl (fun _ => hS7) (Rd.build (v := .agg #[.int .i64 t2, .slice r3 r3n r3c, .map r4, .map r5]) rfl (fun _ => by kernel_rfl)) ?_
  obtain ⟨b1, hb_b1⟩ : ∃ b1, b1 = World.size w5 := ⟨_, rfl⟩
  obtain ⟨w6, hw_w6⟩ : ∃ w6, w6 = World.alloc w5 (.cells #[.int .i64 t2, .slice r3 r3n r3c, .map r4, .map r5] 150) := ⟨_, rfl⟩
  replace h := h b1 hb_b1 w6 hw_w6
  refine HW.val (i := 20) hH (by kernel_rfl) rfl (Wants.free rfl) rfl (boxE hb_b1 hw_w6 (Vl.box (v := .agg #[.int .i64 t2, .slice r3 r3n r3c, .map r4, .map r5]) rfl)) (fun hc => by cases hc) ?_
  refine HW.pure (i := 21) hH rfl (by kernel_rfl) (Wants.free rfl) rfl (fun hc => by cases hc) (Rd.assign (v := .pointer (some (⟨b1, 0, none⟩ : Addr))) rfl) ?_
  refine HW.done hH (by kernel_rfl) ?_
  refine NW.then ?_
  refine CW.ret ?_
  exact res1 rfl rfl ⟨some (⟨b1, 0, none⟩ : Addr), rfl, h⟩
end Go.Proofs.YtfcfkhbkkfpehaaGreat
end
section
namespace Go.Proofs.YtfcfkhbkkfpehaaGreat
open Go Go.X
/- maps.Clone[map[pomander/api.Place]uint32,pomander/api.Place,uint32] -/
def W_maps_Clone_134 (m1 : Option Nat) (w : World) (R : (Option Nat) → World → Prop) : Prop :=
 ((Option.isNone m1) = true → R none w) ∧ ((Option.isNone m1) = false → ∃ (r2 : Value) (w1 : World), (callFunc 83 #[(.iface 99 (.map m1))]).run Tryz.prog w = .ok (.value (r2)) w1 ∧ (∃ (x1 : Option Nat), (∀ w : World, (Instr.typeAssert (r2) 20 99 false).run Tryz.prog w = .ok (.map x1) w) ∧ (R x1 w1)))
set_option maxRecDepth 100000 in
theorem go_maps_Clone_134 (m1 : Option Nat) (w : World) (R : (Option Nat) → World → Prop) (h : W_maps_Clone_134 m1 w R) : Calls Tryz.prog 46 #[.map m1] w (fun e w' => ∃ (r1 : Option Nat), e = .returned (.map r1) ∧ R r1 w') := by
 unfold W_maps_Clone_134 at h
 refine enter (N := 9) Tryz.func46 rfl rfl ?_
 refine CW.seq ?_
 refine CW.region fun L hL => ?_
 refine LW.rd hL rfl (Wants.free rfl) rfl (Rd.assign (v := .map none) rfl) ?_
 refine LW.nil hL rfl ?_
 refine NW.then ?_
 refine CW.seq ?_
 refine CW.seq ?_
 refine CW.region fun L hL => ?_
 refine LW.rd hL rfl (Wants.free rfl) rfl (Rd.move (v := .map m1) rfl) ?_
 refine LW.rd hL rfl (Wants.free rfl) rfl (Rd.bin (v := .bool (Option.isNone m1)) rfl rfl (fun w => map_nil_eq (by kernel_rfl) m1 w)) ?_
 refine LW.nil hL rfl ?_
 refine NW.then ?_
 refine CW.cond rfl (fun hb1 => ?_) (fun hb1 => ?_)
 ·replace h := h.1 hb1
  refine CW.seq ?_
  refine CW.region fun L hL => ?_
  refine LW.rd hL rfl (Wants.free rfl) rfl (Rd.assign (v := .map none) rfl) ?_
  refine LW.nil hL rfl ?_
  refine NW.then ?_
  refine CW.ret ?_
  refine RW.then ?_
  exact res1 rfl rfl ⟨none, rfl, h⟩
 ·replace h := h.2 hb1
  refine CW.skip ?_
  refine NW.then ?_
  refine CW.seq ?_
  refine CW.region fun L hL => ?_
  refine LW.rd hL rfl (Wants.free rfl) rfl (Rd.move (v := .map m1) rfl) ?_
  refine LW.rd hL rfl (Wants.free rfl) rfl (Rd.makeInterface (v := .iface 99 (.map m1)) rfl (fun _ => by kernel_rfl)) ?_
  obtain ⟨r2, w1, hx1, h⟩ := h
  refine LW.val hL rfl (Wants.free rfl) rfl (Vl.extern (v := r2) rfl hx1) ?_
  obtain ⟨x1, hx2, h⟩ := h
  refine LW.rd hL rfl (Wants.free rfl) rfl (Rd.typeAssert (v := .map x1) rfl hx2) ?_
  refine LW.rd hL rfl (Wants.free rfl) rfl (Rd.assign (v := .map x1) rfl) ?_
  refine LW.nil hL rfl ?_
  refine NW.then ?_
  refine CW.ret ?_
  exact res1 rfl rfl ⟨x1, rfl, h⟩
/- maps.Clone[map[uint32]int,uint32,int] -/
def W_maps_Clone_416 (m1 : Option Nat) (w : World) (R : (Option Nat) → World → Prop) : Prop :=
 ((Option.isNone m1) = true → R none w) ∧ ((Option.isNone m1) = false → ∃ (r2 : Value) (w1 : World), (callFunc 83 #[(.iface 147 (.map m1))]).run Tryz.prog w = .ok (.value (r2)) w1 ∧ (∃ (x1 : Option Nat), (∀ w : World, (Instr.typeAssert (r2) 20 147 false).run Tryz.prog w = .ok (.map x1) w) ∧ (R x1 w1)))
set_option maxRecDepth 100000 in
theorem go_maps_Clone_416 (m1 : Option Nat) (w : World) (R : (Option Nat) → World → Prop) (h : W_maps_Clone_416 m1 w R) : Calls Tryz.prog 79 #[.map m1] w (fun e w' => ∃ (r1 : Option Nat), e = .returned (.map r1) ∧ R r1 w') := by
 unfold W_maps_Clone_416 at h
 refine enter (N := 9) Tryz.func79 rfl rfl ?_
 refine CW.seq ?_
 refine CW.region fun L hL => ?_
 refine LW.rd hL rfl (Wants.free rfl) rfl (Rd.assign (v := .map none) rfl) ?_
 refine LW.nil hL rfl ?_
 refine NW.then ?_
 refine CW.seq ?_
 refine CW.seq ?_
 refine CW.region fun L hL => ?_
 refine LW.rd hL rfl (Wants.free rfl) rfl (Rd.move (v := .map m1) rfl) ?_
 refine LW.rd hL rfl (Wants.free rfl) rfl (Rd.bin (v := .bool (Option.isNone m1)) rfl rfl (fun w => map_nil_eq (by kernel_rfl) m1 w)) ?_
 refine LW.nil hL rfl ?_
 refine NW.then ?_
 refine CW.cond rfl (fun hb1 => ?_) (fun hb1 => ?_)
 ·replace h := h.1 hb1
  refine CW.seq ?_
  refine CW.region fun L hL => ?_
  refine LW.rd hL rfl (Wants.free rfl) rfl (Rd.assign (v := .map none) rfl) ?_
  refine LW.nil hL rfl ?_
  refine NW.then ?_
  refine CW.ret ?_
  refine RW.then ?_
  exact res1 rfl rfl ⟨none, rfl, h⟩
 ·replace h := h.2 hb1
  refine CW.skip ?_
  refine NW.then ?_
  refine CW.seq ?_
  refine CW.region fun L hL => ?_
  refine LW.rd hL rfl (Wants.free rfl) rfl (Rd.move (v := .map m1) rfl) ?_
  refine LW.rd hL rfl (Wants.free rfl) rfl (Rd.makeInterface (v := .iface 147 (.map m1)) rfl (fun _ => by kernel_rfl)) ?_
  obtain ⟨r2, w1, hx1, h⟩ := h
  refine LW.val hL rfl (Wants.free rfl) rfl (Vl.extern (v := r2) rfl hx1) ?_
  obtain ⟨x1, hx2, h⟩ := h
  refine LW.rd hL rfl (Wants.free rfl) rfl (Rd.typeAssert (v := .map x1) rfl hx2) ?_
  refine LW.rd hL rfl (Wants.free rfl) rfl (Rd.assign (v := .map x1) rfl) ?_
  refine LW.nil hL rfl ?_
  refine NW.then ?_
  refine CW.ret ?_
  exact res1 rfl rfl ⟨x1, rfl, h⟩
/- maps.Clone[map[pomander/labels.pair]int,pomander/labels.pair,int] -/
def W_maps_Clone_413 (m1 : Option Nat) (w : World) (R : (Option Nat) → World → Prop) : Prop :=
 ((Option.isNone m1) = true → R none w) ∧ ((Option.isNone m1) = false → ∃ (r2 : Value) (w1 : World), (callFunc 83 #[(.iface 148 (.map m1))]).run Tryz.prog w = .ok (.value (r2)) w1 ∧ (∃ (x1 : Option Nat), (∀ w : World, (Instr.typeAssert (r2) 20 148 false).run Tryz.prog w = .ok (.map x1) w) ∧ (R x1 w1)))
set_option maxRecDepth 100000 in
theorem go_maps_Clone_413 (m1 : Option Nat) (w : World) (R : (Option Nat) → World → Prop) (h : W_maps_Clone_413 m1 w R) : Calls Tryz.prog 80 #[.map m1] w (fun e w' => ∃ (r1 : Option Nat), e = .returned (.map r1) ∧ R r1 w') := by
 unfold W_maps_Clone_413 at h
 refine enter (N := 9) Tryz.func80 rfl rfl ?_
 refine CW.seq ?_
 refine CW.region fun L hL => ?_
 refine LW.rd hL rfl (Wants.free rfl) rfl (Rd.assign (v := .map none) rfl) ?_
 refine LW.nil hL rfl ?_
 refine NW.then ?_
 refine CW.seq ?_
 refine CW.seq ?_
 refine CW.region fun L hL => ?_
 refine LW.rd hL rfl (Wants.free rfl) rfl (Rd.move (v := .map m1) rfl) ?_
 refine LW.rd hL rfl (Wants.free rfl) rfl (Rd.bin (v := .bool (Option.isNone m1)) rfl rfl (fun w => map_nil_eq (by kernel_rfl) m1 w)) ?_
 refine LW.nil hL rfl ?_
 refine NW.then ?_
 refine CW.cond rfl (fun hb1 => ?_) (fun hb1 => ?_)
 ·replace h := h.1 hb1
  refine CW.seq ?_
  refine CW.region fun L hL => ?_
  refine LW.rd hL rfl (Wants.free rfl) rfl (Rd.assign (v := .map none) rfl) ?_
  refine LW.nil hL rfl ?_
  refine NW.then ?_
  refine CW.ret ?_
  refine RW.then ?_
  exact res1 rfl rfl ⟨none, rfl, h⟩
 ·replace h := h.2 hb1
  refine CW.skip ?_
  refine NW.then ?_
  refine CW.seq ?_
  refine CW.region fun L hL => ?_
  refine LW.rd hL rfl (Wants.free rfl) rfl (Rd.move (v := .map m1) rfl) ?_
  refine LW.rd hL rfl (Wants.free rfl) rfl (Rd.makeInterface (v := .iface 148 (.map m1)) rfl (fun _ => by kernel_rfl)) ?_
  obtain ⟨r2, w1, hx1, h⟩ := h
  refine LW.val hL rfl (Wants.free rfl) rfl (Vl.extern (v := r2) rfl hx1) ?_
  obtain ⟨x1, hx2, h⟩ := h
  refine LW.rd hL rfl (Wants.free rfl) rfl (Rd.typeAssert (v := .map x1) rfl hx2) ?_
  refine LW.rd hL rfl (Wants.free rfl) rfl (Rd.assign (v := .map x1) rfl) ?_
  refine LW.nil hL rfl ?_
  refine NW.then ?_
  refine CW.ret ?_
  exact res1 rfl rfl ⟨x1, rfl, h⟩
/- slices.Clone[[]uint32,uint32] -/
def W_slices_Clone_334 (s1 : Option Addr) (s1n : Nat) (s1c : Nat) (w : World) (R : (Option Addr) → Nat → Nat → World → Prop) : Prop :=
 ∃ (t1 : Bool), (∀ w : World, ((do eqGuard .eql 38 (.tmp 3) (.const (.slice none 0 0)) (.slice s1 s1n s1c) (.slice none 0 0); binOp .eql 38 (.slice s1 s1n s1c) (.slice none 0 0) : Sem Value)).run Tryz.prog w = .ok (.bool t1) w) ∧ ((t1 = true → R none 0 0 w) ∧ (t1 = false → ∀ b1 : Nat, b1 = World.size w → ∀ w1 : World, w1 = World.alloc w (.cells #[] 22) → (∃ (l1 : Option Addr) (l1n : Nat) (l1c : Nat) (w2 : World), (Builtin.append_ #[38, 38] 38 #[.slice (some (⟨b1, 0, none⟩ : Addr)) 0 0, .slice s1 s1n s1c]).run Tryz.prog w1 = .ok (.slice l1 l1n l1c) w2 ∧ (R l1 l1n l1c w2))))
set_option maxRecDepth 100000 in
theorem go_slices_Clone_334 (s1 : Option Addr) (s1n : Nat) (s1c : Nat) (w : World) (R : (Option Addr) → Nat → Nat → World → Prop) (h : W_slices_Clone_334 s1 s1n s1c w R) : Calls Tryz.prog 78 #[.slice s1 s1n s1c] w (fun e w' => ∃ (r1 : Option Addr) (r1n : Nat) (r1c : Nat), e = .returned (.slice r1 r1n r1c) ∧ R r1 r1n r1c w') := by
 unfold W_slices_Clone_334 at h
 refine enter (N := 8) Tryz.func78 rfl rfl ?_
 refine CW.seq ?_
 refine CW.region fun L hL => ?_
 refine LW.rd hL rfl (Wants.free rfl) rfl (Rd.assign (v := .slice none 0 0) rfl) ?_
 refine LW.nil hL rfl ?_
 refine NW.then ?_
 refine CW.seq ?_
 refine CW.seq ?_
 refine CW.region fun L hL => ?_
 refine LW.rd hL rfl (Wants.free rfl) rfl (Rd.move (v := .slice s1 s1n s1c) rfl) ?_
 obtain ⟨t1, hx1, h⟩ := h
 refine LW.rd hL rfl (Wants.free rfl) rfl (Rd.bin (v := .bool t1) rfl rfl hx1) ?_
 refine LW.nil hL rfl ?_
 refine NW.then ?_
 refine CW.cond rfl (fun hb1 => ?_) (fun hb1 => ?_)
 ·replace h := h.1 hb1
  refine CW.seq ?_
  refine CW.region fun L hL => ?_
  refine LW.rd hL rfl (Wants.free rfl) rfl (Rd.assign (v := .slice none 0 0) rfl) ?_
  refine LW.nil hL rfl ?_
  refine NW.then ?_
  refine CW.ret ?_
  refine RW.then ?_
  exact res1 rfl rfl ⟨none, 0, 0, rfl, h⟩
 ·replace h := h.2 hb1
  refine CW.skip ?_
  refine NW.then ?_
  refine CW.seq ?_
  refine CW.region fun L hL => ?_
  obtain ⟨b1, hb_b1⟩ : ∃ b1, b1 = World.size w := ⟨_, rfl⟩
  obtain ⟨w1, hw_w1⟩ : ∃ w1, w1 = World.alloc w (.cells #[] 22) := ⟨_, rfl⟩
  replace h := h b1 hb_b1 w1 hw_w1
  refine LW.val hL rfl (Wants.free rfl) rfl (sliceE (n := 0) hb_b1 hw_w1 (fun w => Vl.buildSlice (vs := []) rfl (by kernel_rfl))) ?_
  refine LW.rd hL rfl (Wants.free rfl) rfl (Rd.move (v := .slice s1 s1n s1c) rfl) ?_
  obtain ⟨l1, l1n, l1c, w2, ha1, h⟩ := h
  refine LW.val hL rfl (Wants.free rfl) rfl (Vl.builtin (v := .slice l1 l1n l1c) rfl (valB ha1)) ?_
  refine LW.rd hL rfl (Wants.free rfl) rfl (Rd.assign (v := .slice l1 l1n l1c) rfl) ?_
  refine LW.nil hL rfl ?_
  refine NW.then ?_
  refine CW.ret ?_
  exact res1 rfl rfl ⟨l1, l1n, l1c, rfl, h⟩
end Go.Proofs.YtfcfkhbkkfpehaaGreat
end
