/- Texts of the claim, merged: Y12c Y12d Y12e Y12f Y11c Y11d Y11e Y13 YTab Y14. -/
import Derived.Test.YtlboclmdfkllnaaGreatDoorXK3
import Derived.RecoverIn
import Derived.Test.YtlboclmdfkllnaaGreatDoorProg
set_option linter.unusedSectionVars false
set_option linter.unusedSimpArgs false
set_option linter.unusedVariables false
set_option maxRecDepth 100000
section
/- Regions that draw their order: the invariant. -/
namespace Go.Y
open Go Go.RowKit Go.X
structure DF (P : Program) (N : Nat) (live : List Nat) (ops : Array Oper) (src an : Tr Nat) (ks : Tr DK) : Prop where
 srcO : ∀ (j : Nat) (o : Oper) (d : Nat), ops[j]? = some o → o.dst = some d → src.get d = some j
 srcI : ∀ d j, src.get d = some j → ∃ o, ops[j]? = some o ∧ o.dst = some d
 anc : ∀ (j : Nat) (o : Oper) (k : Nat), ops[j]? = some o → (bt (anOf an j) k = true ↔ ∃ e ∈ o.after, Region.binds .any e = true ∧ (k = e.on ∨ (e.on < j ∧ bt (anOf an e.on) k = true)))
 dstO : ∀ (j : Nat) (o : Oper), ops[j]? = some o → okd N o.dst = true
 sep : ∀ (j : Nat) (o : Oper) (x k : Nat), ops[j]? = some o → x ∈ o.looksAt ops → src.get x = some k → bt (anOf an j) k = true ∨ ((ksOf ks j).early = false ∧ (k = j ∨ bt (anOf an k) j = true))
 kind : ∀ (j : Nat) (o : Oper), ops[j]? = some o → ∃ acc : Tr DK, (∀ k d, acc.get k = some d → ks.get k = some d) ∧ ksOf ks j = kindD P live src ops.toList acc (anOf an j) o
 sel : Region.noSelect ops = true
 ndf : noDf ops.toList = true
theorem at_list {ops : Array Oper} {j : Nat} : ops.toList[j]? = ops[j]? := by simp
theorem DF.of {P : Program} {N : Nat} {live : List Nat} {ops : Array Oper} {src : Tr Nat} {ks : Tr DK} (h1 : srcD ops.toList 0 .nil = some src) (h2 : ks = kindsD P live src ops.toList (ancs ops.toList 0 .nil) ops.toList 0 .nil)
  (h3 : sepD N src (ancs ops.toList 0 .nil) ks ops.toList ops.toList 0 = true) (h4 : Region.noSelect ops = true) (h5 : noDf ops.toList = true) : DF P N live ops src (ancs ops.toList 0 .nil) ks := by
 have z : ∀ j, 0 + j = j := fun j => Nat.zero_add j
 refine ⟨fun j o d hj hd => ?_, fun d j hd => ?_, fun j o k hj => ?_, fun j o hj => ?_, fun j o x k hj hx hk => ?_, fun j o hj => ?_, h4, h5⟩
 ·have := (srcD_spec _ _ _ _ h1).2 j o d (by rw [at_list]; exact hj) hd
  rwa [z] at this
 ·rcases srcD_inv _ _ _ _ h1 d j hd with h | ⟨i, o, k1, k2, k3⟩
  ·cases h
  ·rw [z] at k3; subst k3
   exact ⟨o, by rw [← at_list]; exact k1, k2⟩
 ·have := (ancs_spec ops.toList 0 .nil (fun _ _ => rfl)).2 j o (by rw [at_list]; exact hj) k
  rw [z] at this
  simpa using this
 ·have := (sepD_spec _ _ h3 j o (by rw [at_list]; exact hj)).1
  exact this
 ·have := (sepD_spec _ _ h3 j o (by rw [at_list]; exact hj)).2
  rw [z] at this
  exact sepL_spec this x (looksD_spec hx) k hk
 ·obtain ⟨acc, k1, k2⟩ := (kinds_spec (P := P) (live := live) (src := src) (an := ancs ops.toList 0 .nil) (ops := ops.toList) ops.toList 0 .nil (fun _ _ => rfl)).2 j o (by rw [at_list]; exact hj)
  rw [← h2] at k1 k2
  rw [z] at k2
  exact ⟨acc, k1, k2⟩
section
variable {P : Program} {N : Nat} {live : List Nat} {ops : Array Oper} {src an : Tr Nat} {ks : Tr DK} {l : Array Bool} {rb : Option Nat}
theorem listed_op (hs : Shut ops l) {j : Nat} (h : l.getD j false = true) : ∃ o, ops[j]? = some o := by
 have hlt : j < ops.size := by
  rw [← hs.size]
  rcases Nat.lt_or_ge j l.size with h' | h'
  ·exact h'
  ·simp [Array.getElem?_eq_none h'] at h
 exact ⟨ops[j], by simp [hlt]⟩
theorem DF.up (hD : DF P N live ops src an ks) (hs : Shut ops l) : ∀ (j : Nat), l.getD j false = true → ∀ k, bt (anOf an j) k = true → l.getD k false = true := by
 intro j
 induction j using Nat.strongRecOn with
 | _ j ih =>
  intro hj k hk
  obtain ⟨o, ho⟩ := listed_op hs hj
  obtain ⟨e, he, hb, h⟩ := (hD.anc j o k ho).1 hk
  have hl := hs.up j o ho hj e he hb
  rcases h with rfl | ⟨hlt, h⟩
  ·exact hl
  ·exact ih _ hlt hl k h
theorem DF.upR (hD : DF P N live ops src an ks) (hs : Shut ops l) {j : Nat} (hr : j ∈ Region.ready .any ops l) {k : Nat} (hk : bt (anOf an j) k = true) : l.getD k false = true := by
 obtain ⟨h0, o, ho, hall⟩ := mem_ready.1 hr
 obtain ⟨e, he, hb, h⟩ := (hD.anc j o k ho).1 hk
 rcases h with rfl | ⟨hlt, h⟩
 ·exact hall e he hb
 ·exact hD.up hs _ (hall e he hb) k h
theorem DF.rdy (hD : DF P N live ops src an ks) {j : Nat} {o : Oper} (ho : ops[j]? = some o) (h0 : l.getD j true = false) (h : ∀ k, bt (anOf an j) k = true → l.getD k false = true) : j ∈ Region.ready .any ops l :=
 mem_ready.2 ⟨h0, o, ho, fun e he hb => h _ ((hD.anc j o e.on ho).2 ⟨e, he, hb, .inl rfl⟩)⟩
theorem pend_both (hs : Shut ops l) {j : Nat} {o : Oper} (ho : ops[j]? = some o) (h : l.getD j false = false) : l.getD j true = false := by
 have hlt : j < l.size := by rw [hs.size]; exact (Array.getElem?_eq_some_iff.1 ho).1
 simp_all
theorem getD_set_at (hs : Shut ops l) {j : Nat} {o : Oper} (ho : ops[j]? = some o) (d : Bool) : (l.setIfInBounds j true).getD j d = true := by
 have hlt : j < l.size := by rw [hs.size]; exact (Array.getElem?_eq_some_iff.1 ho).1
 simp [hlt]
def Dn (l : Array Bool) (m j : Nat) : Prop := l.getD j false = true ∧ bt m j = false
def EAt (P : Program) (ops : Array Oper) (ks : Tr DK) (Bk : Nat → Nat) (a : Act) (w : World) (j : Nat) (o : Oper) : Prop := match ksOf ks j with
 | .mk => MadeAt P a o w (Bk j) ∧ ∀ d, o.dst = some d → a.tmps.getD d undef = mkV o.op (Bk j)
 | .cv q => ∃ oq, ops[q]? = some oq ∧ (∀ d, o.dst = some d → a.tmps.getD d undef = mkV oq.op (Bk j)) ∧ ∀ s t x, o.op = .convert s t (.tmp x) → a.tmps.getD x undef = mkV oq.op (Bk j)
 | .bd _ => ∀ d, o.dst = some d → ∀ w, (execOp a.eval o).run P w = .ok (.value (a.tmps.getD d undef)) w
 | _ => False
theorem EAt.early {Bk : Nat → Nat} {a : Act} {w : World} {j : Nat} {o : Oper} (h : EAt P ops ks Bk a w j o) : (ksOf ks j).early = true := by
 unfold EAt at h
 cases hk : ksOf ks j <;> rw [hk] at h <;> first | rfl | exact h.elim
def Kp (ops : Array Oper) (ks : Tr DK) (l : Array Bool) (a a' : Act) : Prop := ∀ j o, ops[j]? = some o → l.getD j false = true → (ksOf ks j).early = true →
 (∀ d, o.dst = some d → a'.tmps.getD d undef = a.tmps.getD d undef) ∧ execOp a'.eval o = execOp a.eval o ∧ ∀ x ∈ o.looksAt ops, a'.tmps.getD x undef = a.tmps.getD x undef
theorem getD_put {a : Act} {d t : Nat} {v : Value} (h : t ≠ d) : (a.put (some d) v).tmps.getD t undef = a.tmps.getD t undef := by
 simp [Act.put, Array.getElem?_setIfInBounds_ne (Ne.symm h)]
theorem DF.kp (hD : DF P N live ops src an ks) (hs : Shut ops l) {i : Nat} {oi : Oper} (hi : ops[i]? = some oi) (hp : l.getD i false = false) (a : Act) (ds : List Deferred) (v : Value) : Kp ops ks l a ({ a with defers := ds }.put oi.dst v) := by
 intro j o hj hl he
 have hne : j ≠ i := fun e => by subst e; rw [hl] at hp; cases hp
 have hlook : ∀ d, oi.dst = some d → d ∉ o.looksAt ops := fun d hd hx => by
  rcases hD.sep j o d i hj hx (hD.srcO i oi d hi hd) with h | ⟨h, _⟩
  ·rw [hD.up hs j hl i h] at hp; cases hp
  ·rw [he] at h; cases h
 refine ⟨fun d hd => ?_, ?_, fun x hx => ?_⟩
 ·cases hd' : oi.dst with
  | none => rfl
  | some d' =>
   have : d ≠ d' := fun e => by
    subst e
    have h1 := hD.srcO j o d hj hd
    have h2 := hD.srcO i oi d hi hd'
    rw [h1] at h2; exact hne (Option.some.inj h2)
   exact getD_put this
 ·rw [execOp_put o (fun cs b => Region.noSelect_spec hD.sel j o cs b hj) _ oi.dst v hlook]
  rfl
 ·cases hd' : oi.dst with
  | none => rfl
  | some d' =>
   have : x ≠ d' := fun e => by subst e; exact hlook x hd' hx
   exact getD_put this
theorem looks_tmp {o : Oper} {x : Nat} (h : Operand.tmp x ∈ o.op.operands) : x ∈ o.looksAt ops :=
 List.mem_append_left _ (List.mem_filterMap.2 ⟨.tmp x, by simpa using h, rfl⟩)
theorem EAt.keep {Bk Bk' : Nat → Nat} {a a' : Act} {w w' : World} {j : Nat} {o : Oper} (h : EAt P ops ks Bk a w j o) (hk : Kp ops ks l a a') (ho : ops[j]? = some o) (hl : l.getD j false = true) (hb : Bk' j = Bk j)
  (hw : ksOf ks j = .mk → w'.heap[Bk j]? = w.heap[Bk j]?) : EAt P ops ks Bk' a' w' j o := by
 obtain ⟨k1, k2, k3⟩ := hk j o ho hl h.early
 unfold EAt at h ⊢
 cases hkk : ksOf ks j with
 | mk =>
  rw [hkk] at h
  simp only [] at h ⊢
  obtain ⟨⟨vs, T, fr, h1, h2, h3⟩, h4⟩ := h
  rw [hb]
  exact ⟨⟨vs, T, fr, fun w => by rw [k2]; exact h1 w, (hw hkk).trans h2, h3⟩, fun d hd => (k1 d hd).trans (h4 d hd)⟩
 | cv q =>
  rw [hkk] at h
  simp only [] at h ⊢
  obtain ⟨oq, h1, h2, h3⟩ := h
  rw [hb]
  exact ⟨oq, h1, fun d hd => (k1 d hd).trans (h2 d hd), fun s t x hx => (k3 x (looks_tmp (by rw [hx]; simp [Op.operands]))).trans (h3 s t x hx)⟩
 | bd qs =>
  rw [hkk] at h
  simp only [] at h ⊢
  intro d hd w
  rw [k2, k1 d hd]; exact h d hd w
 | rd => rw [hkk] at h; exact h.elim
 | ef => rw [hkk] at h; exact h.elim
structure EInv (P : Program) (ops : Array Oper) (ks : Tr DK) (F : Fr) (γ : Ga) (H : Hp) (l : Array Bool) (m : Nat) (a : Act) (w : World) (Bk : Nat → Nat) : Prop where
 at_ : ∀ j o, ops[j]? = some o → Dn l m j → EAt P ops ks Bk a w j o
 blk : ∀ j, Dn l m j → ksOf ks j = .mk → ¬ F.kept (Bk j) ∧ ∀ r o g, H r = some o → γ r = some g → Bk j ∉ o.fp g
 dis : ∀ i j, Dn l m i → Dn l m j → ksOf ks i = .mk → ksOf ks j = .mk → i ≠ j → Bk i ≠ Bk j
theorem EInv.lt {F : Fr} {γ : Ga} {H : Hp} {m : Nat} {a : Act} {w : World} {Bk : Nat → Nat} (hE : EInv P ops ks F γ H l m a w Bk) (hs : Shut ops l) {j : Nat} (hj : Dn l m j) (hk : ksOf ks j = .mk) : Bk j < w.heap.size := by
 obtain ⟨o, ho⟩ := listed_op hs hj.1
 have := hE.at_ j o ho hj
 unfold EAt at this
 rw [hk] at this
 obtain ⟨⟨vs, T, fr, h1, h2, h3⟩, _⟩ := this
 exact lt_of_heap h2
def Kb (F : Fr) (ks : Tr DK) (l : Array Bool) (m : Nat) (Bk : Nat → Nat) (b : Nat) : Prop := F.kept b ∨ ∃ j, Dn l m j ∧ ksOf ks j = .mk ∧ Bk j = b
section
variable {F : Fr} {γ : Ga} {H : Hp} {w : World} {K : Nat → Prop}
theorem Rel.rebase (h : Rel F γ H w) (hown : ∀ r o g, H r = some o → γ r = some g → ∀ b ∈ o.fp g, ¬ K b) : Rel ⟨w, K⟩ γ H w :=
 ⟨rfl, rfl, rfl, Nat.le_refl _, fun _ _ => rfl, h.dom, h.dom', h.ok, h.sep, fun r o g hr hg b hb => ⟨(h.own r o g hr hg b hb).1, fun hk => hown r o g hr hg b hb hk.1⟩⟩
theorem Rel.back (h0 : Rel F γ H w) (hK : ∀ b, F.kept b → K b) {γ' : Ga} {H' : Hp} {w' : World} (h : Rel ⟨w, K⟩ γ' H' w') : Rel F γ' H' w' :=
 ⟨h.os.trans h0.os, h.tape.trans h0.tape, h.output.trans h0.output, Nat.le_trans h0.size h.size, fun b hb => (h.fr b ⟨hK b hb, Nat.lt_of_lt_of_le hb.2 h0.size⟩).trans (h0.fr b hb), h.dom, h.dom', h.ok, h.sep,
  fun r o g hr hg b hb => ⟨(h.own r o g hr hg b hb).1, fun hk => (h.own r o g hr hg b hb).2 ⟨hK b hk, Nat.lt_of_lt_of_le hk.2 h0.size⟩⟩⟩
end
theorem EInv.rebase {F : Fr} {γ : Ga} {H : Hp} {m : Nat} {a : Act} {w : World} {Bk : Nat → Nat} (hE : EInv P ops ks F γ H l m a w Bk) (h : Rel F γ H w) : Rel ⟨w, Kb F ks l m Bk⟩ γ H w :=
 h.rebase fun r o g hr hg b hb hk => by
  rcases hk with hk | ⟨j, h1, h2, rfl⟩
  ·exact (h.own r o g hr hg b hb).2 hk
  ·exact (hE.blk j h1 h2).2 r o g hr hg hb
theorem EInv.after {F : Fr} {γ : Ga} {H : Hp} {m i : Nat} {a : Act} {w : World} {Bk : Nat → Nat} (hE : EInv P ops ks F γ H l m a w Bk) (hs : Shut ops l) (hi : Dn (l.setIfInBounds i true) (bset m i) = Dn l m) {γ' : Ga} {H' : Hp} {a' : Act} {w' : World}
  (h : Rel ⟨w, Kb F ks l m Bk⟩ γ' H' w') (hk : Kp ops ks l a a') : EInv P ops ks F γ' H' (l.setIfInBounds i true) (bset m i) a' w' Bk := by
 have kept : ∀ j, Dn l m j → ksOf ks j = .mk → (⟨w, Kb F ks l m Bk⟩ : Fr).kept (Bk j) := fun j h1 h2 => ⟨.inr ⟨j, h1, h2, rfl⟩, hE.lt hs h1 h2⟩
 refine ⟨fun j o ho hj => ?_, fun j hj hkk => ?_, fun j j' hj hj' => ?_⟩
 ·rw [hi] at hj
  exact (hE.at_ j o ho hj).keep hk ho hj.1 rfl fun hkk => h.fr _ (kept j hj hkk)
 ·rw [hi] at hj
  exact ⟨(hE.blk j hj hkk).1, fun r o g hr hg hm => (h.own r o g hr hg _ hm).2 (kept j hj hkk)⟩
 ·rw [hi] at hj hj'
  exact hE.dis j j' hj hj'
theorem Dn.both (hs : Shut ops l) {m i : Nat} (hp : l.getD i false = false) : Dn (l.setIfInBounds i true) (bset m i) = Dn l m := by
 funext j
 by_cases e : i = j
 ·subst e
  apply propext
  refine ⟨fun h => ?_, fun h => ?_⟩
  ·have := (bt_bset m i i).2 (.inr rfl)
   rw [h.2] at this; cases this
  ·rw [h.1] at hp; cases hp
 ·apply propext
  unfold Dn
  rw [getD_set_ne false e]
  refine and_congr_right fun _ => ?_
  rw [← Bool.not_eq_true, ← Bool.not_eq_true, bt_bset]
  simp [Ne.symm e]
def cntF : List Bool → Nat
 | [] => 0
 | true :: l => cntF l
 | false :: l => cntF l + 1
theorem cntF_set : ∀ (l : List Bool) (i : Nat), l[i]? = some false → cntF (l.set i true) + 1 = cntF l
 | [], i, h => by simp at h
 | true :: l, 0, h => by simp at h
 | false :: l, 0, h => by simp [cntF]
 | true :: l, i + 1, h => by simp only [List.set_cons_succ, cntF]; exact cntF_set l i (by simpa using h)
 | false :: l, i + 1, h => by simp only [List.set_cons_succ, cntF]; rw [cntF_set l i (by simpa using h)]
theorem cntF_pos {i : Nat} (hp : l.getD i true = false) : cntF (l.setIfInBounds i true).toList + 1 = cntF l.toList := by
 have h : l[i]? = some false := by
  rcases Nat.lt_or_ge i l.size with h' | h'
  ·simp [h'] at hp ⊢; exact hp
  ·simp [Array.getElem?_eq_none h'] at hp
 rw [Array.toList_setIfInBounds]
 exact cntF_set _ _ (by simpa using h)
theorem wpOpIn_val {Q : Exit → Act → World → Prop} {K : Act → World → Prop} {a : Act} {w w' : World} {i : Nat} {o : Oper} {v : Value} (hi : ops[i]? = some o) (hg : o.guard = none) (hdf : isDef o = false) (hrun : (execOp a.eval o).run P w = .ok (.value v) w') (h : K (a.put o.dst v) w') : wpOpIn (FR rb) 0 P ops Q i K a w := by
 unfold Go.wpOpIn
 simp only [hi]
 rw [if_pos (by simp [Region.wanted, hg])]
 unfold Oper.wpIn
 rw [semAt_def hdf, hrun]
 exact ⟨fun _ _ => trivial, h⟩
theorem _root_.Go.Y.SatE.putSame {γ : Ga} {G : CE} {tmps : Array Value} (h : SatE N γ G tmps) {d : Option Nat} {x : CV} (hv : ∀ t, d = some t → den γ x = some (tmps.getD t undef)) : SatE N γ (_root_.Go.Y.putC d x G) tmps := by
 cases d with
 | none => exact h
 | some d =>
  refine ⟨h.size, fun t v ht => ?_⟩
  simp only [putC] at ht
  by_cases e : t = d
  ·rw [if_pos e] at ht; cases ht; rw [e]; exact hv d rfl
  ·rw [if_neg e] at ht; exact h.get t v ht
theorem SatE.apart {γ : Ga} {G : CE} {a : Act} {d : Option Nat} {v : Value} (h : SatE N γ G a.tmps) (hG : ∀ t, d = some t → G t = none) : SatE N γ G (a.put d v).tmps := by
 cases d with
 | none => exact h
 | some d =>
  refine ⟨by simpa [Act.put] using h.size, fun t x ht => ?_⟩
  have : t ≠ d := fun e => by subst e; rw [hG t rfl] at ht; cases ht
  rw [getD_put this]; exact h.get t x ht
end
end Go.Y
end
section
/- Regions that draw their order: sound. -/
namespace Go.Y
open Go Go.RowKit Go.X
section
variable {P : Program} {N : Nat} {live Γ : List Nat} {S : List CV} {E : Tr CV} {H : Tr CO}
theorem opR_ok {o : Oper} {g : List CV → Tr CV → Tr CO → Option CV} (h : opR P live Γ o = some ⟨g⟩) (hl : S.length = Γ.length) {v : CV} (hr : g S E H = some v) {F : Fr} {γ : Ga} {w : World} {Df : List Deferred} {a : Act} (hrel : Rel F γ H.get w) (ha : SatC N Df γ (gx Γ S (gl live E)) a) :
  ∃ u, den γ v = some u ∧ (execOp a.eval o).run P w = .ok (.value u) w := by
 obtain ⟨d, op, ty, pos, af, gd⟩ := o
 unfold opR at h
 simp only [opG_eq] at h
 split at h
 ·rename_i t x lo hi mx
  split at h
  ·rename_i g' hop
   cases h
   have hop : OpF.ef (fun (S : List CV) (E : Tr CV) (H : Tr CO) (c : Nat) => match (opdX live Γ x).f S E with | some u => (match (opdXB live Γ lo).f S E with | some l => (match (opdXB live Γ hi).f S E with | some h => (match (opdXB live Γ mx).f S E with | some m => efCut P H.get c t u l h m | none => none) | none => none) | none => none) | none => none) = .ef g' := hop
   have hop := OpF.ef.inj hop
   subst hop
   simp only [opdX_eq hl, opdXB_eq hl] at hr
   cases hx : opdC (gx Γ S (gl live E)) x with
   | none => rw [hx] at hr; cases hr
   | some u =>
    rw [hx] at hr
    cases h1 : opdB (gx Γ S (gl live E)) lo with
    | none => simp only [h1] at hr; cases hr
    | some l1 =>
     cases h2 : opdB (gx Γ S (gl live E)) hi with
     | none => simp only [h1, h2] at hr; cases hr
     | some l2 =>
      cases h3 : opdB (gx Γ S (gl live E)) mx with
      | none => simp only [h1, h2, h3] at hr; cases hr
      | some l3 =>
       simp only [h1, h2, h3] at hr
       cases hc : efCut P H.get 0 t u l1 l2 l3 with
       | none => rw [hc] at hr; cases hr
       | some y =>
        rw [hc] at hr
        obtain ⟨yv, ups⟩ := y
        cases ups with
        | cons _ _ => cases hr
        | nil =>
         have hr : some yv = some v := hr
         cases hr
         obtain ⟨γ', u', k1, k2, k3, k4, k5⟩ := ef_cutS (N := N) (T := ty) hx h1 h2 h3 hc (fun hne => absurd rfl hne) F γ w Df a hrel ha d pos af gd
         rw [k5 rfl] at k3
         exact ⟨u', k3, k4⟩
  ·cases h
 ·split at h
  ·rename_i g' hop
   cases h
   exact opF_rd (N := N) hop hl hr γ w Df a hrel.toR ha d pos af gd
  ·cases h
end
def Agr (live : List Nat) (a a' : Act) : Prop := a'.defers = a.defers ∧ a'.tmps.size = a.tmps.size ∧ ∀ t, elemN live t = true → a'.tmps.getD t undef = a.tmps.getD t undef
theorem Agr.put {live : List Nat} {a a' : Act} {d : Option Nat} {v : Value} (hd : ∀ t, d = some t → elemN live t = false) (h : Agr live a a') : Agr live (a.put d v) a' := by
 cases d with
 | none => exact h
 | some d =>
  refine ⟨h.1, by rw [h.2.1]; simp [Act.put], fun t ht => ?_⟩
  rw [getD_put (fun e => by rw [e, hd d rfl] at ht; cases ht)]
  exact h.2.2 t ht
def QD (Q : Exit → Act → World → Prop) (live : List Nat) (al : Nat → Bool) (j : Nat) (e : Exit) (a : Act) (w : World) : Prop := Q e a w ∧ ∀ c, e = .panic c → al j = true ∧ ∀ a', Agr live a a' → Q (.panic c) a' w
def PoD (F : Fr) (N : Nat) (live : List Nat) (rb : Option Nat) (Q : Exit → Act → World → Prop) (γ : Ga) (x : XE × St) : Prop := match x.1 with
 | .n => PostX F γ N live rb Q x
 | .p _ => nilP x.2.D.pr = true ∧ PostX F γ N live rb Q x
 | _ => False
theorem PoD.mono {F : Fr} {N : Nat} {live : List Nat} {rb : Option Nat} {Q : Exit → Act → World → Prop} (γ γ' : Ga) (x : XE × St) (h : Gle γ γ') (hp : PoD F N live rb Q γ x) : PoD F N live rb Q γ' x := by
 obtain ⟨e, σ⟩ := x
 cases e with
 | n => exact PostX.le h hp
 | p v => exact ⟨hp.1, PostX.le h hp.2⟩
 | e _ => exact hp.elim
 | g _ => exact hp.elim
 | r => exact hp.elim
def Sf (an : Tr Nat) (ks : Tr DK) (γ : Ga) (pr : List Pe) (l : Array Bool) (w : World) : Prop :=
 ∃ F' γ' H, Gle γ γ' ∧ Rel F' γ' (Tr.get H) w ∧ ∀ pe ∈ pr, (∀ j, l.getD j false = true → (ksOf ks j).isEf = true → bt (anOf an j) pe.id = false) → pe.f H = some pe.v
theorem AHS.weakL {P : Program} {ops : Array Oper} {rb : Option Nat} {S S' : Array Bool → World → Prop} {QQ : Nat → Exit → Act → World → Prop} {Q0 : Act → World → Prop} (G : Array Bool → Prop) (hG : ∀ l i, G l → G (l.setIfInBounds i true)) (hSS : ∀ l w, G l → S' l w → S l w) :
  ∀ (n : Nat) (l : Array Bool) (a : Act) (w : World), G l → AHS rb P ops QQ Q0 S' n l a w → AHS rb P ops QQ Q0 S n l a w
 | 0, _, _, _, _, h => h
 | n + 1, l, a, w, hl, h => ⟨h.1, fun j hj => wpOpIn_mono (fun a' w' h' => ⟨hSS _ _ (hG _ _ hl) h'.1, AHS.weakL G hG hSS n _ _ _ (hG _ _ hl) h'.2⟩) (h.2 j hj)⟩
section
variable {P : Program} {hd : Hd} {N : Nat} {live ct : List Nat} {ops : Array Oper} {src an : Tr Nat} {ks : Tr DK} {F : Fr} {Q : Exit → Act → World → Prop} {rb : Option Nat}
noncomputable def alF (live ct : List Nat) (ops : Array Oper) (an : Tr Nat) (ks : Tr DK) (i : Nat) : Bool := noneIn ct live && alD live an ks i ops.toList 0
def PlanOK (P : Program) (N : Nat) (live ct : List Nat) (ops : Array Oper) (an : Tr Nat) (ks : Tr DK) (F : Fr) (Q : Exit → Act → World → Prop) (rb : Option Nat) (k : KX) (m : Nat) (Γ : List Nat) : Prop :=
 ∀ nn l a w γ S E D H c Bk, cntF l.toList ≤ nn → Shut ops l → (∀ j, bt m j = true → l.getD j false = true) → S.length = Γ.length → (k S E D H c).sat (PoD F N live rb Q γ) → Rel F γ (Tr.get H) w → SatE N γ (gx Γ S (gl (minus live ct) E)) a.tmps → XR γ rb D a.defers →
  (∀ pe ∈ D.pr, pe.f H = some pe.v) → EInv P ops ks F γ H.get l m a w Bk → AHS rb P ops (QD Q live (alF live ct ops an ks)) (Q .normal) (Sf an ks γ D.pr) nn l a w
theorem AHS.done {P : Program} {ops : Array Oper} {rb : Option Nat} {S : Array Bool → World → Prop} {QQ : Nat → Exit → Act → World → Prop} {Q0 : Act → World → Prop} {l : Array Bool} {a : Act} {w : World} (hr : Region.ready .any ops l = []) (h : Q0 a w) : ∀ n, AHS rb P ops QQ Q0 S n l a w
 | 0 => ⟨hr, h⟩
 | n + 1 => ⟨fun _ => h, fun i hi => by rw [hr] at hi; cases hi⟩
theorem fin_ok (hct : ct = ctD ks ops.toList 0) {m : Nat} {Γ : List Nat} (hrem : ∀ j o, ops[j]? = some o → bt m j = true) : PlanOK P N live ct ops an ks F Q rb (endD live ct Γ).f m Γ := by
 intro nn l a w γ S E D H c Bk hn hs hm hl hk hrel he hX hpr hE
 have hr : Region.ready .any ops l = [] := by
  cases h : Region.ready .any ops l with
  | nil => rfl
  | cons j r =>
   have hj : j ∈ Region.ready .any ops l := by rw [h]; simp
   obtain ⟨h0, o, ho, _⟩ := mem_ready.1 hj
   have h1 := hm j (hrem j o ho)
   have := getD_both h0
   rw [this] at h1; cases h1
 refine AHS.done hr ?_ nn
 unfold endD at hk
 split at hk
 ·rename_i f hall hf
  have e : f S E = (flush live Γ).f S E := by rw [hf]
  simp only [e] at hk
  refine hk γ a w (Gle.refl _) ⟨hrel, he.sub fun t v ht => ?_, hX⟩
  have h1 := flush_spec Γ S E hl t v ht
  by_cases htΓ : t ∈ Γ
  ·have key : ∀ (Γ : List Nat) (S : List CV) (G G' : CE), S.length = Γ.length → t ∈ Γ → gx Γ S G t = gx Γ S G' t := by
    intro Γ
    induction Γ with
    | nil => intro S G G' _ h; cases h
    | cons y Γ ih =>
     intro S G G' hlen hmem
     cases S with
     | nil => simp at hlen
     | cons z S =>
      simp only [gx]
      by_cases e : t = y
      ·rw [if_pos e, if_pos e]
      ·rw [if_neg e, if_neg e]
       exact ih S G G' (by simpa using hlen) ((List.mem_cons.1 hmem).resolve_left e)
   rw [key Γ S _ (gl live E) hl htΓ]; exact h1
  ·have key : ∀ (Γ : List Nat) (S : List CV) (G : CE), S.length = Γ.length → t ∉ Γ → gx Γ S G t = G t := by
    intro Γ
    induction Γ with
    | nil => intro S G _ _; rfl
    | cons y Γ ih =>
     intro S G hlen hmem
     cases S with
     | nil => simp at hlen
     | cons z S =>
      simp only [gx]
      rw [if_neg (fun e => hmem (by simp [e]))]
      exact ih S G (by simpa using hlen) (fun h => hmem (by simp [h]))
   rw [key Γ S _ hl htΓ] at h1 ⊢
   simp only [gl] at h1 ⊢
   cases hlv : elemN live t with
   | false => rw [hlv] at h1; cases h1
   | true =>
    rw [hlv] at h1
    have : elemN (minus live ct) t = true := minus_spec.2 ⟨hlv, by
     cases hc : elemN ct t with
     | false => rfl
     | true => exact absurd (allIn_spec hall t (elemN_mem.1 hc)) htΓ⟩
    rw [this]; exact h1
 ·exact hk.elim
theorem bad_ok {n : Nat} {m : Nat} {Γ : List Nat} : PlanOK P N live ct ops an ks F Q rb (fun _ _ _ _ _ => .bad n) m Γ := fun nn l a w γ S E D H c Bk _ _ _ _ hk => hk.elim
theorem rd_ok (hD : DF P N live ops src an ks) {m i : Nat} {oi : Oper} {Γ : List Nat} {k : KX} (hi : ops[i]? = some oi) (hmi : bt m i = false) (han : ∀ j, bt (anOf an i) j = true → bt m j = true) (hkd : (ksOf ks i).isEf = false)
  (ih : PlanOK P N live ct ops an ks F Q rb k (bset m i) (psh oi.dst Γ)) : PlanOK P N live ct ops an ks F Q rb (rdD P N (minus live ct) Γ ops.toList i oi k).f m Γ := by
 intro nn l a w γ S E D H c Bk hn hs hm hl hk hrel he hX hpr hE
 obtain ⟨ds, C, ro, pr⟩ := D
 simp only [] at hpr ⊢
 have hm' : ∀ (l' : Array Bool), (∀ j, l.getD j false = true → l'.getD j false = true) → l'.getD i false = true → ∀ j, bt (bset m i) j = true → l'.getD j false = true := fun l' h1 h2 j hj => by
  rcases (bt_bset m i j).1 hj with h | rfl
  ·exact h1 j (hm j h)
  ·exact h2
 have hR : ∀ g, opR P (minus live ct) Γ oi = some ⟨g⟩ → ∀ v, g S E H = some v → ∀ (F' : Fr) (γ' : Ga) (H' : Tr CO) (w' : World) (a' : Act), g S E H' = some v → Rel F' γ' H'.get w' → SatE N γ' (gx Γ S (gl (minus live ct) E)) a'.tmps → ∃ u, den γ' v = some u ∧ (execOp a'.eval oi).run P w' = .ok (.value u) w' :=
  fun g hg v _ F' γ' H' w' a' hv' hrel' he' => opR_ok hg hl hv' hrel' ⟨he', rfl⟩
 unfold rdD at hk
 by_cases hdone : l.getD i false = true
 · -- it was done early
  obtain ⟨acc, hacc, hkk⟩ := hD.kind i oi hi
  have hat := hE.at_ i oi hi ⟨hdone, hmi⟩
  have hear := hat.early
  rcases kindD_spec (P := P) (live := live) (src := src) (ops := ops.toList) (acc := acc) (an := anOf an i) (o := oi) with h | h | ⟨hg, d, hd', h⟩
  ·rw [hkk, h] at hear; cases hear
  ·rw [hkk, h] at hear; cases hear
  rcases h with ⟨h, _⟩ | ⟨q, _, _, _, _, _, _, h, _⟩ | ⟨qs, t, ps, lq, r, h, hop, _⟩
  ·rw [hkk, h] at hkd; cases hkd
  ·rw [hkk, h] at hkd; cases hkd
  unfold EAt at hat
  rw [hkk, h] at hat
  simp only [] at hat
  rw [hg] at hk
  simp only [guardX] at hk
  split at hk
  ·rename_i g put hop hgn hput
   simp only [] at hk
   split at hk
   ·rename_i v hv
    rw [show put = (pshK oi.dst k).f from by rw [hput], pshK_eq] at hk
    obtain ⟨u, hu, hrun⟩ := hR g hop v hv F γ H w a hv hrel he
    have hu2 : ∀ t, oi.dst = some t → den γ v = some (a.tmps.getD t undef) := fun t ht => by
     have := hat t ht w
     rw [hrun] at this
     cases this
     exact hu
    have e2 := he.putSame (d := oi.dst) hu2
    rw [← gx_psh] at e2
    have hE2 : EInv P ops ks F γ H.get l (bset m i) a w Bk := by
     have sub : ∀ j, Dn l (bset m i) j → Dn l m j := fun j hj => ⟨hj.1, by
      cases hb : bt m j with
      | false => rfl
      | true => have h2 := hj.2; rw [(bt_bset m i j).2 (.inl hb)] at h2; cases h2⟩
     exact ⟨fun j o ho hj => hE.at_ j o ho (sub j hj), fun j hj => hE.blk j (sub j hj), fun j j' hj hj' => hE.dis j j' (sub j hj) (sub j' hj')⟩
    have hpr2 : ∀ pe ∈ (⟨i, g S E, v⟩ : Pe) :: pr, pe.f H = some pe.v := fun pe hpe => by
     rcases List.mem_cons.1 hpe with rfl | hpe
     ·exact hv
     ·exact hpr pe hpe
    have := ih nn l a w γ _ E ⟨ds, C, ro, ⟨i, g S E, v⟩ :: pr⟩ H c Bk hn hs (hm' l (fun _ h => h) hdone) (psh_len hl) hk hrel e2 ⟨hX.d, hX.c, hX.r⟩ hpr2 hE2
    exact AHS.weak (fun l w ⟨F', γ', H', k1, k2, k3⟩ => ⟨F', γ', H', k1, k2, fun pe hpe => k3 pe (List.mem_cons_of_mem _ hpe)⟩) _ _ _ _ this
   ·exact hk.elim
  ·rename_i hgn _; cases hgn
  ·exact hk.elim
 · -- it comes up
  have hp : l.getD i false = false := by cases h : l.getD i false with | false => rfl | true => exact absurd h hdone
  have hpt := pend_both hs hi hp
  have hr : i ∈ Region.ready .any ops l := hD.rdy hi hpt fun j hj => hm j (han j hj)
  have hcnt := cntF_pos hpt
  obtain ⟨nn, rfl⟩ : ∃ n', nn = n' + 1 := ⟨nn - 1, by omega⟩
  have hKp := hD.kp hs hi hp a
  have hs2 := hs.set hr
  have hml := hm' (l.setIfInBounds i true) (fun j hj => getD_set_true hj) (getD_set_at hs hi false)
  have go : ∀ (u : Value) (cv : CV) (pr' : List Pe), (k (pshS oi.dst cv S) E ⟨ds, C, ro, pr'⟩ H c).sat (PoD F N live rb Q γ) → den γ cv = some u → (∀ pe ∈ pr', pe.f H = some pe.v) → (∀ pe ∈ pr, pe ∈ pr') →
    YieldsIf P ops (fun w => ∃ l, Shut ops l ∧ l.getD i false = false ∧ Sf an ks γ pr' (l.setIfInBounds i true) w) oi u a → AHS rb P ops (QD Q live (alF live ct ops an ks)) (Q .normal) (Sf an ks γ pr) (nn + 1) l a w := by
   intro u cv pr' hk2 hu hpr2 hsub hy
   have hokd := hD.dstO i oi hi
   have e2 := he.putC (a := a) hokd hu
   rw [← gx_psh] at e2
   have hE2 : EInv P ops ks F γ H.get (l.setIfInBounds i true) (bset m i) (a.put oi.dst u) w Bk := by
    have hdn := Dn.both (l := l) hs (m := m) hp
    refine ⟨fun j o ho hj => ?_, fun j hj hkk => ?_, fun j j' hj hj' => ?_⟩
    ·rw [hdn] at hj
     exact (hE.at_ j o ho hj).keep (hKp a.defers u) ho hj.1 rfl fun _ => rfl
    ·rw [hdn] at hj; exact hE.blk j hj hkk
    ·rw [hdn] at hj hj'; exact hE.dis j j' hj hj'
   have hA := ih nn (l.setIfInBounds i true) (a.put oi.dst u) w γ _ E ⟨ds, C, ro, pr'⟩ H c Bk (by omega) hs2 hml (psh_len hl) hk2 hrel e2 (by rw [put_defers]; exact ⟨hX.d, hX.c, hX.r⟩) hpr2 hE2
   refine AHS.first (S := Sf an ks γ pr) (S' := Sf an ks γ pr') (B := fun j => bt (anOf an j) i = true) hD.ndf hi (Region.noSelect_spec hD.sel) ?_ ?_ ?_ nn l a w ?_ hs hr ?_ ?_ hA
   ·intro l' j hsl hj hpl hB
    have := hD.upR hsl hj hB
    rw [getD_both hpl] at this; cases this
   ·rintro l' w' ⟨F', γ', H', k1, k2, k3⟩
    exact ⟨F', γ', H', k1, k2, fun pe hpe => k3 pe (hsub pe hpe)⟩
   ·rintro l' w' hpl ⟨F', γ', H', k1, k2, k3⟩
    refine ⟨F', γ', H', k1, k2, fun pe hpe hc => k3 pe (hsub pe hpe) fun j hj hjk => ?_⟩
    by_cases e : i = j
    ·subst e; rw [hkd] at hjk; cases hjk
    ·rw [getD_set_ne false e] at hj; exact hc j hj hjk
   ·intro j oj hj hji hpj hB
    have hB : bt (anOf an j) i = false := by cases h : bt (anOf an j) i with | false => rfl | true => exact absurd h hB
    have hij : bt (anOf an i) j = false := by
     cases h : bt (anOf an i) j with
     | false => rfl
     | true =>
      have := hm j (han j h)
      rw [getD_both hpj] at this; cases this
    have l1 : ∀ d, oi.dst = some d → d ∉ oj.looksAt ops := fun d hd hx => by
     rcases hD.sep j oj d i hj hx (hD.srcO i oi d hi hd) with h | ⟨_, h | h⟩
     ·rw [hB] at h; cases h
     ·exact hji h.symm
     ·rw [hij] at h; cases h
    have l2 : ∀ d, oj.dst = some d → d ∉ oi.looksAt ops := fun d hd hx => by
     rcases hD.sep i oi d j hi hx (hD.srcO j oj d hj hd) with h | ⟨_, h | h⟩
     ·rw [hij] at h; cases h
     ·exact hji h
     ·rw [hB] at h; cases h
    have l3 : ∀ d, oi.dst = some d → oj.dst ≠ some d := fun d hd hd' => by
     have h1 := hD.srcO i oi d hi hd
     have h2 := hD.srcO j oj d hj hd'
     rw [h1] at h2; exact hji (Option.some.inj h2).symm
    refine ⟨?_, fun c a w hq => ?_⟩
    ·unfold Oper.apart
     cases hdi : oi.dst with
     | none =>
      cases hdj : oj.dst with
      | none => rfl
      | some d' => simpa using l2 d' hdj
     | some d =>
      have m1 := l1 d hdi
      have m3 := l3 d hdi
      cases hdj : oj.dst with
      | none => simpa using m1
      | some d' =>
       have m2 := l2 d' hdj
       rw [hdj] at m3
       simp only [Bool.and_eq_true]
       refine ⟨⟨by simpa using m1, by simpa using fun e => m3 (by rw [e])⟩, by simpa using m2⟩
    ·obtain ⟨hal, hq2⟩ := hq.2 c rfl
     have hal0 := hal
     unfold alF at hal
     rw [Bool.and_eq_true] at hal
     have := alD_spec (i := j) hal.2 i oi (by rw [at_list]; exact hi) (by rw [Nat.zero_add]; exact hkd)
     rw [Nat.zero_add] at this
     rcases this with h | h | h
     ·rw [hB] at h; cases h
     ·rw [hij] at h; cases h
     ·exact ⟨hq2 a (Agr.put h ⟨rfl, rfl, fun _ _ => rfl⟩), fun c' hc' => by cases hc'; exact ⟨hal0, fun a' ha' => hq2 a' (Agr.put h ha')⟩⟩
   ·have : (fun w => ∃ l, Shut ops l ∧ l.getD i true = false ∧ Sf an ks γ pr' (l.setIfInBounds i true) w) = fun w => ∃ l, Shut ops l ∧ l.getD i false = false ∧ Sf an ks γ pr' (l.setIfInBounds i true) w := by
     funext w
     apply propext
     exact ⟨fun ⟨l, h1, h2, h3⟩ => ⟨l, h1, getD_both h2, h3⟩, fun ⟨l, h1, h2, h3⟩ => ⟨l, h1, pend_both h1 hi h2, h3⟩⟩
    rw [this]; exact hy
   ·exact ⟨F, γ, H, Gle.refl _, hrel, fun pe hpe _ => hpr2 pe hpe⟩
  have gogo : ∀ g, opR P (minus live ct) Γ oi = some ⟨g⟩ → ∀ v, g S E H = some v → (k (pshS oi.dst v S) E ⟨ds, C, ro, ⟨i, g S E, v⟩ :: pr⟩ H c).sat (PoD F N live rb Q γ) → Region.wanted oi (yielded ops a.tmps) = true → AHS rb P ops (QD Q live (alF live ct ops an ks)) (Q .normal) (Sf an ks γ pr) (nn + 1) l a w := by
   intro g hg v hv hk2 hw
   obtain ⟨u, hu, hrun⟩ := hR g hg v hv F γ H w a hv hrel he
   refine go u v _ hk2 hu (fun pe hpe => ?_) (fun pe hpe => List.mem_cons_of_mem _ hpe) (.inl ⟨hw, ?_⟩)
   ·rcases List.mem_cons.1 hpe with rfl | hpe
    ·exact hv
    ·exact hpr pe hpe
   ·rintro w' ⟨l', hsl, hpl, F', γ', H', k1, k2, k3⟩
    have hv' : g S E H' = some v := k3 ⟨i, g S E, v⟩ (by simp) fun j hj hjk => by
     cases hb : bt (anOf an j) i with
     | false => rfl
     | true =>
      by_cases e : i = j
      ·subst e; rw [hkd] at hjk; cases hjk
      ·rw [getD_set_ne false e] at hj
       have := hD.up hsl j hj i hb
       rw [hpl] at this; cases this
    obtain ⟨u', hu', hrun'⟩ := hR g hg v hv F' γ' H' w' a hv' k2 (he.mono k1)
    rw [den_mono k1 v hu] at hu'
    cases hu'
    exact hrun'
  cases hop : opR P (minus live ct) Γ oi with
  | none => rw [hop] at hk; exact hk.elim
  | some g =>
   obtain ⟨g⟩ := g
   rw [hop] at hk
   cases hg : guardX N (minus live ct) Γ ops.toList oi.guard with
   | none =>
    rw [hg] at hk
    cases hput : pshK oi.dst k with
    | mk put =>
     rw [hput] at hk
     simp only [] at hk
     split at hk
     ·rename_i v hv
      rw [show put = (pshK oi.dst k).f from by rw [hput], pshK_eq] at hk
      exact gogo g hop v hv hk (by simp [Region.wanted, guardX_none hg])
     ·exact hk.elim
   | some gg =>
    obtain ⟨gd⟩ := gg
    rw [hg] at hk
    obtain ⟨g1, g2⟩ := guardX_some hg hl he
    cases hput : pshK oi.dst k with
    | mk put =>
     rw [hput] at hk
     simp only [] at hk
     split at hk
     ·rename_i hgo
      split at hk
      ·rename_i v hv
       rw [show put = (pshK oi.dst k).f from by rw [hput], pshK_eq] at hk
       exact gogo g hop v hv hk (g1 hgo)
      ·exact hk.elim
     ·rename_i hgo
      rw [show put = (pshK oi.dst k).f from by rw [hput], pshK_eq] at hk
      exact go undef (.tu []) pr hk rfl hpr (fun _ h => h) (.inr ⟨g2 hgo, rfl⟩)
     ·exact hk.elim
end
end Go.Y
end
section
/- Regions that draw their order: operations that turn something. -/
namespace Go.Y
open Go Go.RowKit Go.X
section
variable {P : Program} {hd : Hd} {N : Nat} {live ct : List Nat} {ops : Array Oper} {src an : Tr Nat} {ks : Tr DK} {F : Fr} {Q : Exit → Act → World → Prop} {rb : Option Nat}
theorem efD_cases {Γ : List Nat} {o : Oper} {a : Nat} {al : Bool} {pre : List Oper} {k : KX} {S : List CV} {E : Tr CV} {ds : List DV} {C : Tr LS} {ro : Option Nat} {pr : List Pe} {H : Tr CO} {c : Nat} {T : XE × St → Prop} (hl : S.length = Γ.length)
    (h : ((efD P hd N live Γ ops.toList o a al pre k).f S E ⟨ds, C, ro, pr⟩ H c).sat T) : (preG P live Γ pre).f S E H c = true ∧
      ((((stepX P hd live Γ o (chkK al o.pos k)).f S E ⟨ds, C, ro, preP al a pr⟩ H c).sat T ∧ ∀ γ tmps, SatE N γ (gx Γ S (gl live E)) tmps → Region.wanted o (yielded ops tmps) = true) ∨
       ((k (pshS o.dst (.tu []) S) E ⟨ds, C, ro, pr⟩ H c).sat T ∧ ∀ γ tmps, SatE N γ (gx Γ S (gl live E)) tmps → Region.wanted o (yielded ops tmps) = false)) := by
  unfold efD at h
  simp only [stepQ_eq] at h
  cases hp : preG P live Γ pre with
  | mk fp =>
    cases hst : stepX P hd live Γ o (chkK al o.pos k) with
    | mk fs =>
      cases hput : pshK o.dst k with
      | mk put =>
        have hpe : ∀ v S, put v S = k (pshS o.dst v S) := fun v S => by rw [show put = (pshK o.dst k).f from by rw [hput], pshK_eq]
        rw [hp, hst, hput] at h
        cases hg : guardX N live Γ ops.toList o.guard with
        | none =>
          rw [hg] at h
          simp only [] at h
          split at h
          · rename_i hpre
            exact ⟨hpre, .inl ⟨h, fun γ tmps _ => by simp [Region.wanted, guardX_none hg]⟩⟩
          · exact h.elim
        | some gg =>
          obtain ⟨gd⟩ := gg
          rw [hg] at h
          simp only [] at h
          split at h
          · rename_i hpre
            split at h
            · rename_i hgo
              exact ⟨hpre, .inl ⟨h, fun γ tmps hs => (guardX_some hg hl hs).1 hgo⟩⟩
            · rename_i hgo
              rw [hpe] at h
              exact ⟨hpre, .inr ⟨h, fun γ tmps hs => (guardX_some hg hl hs).2 hgo⟩⟩
            · exact h.elim
          · exact h.elim
theorem chkK_cases {al : Bool} {pos : String} {k : KX} {S : List CV} {E : Tr CV} {ds : List DV} {C : Tr LS} {ro : Option Nat} {pr : List Pe} {H : Tr CO} {c : Nat} {T : XE × St → Prop} (h : (chkK al pos k S E ⟨ds, C, ro, pr⟩ H c).sat T) :
  (∀ e ∈ postP al pr, e.f H = some e.v) ∧ (k S E ⟨ds, C, ro, postP al pr⟩ H c).sat T := by
 unfold chkK at h
 simp only [] at h
 split at h
 ·rename_i hc; exact ⟨chkP_spec hc, h⟩
 ·exact h.elim
theorem stepX_mk {Γ : List Nat} {o : Oper} {k : KX} {S : List CV} {E : Tr CV} {D : Dx} {H : Tr CO} {c : Nat} {T : XE × St → Prop} (hop : isMk o.op) (h : ((stepX P hd live Γ o k).f S E D H c).sat T) :
  ∃ g x, opF P live Γ o.type o.op = .ef g ∧ g S E H c = some x ∧ H.get c = none ∧ (k (pshS o.dst x.v S) E D (insU H x.ups) (Nat.succ c)).sat T := by
 have key : ∀ op, isMk op → o.op = op → ∃ g, opF P live Γ o.type op = .ef g := by
  rintro op (⟨t, rfl⟩ | ⟨t, n, ps, rfl⟩) _
  ·exact ⟨_, rfl⟩
  ·exact ⟨fun (S : List CV) (E : Tr CV) (_ : Tr CO) (c : Nat) => match (opdXP live Γ ps.toList).f S E with | some l => efSlice P c t n l | none => none, rfl⟩
 obtain ⟨g, hg⟩ := key o.op hop rfl
 have e : stepX P hd live Γ o k = match opF P live Γ o.type o.op, pshK o.dst k with
  | .rd g, ⟨put⟩ => ⟨fun S E D H c => match g S E H with
   | some v => put v S E D H c
   | none => .bad 14 o.pos⟩
  | .ef g, ⟨put⟩ => ⟨fun S E D H c => match g S E H c with
   | some x => Ef.casesOn x fun v ups => match H.get c with
     | none => put v S E D (insU H ups) (Nat.succ c)
     | some _ => .bad 15 o.pos
   | none => .bad 14 o.pos⟩
  | .st g, ⟨put⟩ => ⟨fun S E D H c => match g S E H with
   | some x => Ef.casesOn x fun v ups => put v S E D (insU H ups) c
   | none => .bad 14 o.pos⟩
  | .mn fx g, ⟨put⟩ => ⟨fun S E D H c => match g S E H with
   | some [x] => Ef.casesOn x fun v ups => (fun H' => put v S E D H' (roomX fx S E H' v c)) (insU H ups)
   | some xs => (Rs.many xs).bind fun x => Ef.casesOn x fun v ups => (fun H' => put v S E D H' (roomX fx S E H' v c)) (insU H ups)
   | none => .bad 14 o.pos⟩
  | .no, _ => ⟨fun _ _ _ _ _ => .bad 16 o.pos⟩ := by
  obtain ⟨d, op, ty, pos, af, gd⟩ := o
  simp only [] at hop
  rcases hop with ⟨t, rfl⟩ | ⟨t, n, ps, rfl⟩ <;> rfl
 rw [e, hg] at h
 cases hput : pshK o.dst k with
 | mk put =>
  rw [hput] at h
  simp only [] at h
  split at h
  ·rename_i x hx
   obtain ⟨v, ups⟩ := x
   simp only [] at h
   split at h
   ·rename_i hc
    rw [show put = (pshK o.dst k).f from by rw [hput], pshK_eq] at h
    exact ⟨g, ⟨v, ups⟩, hg, hx, hc, h⟩
   ·exact h.elim
  ·exact h.elim
theorem stepX_cv {Γ : List Nat} {o : Oper} {s t : TypeId} {x : Nat} {k : KX} {S : List CV} {E : Tr CV} {D : Dx} {H : Tr CO} {c : Nat} {T : XE × St → Prop} (hl : S.length = Γ.length) (hop : o.op = .convert s t (.tmp x)) (hb : isBytes P s t = true) (h : ((stepX P hd live Γ o k).f S E D H c).sat T) :
  ∃ v r co, opdC (gx Γ S (gl live E)) (.tmp x) = some v ∧ H.get r = some co ∧ (k (pshS o.dst v S) E D (H.ins r co) c).sat T := by
 obtain ⟨d, op, ty, pos, af, gd⟩ := o
 simp only [] at hop
 subst hop
 have hg := opF_cv (P := P) (live := live) (Γ := Γ) (ty := ty) hb (.tmp x)
 unfold stepX at h
 simp only [] at h
 rw [hg] at h
 cases hput : pshK d k with
 | mk put =>
  rw [hput] at h
  have e : ∃ g, st1 (opdX live Γ (.tmp x)) (fun H v => efSame P s t H.get v) = .st g := ⟨_, rfl⟩
  obtain ⟨g, hgg⟩ := e
  rw [hgg] at h
  simp only [] at h
  split at h
  ·rename_i y hy
   obtain ⟨v, h1, h2⟩ := st1_spec hgg hl hy
   obtain ⟨r, co, rfl, h3⟩ := efSame_spec h2
   simp only [] at h
   rw [show put = (pshK d k).f from by rw [hput], pshK_eq] at h
   exact ⟨v, r, co, h1, h3, h⟩
  ·exact h.elim
theorem gx_none {t : Nat} : ∀ {Γ : List Nat} {S : List CV} {G : CE}, t ∉ Γ → G t = none → gx Γ S G t = none
 | [], S, G, _, h => by cases S <;> exact h
 | y :: Γ, [], G, _, h => h
 | y :: Γ, v :: S, G, hn, h => by
  simp only [gx]
  rw [if_neg (fun e => hn (by simp [e]))]
  exact gx_none (fun hm => hn (by simp [hm])) h
theorem getD_put_self {a : Act} {d : Nat} {v : Value} (h : d < a.tmps.size) : (a.put (some d) v).tmps.getD d undef = v := by
 simp [Act.put, h]
theorem Dn.shrink {l : Array Bool} {m i j : Nat} (hj : Dn l (bset m i) j) : Dn l m j ∧ j ≠ i := by
 refine ⟨⟨hj.1, ?_⟩, fun e => ?_⟩
 ·cases hb : bt m j with
  | false => rfl
  | true => have h2 := hj.2; rw [(bt_bset m i j).2 (.inl hb)] at h2; cases h2
 ·have h2 := hj.2
  rw [(bt_bset m i j).2 (.inr e)] at h2; cases h2
theorem weak_ef {γ γ' : Ga} {pr : List Pe} {i nn : Nat} {l : Array Bool} {a : Act} {w : World} {QQ : Nat → Exit → Act → World → Prop} {Q0 : Act → World → Prop} (hle : Gle γ γ') (hl : l.getD i false = true) (hk : (ksOf ks i).isEf = true)
  (h : AHS rb P ops QQ Q0 (Sf an ks γ' (dropP (anOf an i) pr)) nn l a w) : AHS rb P ops QQ Q0 (Sf an ks γ pr) nn l a w :=
 AHS.weakL (fun l => l.getD i false = true) (fun l j hl => getD_set_true hl) (fun l w hl ⟨F', γ2, H', k1, k2, k3⟩ => ⟨F', γ2, H', hle.trans k1, k2, fun pe hpe hc => k3 pe (dropP_mem.2 ⟨hpe, hc i hl hk⟩) hc⟩) nn l a w hl h
theorem ef_done (hD : DF P N live ops src an ks) {m i : Nat} {oi : Oper} {Γ : List Nat} {k : KX} {pre : List Oper} (hi : ops[i]? = some oi) (hmi : bt m i = false) (hkd : (ksOf ks i).isEf = true)
  (ih : PlanOK P N live ct ops an ks F Q rb k (bset m i) (psh oi.dst Γ)) {nn : Nat} {l : Array Bool} {a : Act} {w : World} {γ : Ga} {S : List CV} {E : Tr CV} {ds : List DV} {C : Tr LS} {ro : Option Nat} {pr : List Pe} {H : Tr CO} {c : Nat} {Bk : Nat → Nat}
  (hn : cntF l.toList ≤ nn) (hs : Shut ops l) (hm : ∀ j, bt m j = true → l.getD j false = true) (hl : S.length = Γ.length) (hk : ((efD P hd N (minus live ct) Γ ops.toList oi (anOf an i) (alF live ct ops an ks i) pre k).f S E ⟨ds, C, ro, pr⟩ H c).sat (PoD F N live rb Q γ)) (hrel : Rel F γ (Tr.get H) w)
  (he : SatE N γ (gx Γ S (gl (minus live ct) E)) a.tmps) (hX : XR γ rb ⟨ds, C, ro, pr⟩ a.defers) (hE : EInv P ops ks F γ H.get l m a w Bk) (hdone : l.getD i false = true) : AHS rb P ops (QD Q live (alF live ct ops an ks)) (Q .normal) (Sf an ks γ pr) nn l a w := by
 obtain ⟨hpre, hk⟩ := efD_cases hl hk
 obtain ⟨acc, hacc, hkk⟩ := hD.kind i oi hi
 have hat := hE.at_ i oi hi ⟨hdone, hmi⟩
 have hear := hat.early
 have hm2 : ∀ j, bt (bset m i) j = true → l.getD j false = true := fun j hj => by
  rcases (bt_bset m i j).1 hj with h | rfl
  ·exact hm j h
  ·exact hdone
 rcases kindD_spec (P := P) (live := live) (src := src) (ops := ops.toList) (acc := acc) (an := anOf an i) (o := oi) with h | h | ⟨hg, d, hd', h⟩
 ·rw [hkk, h] at hear; cases hear
 ·rw [hkk, h] at hear; cases hear
 have hk := hk.resolve_right fun ⟨_, h2⟩ => by
  have := h2 γ a.tmps he
  simp [Region.wanted, hg] at this
 rcases h with ⟨h, hop⟩ | ⟨q, s, t, x, ok, n, ps, h, hop, hb, hsx, hok, hq, hbt, hob⟩ | ⟨qs, _, _, _, _, h, _⟩
 ·have hki : ksOf ks i = .mk := by rw [hkk, h]
  unfold EAt at hat
  rw [hki] at hat
  obtain ⟨hmade, hslot⟩ := hat
  obtain ⟨hnk, hun⟩ := hE.blk i ⟨hdone, hmi⟩ hki
  obtain ⟨g, x, h1, h2, h3, h4⟩ := stepX_mk hop hk.1
  obtain ⟨h5, h6⟩ := chkK_cases h4
  rw [post_pre] at h5 h6
  obtain ⟨γ', j1, j2, j3, j4⟩ := mk_join (Df := a.defers) hop h1 hl h2 ⟨he, rfl⟩ hrel h3 hmade hnk hun
  rw [← insU_eq] at j2 j4
  have e2 := (he.mono j1).putSame (d := oi.dst) (x := x.v) fun t ht => by rw [hslot t ht]; exact j3
  rw [← gx_psh] at e2
  have hE2 : EInv P ops ks F γ' (insU H x.ups).get l (bset m i) a w Bk :=
   ⟨fun j o ho hj => hE.at_ j o ho hj.shrink.1, fun j hj hkj => ⟨(hE.blk j hj.shrink.1 hkj).1, j4 (Bk j) (hE.dis j i hj.shrink.1 ⟨hdone, hmi⟩ hkj hki hj.shrink.2) (hE.blk j hj.shrink.1 hkj).2⟩,
    fun j j' hj hj' => hE.dis j j' hj.shrink.1 hj'.shrink.1⟩
  have := ih nn l a w γ' _ E ⟨ds, C, ro, dropP (anOf an i) pr⟩ _ _ Bk hn hs hm2 (psh_len hl) (Rs.sat_mono (fun x hx => PoD.mono _ _ x j1 hx) h6) j2 e2 ⟨(hX.mono j1).d, (hX.mono j1).c, (hX.mono j1).r⟩ h5 hE2
  exact weak_ef j1 hdone hkd this
 ·have hki : ksOf ks i = .cv q := by rw [hkk, h]
  unfold EAt at hat
  rw [hki] at hat
  obtain ⟨oq, hoq, hslot, hx⟩ := hat
  obtain ⟨v, r, co, h1, h2, h4⟩ := stepX_cv hl hop hb hk.1
  obtain ⟨h5, h6⟩ := chkK_cases h4
  rw [post_pre] at h5 h6
  have hget : (H.ins r co).get = H.get := by
   funext j
   rw [Tr.get_ins]
   by_cases e : j = r
   ·rw [if_pos e, e, h2]
   ·rw [if_neg e]
  have hv : den γ v = some (a.tmps.getD x undef) := (⟨he, rfl⟩ : SatC N a.defers γ _ a).eval h1
  have e2 := he.putSame (d := oi.dst) (x := v) fun t' ht => by rw [hslot t' ht, hv, hx s t x hop]
  rw [← gx_psh] at e2
  have hE2 : EInv P ops ks F γ (H.ins r co).get l (bset m i) a w Bk := by
   rw [hget]
   exact ⟨fun j o ho hj => hE.at_ j o ho hj.shrink.1, fun j hj hkj => hE.blk j hj.shrink.1 hkj, fun j j' hj hj' => hE.dis j j' hj.shrink.1 hj'.shrink.1⟩
  have := ih nn l a w γ _ E ⟨ds, C, ro, dropP (anOf an i) pr⟩ _ _ Bk hn hs hm2 (psh_len hl) h6 (by rw [hget]; exact hrel) e2 ⟨hX.d, hX.c, hX.r⟩ h5 hE2
  exact weak_ef (Gle.refl _) hdone hkd this
 ·rw [hkk, h] at hkd; cases hkd
theorem ef_at (hh : HdOK P hd) (hD : DF P N live ops src an ks) {m i : Nat} {oi : Oper} {Γ : List Nat} {k : KX} {pre : List Oper} (hi : ops[i]? = some oi) (hmi : bt m i = false) (hkd : (ksOf ks i).isEf = true)
  (ih : PlanOK P N live ct ops an ks F Q rb k (bset m i) (psh oi.dst Γ)) {nn : Nat} {l : Array Bool} {a : Act} {w : World} {γ : Ga} {S : List CV} {E : Tr CV} {ds : List DV} {C : Tr LS} {ro : Option Nat} {pr : List Pe} {H : Tr CO} {c : Nat} {Bk : Nat → Nat}
  (hn : cntF l.toList ≤ nn + 1) (hs : Shut ops l) (hm : ∀ j, bt m j = true → l.getD j false = true) (hl : S.length = Γ.length) (hk : ((efD P hd N (minus live ct) Γ ops.toList oi (anOf an i) (alF live ct ops an ks i) pre k).f S E ⟨ds, C, ro, pr⟩ H c).sat (PoD F N live rb Q γ)) (hrel : Rel F γ (Tr.get H) w)
  (he : SatE N γ (gx Γ S (gl (minus live ct) E)) a.tmps) (hX : XR γ rb ⟨ds, C, ro, pr⟩ a.defers) (hpr : ∀ pe ∈ pr, pe.f H = some pe.v) (hE : EInv P ops ks F γ H.get l m a w Bk) (hr : i ∈ Region.ready .any ops l) :
  wpOpIn (FR rb) 0 P ops (QD Q live (alF live ct ops an ks) i) i (fun a' w' => Sf an ks γ pr (l.setIfInBounds i true) w' ∧ AHS rb P ops (QD Q live (alF live ct ops an ks)) (Q .normal) (Sf an ks γ pr) nn (l.setIfInBounds i true) a' w') a w := by
 obtain ⟨hpre, hk⟩ := efD_cases hl hk
 have hpt := (mem_ready.1 hr).1
 have hp := getD_both hpt
 have hcnt := cntF_pos hpt
 have hs2 := hs.set hr
 have hli := getD_set_at hs hi false
 have hm2 : ∀ j, bt (bset m i) j = true → (l.setIfInBounds i true).getD j false = true := fun j hj => by
  rcases (bt_bset m i j).1 hj with h | rfl
  ·exact getD_set_true (hm j h)
  ·exact hli
 have hdn := Dn.both (l := l) hs (m := m) hp
 have hrel' := hE.rebase hrel
 unfold Go.wpOpIn
 simp only [hi]
 rcases hk with ⟨hk, hw⟩ | ⟨hk, hw⟩
 ·rw [if_pos (hw γ a.tmps he)]
  have hpo : PoOK (preP (alF live ct ops an ks i) (anOf an i) pr) (PoD F N live rb Q) ⟨w, Kb F ks l m Bk⟩ N (minus live ct) rb (QD Q live (alF live ct ops an ks) i) := by
   refine ⟨fun γ γ' x h hp => PoD.mono γ γ' x h hp, fun γ2 v σ hσ hpo => ?_⟩
   obtain ⟨hnil, hpost⟩ := hpo
   rw [hσ] at hnil
   cases hal : alF live ct ops an ks i with
   | false => rw [hal] at hnil; cases hnil
   | true =>
    intro γ3 a3 w3 hle3 hst u hu
    have hnl : noneIn ct live = true := by
     unfold alF at hal; rw [Bool.and_eq_true] at hal; exact hal.1
    have hE3 : SatE N γ3 (gl live σ.E) a3.tmps := hst.e.sub fun t v ht => by
     simp only [gl] at ht ⊢
     cases hlv : elemN live t with
     | false => rw [hlv] at ht; cases ht
     | true => rw [hlv] at ht; rw [minus_none hnl t hlv]; exact ht
    have key : ∀ a', Agr live a3 a' → Q (.panic [{ v := u, recovered := false }]) a' w3 := fun a' ha' => by
     refine hpost γ3 a' w3 hle3 ⟨hrel.back (fun b hb => .inl hb) hst.rel, ⟨by rw [ha'.2.1]; exact hE3.size, fun t v ht => ?_⟩, by rw [ha'.1]; exact hst.x⟩ u hu
     have hlv : elemN live t = true := by
      simp only [gl] at ht
      cases hlv : elemN live t with
      | false => rw [hlv] at ht; cases ht
      | true => rfl
     rw [ha'.2.2 t hlv]; exact hE3.get t v ht
    exact ⟨key a3 ⟨rfl, rfl, fun _ _ => rfl⟩, fun c hc => by cases hc; exact ⟨hal, key⟩⟩
  have hK : KOK (preP (alF live ct ops an ks i) (anOf an i) pr) (PoD F N live rb Q) (Kp ops ks l a) ⟨w, Kb F ks l m Bk⟩ γ N (minus live ct) rb (psh oi.dst Γ)
    (fun a' w' => Sf an ks γ pr (l.setIfInBounds i true) w' ∧ AHS rb P ops (QD Q live (alF live ct ops an ks)) (Q .normal) (Sf an ks γ pr) nn (l.setIfInBounds i true) a' w') (chkK (alF live ct ops an ks i) oi.pos k) := by
   intro S2 E2 D2 H2 c2 γ2 hpr2 hl2 hle2 hk2 a2 w2 hrel2 he2 hX2 hZ2
   obtain ⟨ds2, C2, ro2, pr2⟩ := D2
   simp only [] at hpr2
   subst hpr2
   obtain ⟨h5, h6⟩ := chkK_cases hk2
   rw [post_pre] at h5 h6
   have hE2 := hE.after hs hdn hrel2 hZ2
   have hA := ih nn (l.setIfInBounds i true) a2 w2 γ2 S2 E2 ⟨ds2, C2, ro2, dropP (anOf an i) pr⟩ H2 c2 Bk (by omega) hs2 hm2 hl2 h6 (hrel.back (fun b hb => .inl hb) hrel2) he2 ⟨hX2.d, hX2.c, hX2.r⟩ h5 hE2
   exact ⟨⟨_, γ2, H2, hle2, hrel2, fun pe hpe hc => h5 pe (dropP_mem.2 ⟨hpe, hc i hli hkd⟩)⟩, weak_ef hle2 hli hkd hA⟩
  exact stepX_ok (rb := rb) (γ0 := γ) hh (hD.dstO i oi hi) hpo hK S E _ H c γ rfl hl (Gle.refl _) hk a w hrel' he ⟨hX.d, hX.c, hX.r⟩ fun ds v => hD.kp hs hi hp a ds v
 ·rw [if_neg (by rw [hw γ a.tmps he]; simp)]
  refine ⟨fun _ _ => trivial, ⟨F, γ, H, Gle.refl _, hrel, fun pe hpe _ => hpr pe hpe⟩, ?_⟩
  have e2 := he.putC (a := a) (x := .tu []) (v := undef) (hD.dstO i oi hi) rfl
  rw [← gx_psh] at e2
  have hE2 := hE.after hs hdn hrel' (hD.kp hs hi hp a a.defers undef)
  exact ih nn (l.setIfInBounds i true) (a.put oi.dst undef) w γ _ E ⟨ds, C, ro, pr⟩ H c Bk (by omega) hs2 hm2 (psh_len hl) hk hrel e2 (by rw [put_defers]; exact ⟨hX.d, hX.c, hX.r⟩) hpr hE2
end
end Go.Y
end
section
/- Regions that draw their order: what comes up early; the theorem. -/
namespace Go.Y
open Go Go.RowKit Go.X
section
variable {P : Program} {hd : Hd} {N : Nat} {live ct : List Nat} {ops : Array Oper} {src an : Tr Nat} {ks : Tr DK} {F : Fr} {Q : Exit → Act → World → Prop} {rb : Option Nat}
theorem early_none (hD : DF P N live ops src an ks) (hct : ct = ctD ks ops.toList 0) {m : Nat} {Γ : List Nat} (hΓ : ∀ t ∈ Γ, ∃ j o, ops[j]? = some o ∧ o.dst = some t ∧ bt m j = true) {i' : Nat} {o' : Oper} (hi' : ops[i']? = some o') (hmi' : bt m i' = false) (hear : (ksOf ks i').early = true) {S : List CV} {E : Tr CV} :
  ∀ t, o'.dst = some t → gx Γ S (gl (minus live ct) E) t = none := fun t ht => by
 refine gx_none (fun hm => ?_) ?_
 ·obtain ⟨j, o, h1, h2, h3⟩ := hΓ t hm
  have k1 := hD.srcO j o t h1 h2
  have k2 := hD.srcO i' o' t hi' ht
  rw [k1] at k2; cases k2
  rw [h3] at hmi'; cases hmi'
 ·have hc : elemN ct t = true := elemN_mem.2 (by
   rw [hct]; exact ctD_spec ops.toList 0 i' o' t (by rw [at_list]; exact hi') (by rw [Nat.zero_add]; exact hear) ht)
  have : elemN (minus live ct) t = false := by
   cases h : elemN (minus live ct) t with
   | false => rfl
   | true => rw [(minus_spec.1 h).2] at hc; cases hc
  simp only [gl, this]
  rfl
theorem Dn.more {l : Array Bool} {m i' j : Nat} (hj : Dn (l.setIfInBounds i' true) m j) (hne : j ≠ i') : Dn l m j := ⟨by have := hj.1; rwa [getD_set_ne false (Ne.symm hne)] at this, hj.2⟩
theorem own_look (hD : DF P N live ops src an ks) {l : Array Bool} (hs : Shut ops l) {i' : Nat} {o' : Oper} (hi' : ops[i']? = some o') (hr : i' ∈ Region.ready .any ops l) (hear : (ksOf ks i').early = true) : ∀ d, o'.dst = some d → d ∉ o'.looksAt ops := fun d hd hx => by
 rcases hD.sep i' o' d i' hi' hx (hD.srcO i' o' d hi' hd) with h | ⟨h, _⟩
 ·have := hD.upR hs hr h
  rw [getD_both (mem_ready.1 hr).1] at this; cases this
 ·rw [hear] at h; cases h
theorem early_mk (hD : DF P N live ops src an ks) {m : Nat} {l : Array Bool} (hs : Shut ops l) {i' : Nat} {o' : Oper} (hi' : ops[i']? = some o') (hr : i' ∈ Region.ready .any ops l) (hk : ksOf ks i' = .mk) (hg : o'.guard = none) {d : Nat} (hd' : o'.dst = some d) {a : Act} {w : World} {γ : Ga} {H : Tr CO} {Bk : Nat → Nat}
  (hrel : Rel F γ H.get w) (hE : EInv P ops ks F γ H.get l m a w Bk) (hsz : d < a.tmps.size) {vs : List Value} {T : TypeId} (hm : MakesAt P a o' vs T) {K : Act → World → Prop}
  (hK : ∀ w' Bk', Rel F γ H.get w' → EInv P ops ks F γ H.get (l.setIfInBounds i' true) m (a.put o'.dst (mkV o'.op w.heap.size)) w' Bk' → K (a.put o'.dst (mkV o'.op w.heap.size)) w') {Q' : Exit → Act → World → Prop} : wpOpIn (FR rb) 0 P ops Q' i' K a w := by
 have hear : (ksOf ks i').early = true := by rw [hk]; rfl
 have hp := getD_both (mem_ready.1 hr).1
 refine wpOpIn_val hi' hg (noDf_op hD.ndf hi') (hm w) (hK _ (fun j => if j = i' then w.heap.size else Bk j) (hrel.chg (Chg.alloc w _) (by simp)) ?_)
 have hKp := hD.kp hs hi' hp a a.defers (mkV o'.op w.heap.size)
 have hex : execOp (a.put o'.dst (mkV o'.op w.heap.size)).eval o' = execOp a.eval o' := execOp_put o' (fun cs b => Region.noSelect_spec hD.sel i' o' cs b hi') a o'.dst _ (own_look hD hs hi' hr hear)
 refine ⟨fun j o ho hj => ?_, fun j hj hkj => ?_, fun j j' hj hj' hkj hkj' hne => ?_⟩
 ·by_cases e : j = i'
  ·subst e
   rw [hi'] at ho; cases ho
   unfold EAt
   rw [hk]
   simp only [if_pos]
   refine ⟨⟨vs, T, (0, 0), fun w => by rw [hex]; exact hm w, heap_new w _, .inl rfl⟩, fun d2 hd2 => ?_⟩
   rw [hd'] at hd2; cases hd2
   rw [hd']
   exact getD_put_self hsz
  ·have hj2 := hj.more e
   exact (hE.at_ j o ho hj2).keep hKp ho hj2.1 (if_neg e) fun hkj => Below.heap_alloc w _ _ (hE.lt hs hj2 hkj)
 ·by_cases e : j = i'
  ·rw [if_pos e]
   refine ⟨fun hk => by have := hk.2; have := hrel.size; omega, fun r o g hr hg hm => ?_⟩
   exact Nat.lt_irrefl _ (hrel.own r o g hr hg _ hm).1
  ·rw [if_neg e]; exact hE.blk j (hj.more e) hkj
 ·by_cases e : j = i'
  ·rw [if_pos e, if_neg (fun e2 => hne (e.trans e2.symm))]
   have := hE.lt hs (hj'.more fun e2 => hne (e.trans e2.symm)) hkj'
   omega
  ·rw [if_neg e]
   by_cases e2 : j' = i'
   ·rw [if_pos e2]
    have := hE.lt hs (hj.more e) hkj
    omega
   ·rw [if_neg e2]; exact hE.dis j j' (hj.more e) (hj'.more e2) hkj hkj' hne
theorem early_cv (hD : DF P N live ops src an ks) {m : Nat} {l : Array Bool} (hs : Shut ops l) {i' : Nat} {o' : Oper} (hi' : ops[i']? = some o') (hr : i' ∈ Region.ready .any ops l) {q : Nat} (hk : ksOf ks i' = .cv q) (hg : o'.guard = none) {d : Nat} (hd' : o'.dst = some d) {a : Act} {w : World} {γ : Ga} {H : Tr CO} {Bk : Nat → Nat}
  {s t : TypeId} {x : Nat} {ok : Oper} {n : Nat} {ps : Array (Nat × Operand)} (hop : o'.op = .convert s t (.tmp x)) (hb : isBytes P s t = true) (hsx : src.get x = some q) (hok : ops[q]? = some ok) (hkq : ksOf ks q = .mk) (hob : ok.op = .buildSlice s n ps) (hq : Dn l m q)
  (hrel : Rel F γ H.get w) (hE : EInv P ops ks F γ H.get l m a w Bk) (hsz : d < a.tmps.size) {K : Act → World → Prop}
  (hK : ∀ v w' Bk', Rel F γ H.get w' → EInv P ops ks F γ H.get (l.setIfInBounds i' true) m (a.put o'.dst v) w' Bk' → K (a.put o'.dst v) w') {Q' : Exit → Act → World → Prop} : wpOpIn (FR rb) 0 P ops Q' i' K a w := by
 have hear : (ksOf ks i').early = true := by rw [hk]; rfl
 have hp := getD_both (mem_ready.1 hr).1
 have hqne : q ≠ i' := fun e => by subst e; rw [hq.1] at hp; cases hp
 have hatq := hE.at_ q ok hok hq
 unfold EAt at hatq
 rw [hkq] at hatq
 obtain ⟨hmade, hslot⟩ := hatq
 obtain ⟨cur, T, fr, hh, hmade2⟩ := hmade.frozen ⟨s, n, ps, hob⟩
 obtain ⟨oq', k1, k2⟩ := hD.srcI x q hsx
 rw [hok] at k1; cases k1
 have hx := hslot x k2
 have hxv : a.eval (.tmp x) = .slice (some ⟨Bk q, 0, none⟩) n n := by
  have : a.eval (.tmp x) = a.tmps.getD x undef := by simp [Act.eval]
  rw [this, hx, hob]; rfl
 have hmk : mkV ok.op (Bk q) = .slice (some ⟨Bk q, 0, none⟩) n n := by rw [hob]; rfl
 obtain ⟨hnk, hun⟩ := hE.blk q hq hkq
 have hchg := freeze_chg w ⟨Bk q, cur.size, none⟩ 1
 refine wpOpIn_val hi' hg (noDf_op hD.ndf hi') (cv_run hb hxv hh hop) (hK _ _ (fun j => if j = i' then Bk q else Bk j) (hrel.chg hchg ?_) ?_)
 ·intro b hbm hlt
  have : b = Bk q := by simpa using hbm
  subst this
  exact ⟨hnk, hun⟩
 have hKp := hD.kp hs hi' hp a a.defers (.slice (some ⟨Bk q, 0, none⟩) n n)
 have hlook := own_look hD hs hi' hr hear
 refine ⟨fun j o ho hj => ?_, fun j hj hkj => ?_, fun j j' hj hj' hkj hkj' hne => ?_⟩
 ·by_cases e : j = i'
  ·subst e
   rw [hi'] at ho; cases ho
   unfold EAt
   rw [hk]
   simp only [if_pos]
   refine ⟨ok, hok, fun d2 hd2 => ?_, fun s2 t2 x2 hop2 => ?_⟩
   ·rw [hd'] at hd2; cases hd2
    rw [hd', hmk]
    exact getD_put_self hsz
   ·rw [hop] at hop2; cases hop2
    rw [hd']
    rw [getD_put fun e => hlook d hd' (by rw [← e]; exact looks_tmp (by rw [hop]; simp [Op.operands]))]
    exact hx
  ·have hj2 := hj.more e
   by_cases eq : j = q
   ·subst eq
    rw [hok] at ho; cases ho
    obtain ⟨c1, c2, c3⟩ := hKp j ok hok hq.1 (by rw [hkq]; rfl)
    unfold EAt
    rw [hkq]
    simp only [if_neg e]
    obtain ⟨vs, T2, fr2, m1, m2, m3⟩ := hmade2
    exact ⟨⟨vs, T2, fr2, fun w => by have := m1 w; rwa [← c2] at this, m2, m3⟩, fun d2 hd2 => (c1 d2 hd2).trans (hslot d2 hd2)⟩
   ·refine (hE.at_ j o ho hj2).keep hKp ho hj2.1 (if_neg e) fun hkj => hchg.block _ (hE.lt hs hj2 hkj) fun hm => ?_
    have : Bk j = Bk q := by simpa using hm
    exact hE.dis j q hj2 hq hkj hkq eq this
 ·by_cases e : j = i'
  ·subst e; rw [hk] at hkj; cases hkj
  ·rw [if_neg e]; exact hE.blk j (hj.more e) hkj
 ·have e : j ≠ i' := fun e => by subst e; rw [hk] at hkj; cases hkj
  have e2 : j' ≠ i' := fun e => by subst e; rw [hk] at hkj'; cases hkj'
  rw [if_neg e, if_neg e2]; exact hE.dis j j' (hj.more e) (hj'.more e2) hkj hkj' hne
theorem eB_sat (hD : DF P N live ops src an ks) {m : Nat} {l : Array Bool} {a : Act} {w : World} {γ : Ga} {H : Tr CO} {Bk : Nat → Nat} (hsz : N ≤ a.tmps.size) (hE : EInv P ops ks F γ H.get l m a w Bk) : SatE N (gB ops ks Bk) (eB ops src ks (Dn l m)) a.tmps := by
 refine ⟨hsz, fun t v ht => ?_⟩
 unfold eB at ht
 cases hs : src.get t with
 | none => rw [hs] at ht; cases ht
 | some k =>
  rw [hs] at ht
  simp only [] at ht
  split at ht
  ·rename_i hdk
   obtain ⟨o, ho, hd⟩ := hD.srcI t k hs
   have hat := hE.at_ k o ho hdk
   obtain ⟨acc, hacc, hkk⟩ := hD.kind k o ho
   unfold EAt at hat
   cases hk : ksOf ks k with
   | mk =>
    rw [hk] at ht hat
    cases ht
    have hmk : isMk o.op := by
     rcases kindD_spec (P := P) (live := live) (src := src) (ops := ops.toList) (acc := acc) (an := anOf an k) (o := o) with h | h | ⟨hg, d, hd', ⟨h, h2⟩ | ⟨_, _, _, _, _, _, _, h, _⟩ | ⟨_, _, _, _, _, h, _⟩⟩
     ·rw [← hkk, hk] at h; cases h
     ·rw [← hkk, hk] at h; cases h
     ·exact h2
     ·rw [← hkk, hk] at h; cases h
     ·rw [← hkk, hk] at h; cases h
    rw [den_ph ho (by simp [baseD, hk]) hmk, hat.2 t hd]
   | cv q =>
    rw [hk] at ht hat
    cases ht
    obtain ⟨oq, h1, h2, h3⟩ := hat
    rcases kindD_spec (P := P) (live := live) (src := src) (ops := ops.toList) (acc := acc) (an := anOf an k) (o := o) with h | h | ⟨hg, d, hd', ⟨h, _⟩ | ⟨q', s, t', x, ok, n, ps, h, hop, hb, hsx, hok, hq, hbt, hob⟩ | ⟨_, _, _, _, _, h, _⟩⟩
    ·rw [← hkk, hk] at h; cases h
    ·rw [← hkk, hk] at h; cases h
    ·rw [← hkk, hk] at h; cases h
    ·rw [← hkk, hk] at h; cases h
     have : ops[q]? = some ok := by rw [nth_eq] at hok; simpa using hok
     rw [h1] at this; cases this
     rw [den_ph h1 (by simp [baseD, hk]) (.inr ⟨s, n, ps, hob⟩), h2 t hd]
    ·rw [← hkk, hk] at h; cases h
   | rd => rw [hk] at ht; cases ht
   | bd _ => rw [hk] at ht; cases ht
   | ef => rw [hk] at ht; cases ht
  ·cases ht
theorem early_bd (hD : DF P N live ops src an ks) {m : Nat} {l : Array Bool} (hs : Shut ops l) {i' : Nat} {o' : Oper} (hi' : ops[i']? = some o') (hr : i' ∈ Region.ready .any ops l) {qs : List Nat} (hk : ksOf ks i' = .bd qs) (hg : o'.guard = none) {d : Nat} (hd' : o'.dst = some d) {a : Act} {w : World} {γ : Ga} {H : Tr CO} {Bk : Nat → Nat}
  {t : TypeId} {ps : Array (Nat × Operand)} {lq : List (Nat × CV)} {rv : CV} {acc : Tr DK} (hacc : ∀ k d, acc.get k = some d → ks.get k = some d) (hop : o'.op = .build t ps) (hc : chainB ops.toList src acc (anOf an i') ps.toList = some (qs, lq)) (hrb : rdBuild P t lq = some rv) (hq : ∀ q ∈ qs, bt m q = false)
  (hrel : Rel F γ H.get w) (hE : EInv P ops ks F γ H.get l m a w Bk) (hszN : N ≤ a.tmps.size) (hsz : d < a.tmps.size) {K : Act → World → Prop}
  (hK : ∀ v Bk', EInv P ops ks F γ H.get (l.setIfInBounds i' true) m (a.put o'.dst v) w Bk' → K (a.put o'.dst v) w) {Q' : Exit → Act → World → Prop} : wpOpIn (FR rb) 0 P ops Q' i' K a w := by
 have hear : (ksOf ks i').early = true := by rw [hk]; rfl
 have hp := getD_both (mem_ready.1 hr).1
 obtain ⟨c1, c2⟩ := chain_spec (ks := ks) (D := Dn l m) hacc hc
 have hx := c2 fun k hkq => ⟨hD.upR hs hr (c1 k hkq), hq k hkq⟩
 have hsat := eB_sat hD hszN hE
 obtain ⟨d0, op0, ty0, pos0, af0, gd0⟩ := o'
 simp only [] at hop hg hd'
 subst hop
 have hrun : ∀ w, ∃ v, den (gB ops ks Bk) rv = some v ∧ (execOp a.eval ⟨d0, .build t ps, ty0, pos0, af0, gd0⟩).run P w = .ok (.value v) w := fun w =>
  rd_build (P := P) (N := N) (H := fun _ => none) hx hrb (gB ops ks Bk) w a.defers a (fun r o g hr => by cases hr) ⟨hsat, rfl⟩ d0 pos0 af0 gd0
 obtain ⟨v, hv, hrunw⟩ := hrun w
 refine wpOpIn_val hi' hg (noDf_op hD.ndf hi') hrunw (hK v Bk ?_)
 have hKp := hD.kp hs hi' hp a a.defers v
 have hex := execOp_put (ops := ops) ⟨d0, .build t ps, ty0, pos0, af0, gd0⟩ (fun cs b => Region.noSelect_spec hD.sel i' _ cs b hi') a d0 v (own_look hD hs hi' hr hear)
 refine ⟨fun j o ho hj => ?_, fun j hj hkj => ?_, fun j j' hj hj' hkj hkj' hne => ?_⟩
 ·by_cases e : j = i'
  ·subst e
   rw [hi'] at ho; cases ho
   unfold EAt
   rw [hk]
   simp only []
   intro d2 hd2 w2
   rw [hd'] at hd2; cases hd2
   rw [hex]
   subst hd'
   rw [getD_put_self hsz]
   obtain ⟨v2, hv2, hrun2⟩ := hrun w2
   rw [hv] at hv2; cases hv2
   exact hrun2
  ·have hj2 := hj.more e
   exact (hE.at_ j o ho hj2).keep hKp ho hj2.1 rfl fun _ => rfl
 ·have e : j ≠ i' := fun e => by subst e; rw [hk] at hkj; cases hkj
  exact hE.blk j (hj.more e) hkj
 ·have e : j ≠ i' := fun e => by subst e; rw [hk] at hkj; cases hkj
  have e2 : j' ≠ i' := fun e => by subst e; rw [hk] at hkj'; cases hkj'
  exact hE.dis j j' (hj.more e) (hj'.more e2) hkj hkj' hne
theorem okd_lt {a : Act} (hsz : N ≤ a.tmps.size) {d : Nat} (h : okd N (some d) = true) : d < a.tmps.size := Nat.lt_of_lt_of_le (by simpa [okd] using h) hsz
theorem ef_ok (hh : HdOK P hd) (hD : DF P N live ops src an ks) (hct : ct = ctD ks ops.toList 0) {m i : Nat} {oi : Oper} {Γ : List Nat} {k : KX} {rem : List (Nat × Oper)} (hrem : ∀ j o, (j, o) ∈ rem ↔ ops[j]? = some o ∧ bt m j = false) (hΓ : ∀ t ∈ Γ, ∃ j o, ops[j]? = some o ∧ o.dst = some t ∧ bt m j = true)
  (hi : ops[i]? = some oi) (hmi : bt m i = false) (han : ∀ j, bt (anOf an i) j = true → bt m j = true) (hkd : (ksOf ks i).isEf = true) (hchk : chkD an ks m i rem = true)
  (ih : PlanOK P N live ct ops an ks F Q rb k (bset m i) (psh oi.dst Γ)) : PlanOK P N live ct ops an ks F Q rb (efD P hd N (minus live ct) Γ ops.toList oi (anOf an i) (alF live ct ops an ks i) (preL an ks i rem) k).f m Γ := by
 intro nn
 induction nn with
 | zero =>
  intro l a w γ S E D H c Bk hn hs hm hl hk hrel he hX hpr hE
  obtain ⟨ds, C, ro, pr⟩ := D
  by_cases hdone : l.getD i false = true
  ·exact ef_done hD hi hmi hkd ih hn hs hm hl hk hrel he hX hE hdone
  ·have hp : l.getD i false = false := by cases h : l.getD i false with | false => rfl | true => exact absurd h hdone
   have := cntF_pos (pend_both hs hi hp)
   omega
 | succ nn ihn =>
  intro l a w γ S E D H c Bk hn hs hm hl hk hrel he hX hpr hE
  obtain ⟨ds, C, ro, pr⟩ := D
  simp only [] at hpr ⊢
  by_cases hdone : l.getD i false = true
  ·exact ef_done hD hi hmi hkd ih hn hs hm hl hk hrel he hX hE hdone
  have hp : l.getD i false = false := by cases h : l.getD i false with | false => rfl | true => exact absurd h hdone
  have hri : i ∈ Region.ready .any ops l := hD.rdy hi (pend_both hs hi hp) fun j hj => hm j (han j hj)
  refine ⟨fun h => (by rw [h] at hri; cases hri), fun i' hi' => ?_⟩
  by_cases hii : i' = i
  ·subst hii
   exact ef_at hh hD hi hmi hkd ih hn hs hm hl hk hrel he hX hpr hE hri
  -- something comes up early
  obtain ⟨hpt', o', ho', _⟩ := mem_ready.1 hi'
  have hp' := getD_both hpt'
  have hmi' : bt m i' = false := by
   cases hb : bt m i' with
   | false => rfl
   | true => rw [hm i' hb] at hp'; cases hp'
  have hin := (hrem i' o').2 ⟨ho', hmi'⟩
  have han' : bt (anOf an i') i = false := by
   cases hb : bt (anOf an i') i with
   | false => rfl
   | true => rw [hD.upR hs hi' hb] at hp; cases hp
  have hmay : mayE ks m i' := by
   rcases chkD_spec hchk (i', o') hin with h | h | h
   ·exact absurd h hii
   ·rw [han'] at h; cases h
   ·exact h
  have hcnt := cntF_pos hpt'
  have hs2 := hs.set hi'
  have hm2 : ∀ j, bt m j = true → (l.setIfInBounds i' true).getD j false = true := fun j hj => getD_set_true (hm j hj)
  have hear : (ksOf ks i').early = true := by
   rcases hmay with h | ⟨q, h, _⟩ | ⟨qs, h, _⟩ <;> rw [h] <;> rfl
  have hnone := early_none (S := S) (E := E) hD hct hΓ ho' hmi' hear
  have fin : ∀ v w' Bk', Rel F γ H.get w' → EInv P ops ks F γ H.get (l.setIfInBounds i' true) m (a.put o'.dst v) w' Bk' →
    Sf an ks γ pr (l.setIfInBounds i' true) w' ∧ AHS rb P ops (QD Q live (alF live ct ops an ks)) (Q .normal) (Sf an ks γ pr) nn (l.setIfInBounds i' true) (a.put o'.dst v) w' := fun v w' Bk' hrel' hE' =>
   ⟨⟨F, γ, H, Gle.refl _, hrel', fun pe hpe _ => hpr pe hpe⟩, ihn (l.setIfInBounds i' true) (a.put o'.dst v) w' γ S E ⟨ds, C, ro, pr⟩ H c Bk' (by omega) hs2 hm2 hl hk hrel' (he.apart hnone) (by rw [put_defers]; exact hX) hpr hE'⟩
  obtain ⟨acc, hacc, hkk⟩ := hD.kind i' o' ho'
  rcases kindD_spec (P := P) (live := live) (src := src) (ops := ops.toList) (acc := acc) (an := anOf an i') (o := o') with h | h | ⟨hg, d, hd', h⟩
  ·rw [hkk, h] at hear; cases hear
  ·rw [hkk, h] at hear; cases hear
  have hsz : d < a.tmps.size := okd_lt he.size (by rw [← hd']; exact hD.dstO i' o' ho')
  rcases h with ⟨h, hop⟩ | ⟨q, s, t, x, ok, n, ps, h, hop, hb, hsx, hok, hq, hbt, hob⟩ | ⟨qs, t, ps, lq, rv, h, hop, hc, hrb⟩
  ·have hki : ksOf ks i' = .mk := by rw [hkk, h]
   obtain ⟨hpre, _⟩ := efD_cases hl hk
   obtain ⟨g, x, h1, h2⟩ := preG_spec hpre o' (preL_mem (x := (i', o')) hin hki hii han')
   obtain ⟨vs, T, cs, _, hmakes, _, _⟩ := mk_data (Df := a.defers) hop h1 hl h2 ⟨he, rfl⟩
   exact early_mk hD hs ho' hi' hki hg hd' hrel hE hsz hmakes fun w' Bk' h1 h2 => fin _ w' Bk' h1 h2
  ·have hki : ksOf ks i' = .cv q := by rw [hkk, h]
   have hmq : bt m q = false := by
    rcases hmay with h | ⟨q', h, h2⟩ | ⟨qs, h, _⟩
    ·rw [hki] at h; cases h
    ·rw [hki] at h; cases h; exact h2
    ·rw [hki] at h; cases h
   have hokq : ops[q]? = some ok := by rw [nth_eq] at hok; simpa using hok
   have hkq : ksOf ks q = .mk := by unfold ksOf; rw [hacc _ _ hq]
   exact early_cv hD hs ho' hi' hki hg hd' hop hb hsx hokq hkq hob ⟨hD.upR hs hi' hbt, hmq⟩ hrel hE hsz fun v w' Bk' h1 h2 => fin v w' Bk' h1 h2
  ·have hki : ksOf ks i' = .bd qs := by rw [hkk, h]
   have hmq : ∀ q ∈ qs, bt m q = false := by
    rcases hmay with h | ⟨q', h, h2⟩ | ⟨qs', h, h2⟩
    ·rw [hki] at h; cases h
    ·rw [hki] at h; cases h
    ·rw [hki] at h; cases h; exact h2
   exact early_bd hD hs ho' hi' hki hg hd' hacc hop hc hrb hmq hrel hE he.size hsz fun v Bk' h2 => fin v w Bk' hrel h2
theorem plan_ok (hh : HdOK P hd) (hD : DF P N live ops src an ks) (hct : ct = ctD ks ops.toList 0) : ∀ (n m : Nat) (rem : List (Nat × Oper)) (Γ : List Nat), (∀ j o, (j, o) ∈ rem ↔ ops[j]? = some o ∧ bt m j = false) → (∀ t ∈ Γ, ∃ j o, ops[j]? = some o ∧ o.dst = some t ∧ bt m j = true) →
  PlanOK P N live ct ops an ks F Q rb (runD P hd N live (minus live ct) ct ops.toList (planD ops.toList live an ks (noneIn ct live) n m rem) Γ).f m Γ := by
 have fin : ∀ m Γ, (∀ j o, (j, o) ∈ ([] : List (Nat × Oper)) ↔ ops[j]? = some o ∧ bt m j = false) → PlanOK P N live ct ops an ks F Q rb (endD live ct Γ).f m Γ := fun m Γ hrem => fin_ok hct fun j o ho => by
  cases hb : bt m j with
  | true => rfl
  | false => have := (hrem j o).2 ⟨ho, hb⟩; cases this
 intro n
 induction n with
 | zero =>
  intro m rem Γ hrem hΓ
  cases rem with
  | nil => exact fin m Γ hrem
  | cons x r => exact bad_ok
 | succ n ihn =>
  intro m rem Γ hrem hΓ
  cases rem with
  | nil => exact fin m Γ hrem
  | cons x0 r0 =>
   have e : planD ops.toList live an ks (noneIn ct live) (n + 1) m (x0 :: r0) = match selP an ks m (x0 :: r0) (x0 :: r0) with
    | some x => match ksOf ks x.1 with
     | .rd => .rd x.1 x.2 (planD ops.toList live an ks (noneIn ct live) n (bset m x.1) (delP x.1 (x0 :: r0)))
     | .bd _ => .rd x.1 x.2 (planD ops.toList live an ks (noneIn ct live) n (bset m x.1) (delP x.1 (x0 :: r0)))
     | _ => .ef x.1 x.2 (anOf an x.1) (noneIn ct live && alD live an ks x.1 ops.toList 0) (preL an ks x.1 (x0 :: r0)) (planD ops.toList live an ks (noneIn ct live) n (bset m x.1) (delP x.1 (x0 :: r0)))
    | none => .no 39 := rfl
   generalize x0 :: r0 = rem at *
   rw [e]
   cases hsel : selP an ks m rem rem with
   | none => exact bad_ok
   | some x =>
    obtain ⟨i, oi⟩ := x
    obtain ⟨h1, h2, h3⟩ := selP_spec hsel
    obtain ⟨hi, hmi⟩ := (hrem i oi).1 h1
    have hrem2 : ∀ j o, (j, o) ∈ delP i rem ↔ ops[j]? = some o ∧ bt (bset m i) j = false := fun j o => by
     rw [delP_mem, hrem]
     constructor
     ·rintro ⟨⟨k1, k2⟩, k3⟩
      refine ⟨k1, ?_⟩
      cases hb : bt (bset m i) j with
      | false => rfl
      | true =>
       rcases (bt_bset m i j).1 hb with h | h
       ·rw [h] at k2; cases k2
       ·exact absurd h k3
     ·rintro ⟨k1, k2⟩
      refine ⟨⟨k1, ?_⟩, fun e => ?_⟩
      ·cases hb : bt m j with
       | false => rfl
       | true => rw [(bt_bset m i j).2 (.inl hb)] at k2; cases k2
      ·rw [(bt_bset m i j).2 (.inr e)] at k2; cases k2
    have hΓ2 : ∀ t ∈ psh oi.dst Γ, ∃ j o, ops[j]? = some o ∧ o.dst = some t ∧ bt (bset m i) j = true := fun t ht => by
     have old : t ∈ Γ → ∃ j o, ops[j]? = some o ∧ o.dst = some t ∧ bt (bset m i) j = true := fun h => by
      obtain ⟨j, o, k1, k2, k3⟩ := hΓ t h
      exact ⟨j, o, k1, k2, (bt_bset m i j).2 (.inl k3)⟩
     cases hd : oi.dst with
     | none => rw [hd] at ht; exact old ht
     | some d =>
      rw [hd] at ht
      rcases List.mem_cons.1 ht with rfl | ht
      ·exact ⟨i, oi, hi, hd, (bt_bset m i i).2 (.inr rfl)⟩
      ·exact old ht
    have ih := ihn (bset m i) (delP i rem) (psh oi.dst Γ) hrem2 hΓ2
    have rdc : (ksOf ks i).isEf = false → PlanOK P N live ct ops an ks F Q rb (runD P hd N live (minus live ct) ct ops.toList (.rd i oi (planD ops.toList live an ks (noneIn ct live) n (bset m i) (delP i rem))) Γ).f m Γ := fun hkd => by
     have e2 : runD P hd N live (minus live ct) ct ops.toList (.rd i oi (planD ops.toList live an ks (noneIn ct live) n (bset m i) (delP i rem))) Γ = match runD P hd N live (minus live ct) ct ops.toList (planD ops.toList live an ks (noneIn ct live) n (bset m i) (delP i rem)) (psh oi.dst Γ) with
      | ⟨k⟩ => rdD P N (minus live ct) Γ ops.toList i oi k := rfl
     rw [e2]
     cases hk : runD P hd N live (minus live ct) ct ops.toList (planD ops.toList live an ks (noneIn ct live) n (bset m i) (delP i rem)) (psh oi.dst Γ) with
     | mk k =>
      rw [hk] at ih
      exact rd_ok hD hi hmi h2 hkd ih
    have efc : (ksOf ks i).isEf = true → PlanOK P N live ct ops an ks F Q rb (runD P hd N live (minus live ct) ct ops.toList (.ef i oi (anOf an i) (noneIn ct live && alD live an ks i ops.toList 0) (preL an ks i rem) (planD ops.toList live an ks (noneIn ct live) n (bset m i) (delP i rem))) Γ).f m Γ := fun hkd => by
     have e2 : runD P hd N live (minus live ct) ct ops.toList (.ef i oi (anOf an i) (noneIn ct live && alD live an ks i ops.toList 0) (preL an ks i rem) (planD ops.toList live an ks (noneIn ct live) n (bset m i) (delP i rem))) Γ = match runD P hd N live (minus live ct) ct ops.toList (planD ops.toList live an ks (noneIn ct live) n (bset m i) (delP i rem)) (psh oi.dst Γ) with
      | ⟨k⟩ => efD P hd N (minus live ct) Γ ops.toList oi (anOf an i) (noneIn ct live && alD live an ks i ops.toList 0) (preL an ks i rem) k := rfl
     rw [e2]
     cases hk : runD P hd N live (minus live ct) ct ops.toList (planD ops.toList live an ks (noneIn ct live) n (bset m i) (delP i rem)) (psh oi.dst Γ) with
     | mk k =>
      rw [hk] at ih
      exact ef_ok hh hD hct hrem hΓ hi hmi h2 hkd (h3 hkd) ih
    simp only []
    cases hkk : ksOf ks i with
    | rd => exact rdc (by rw [hkk]; rfl)
    | bd _ => exact rdc (by rw [hkk]; rfl)
    | mk => exact efc (by rw [hkk]; rfl)
    | cv _ => exact efc (by rw [hkk]; rfl)
    | ef => exact efc (by rw [hkk]; rfl)
end
theorem cntF_rep : ∀ n, cntF (List.replicate n false) = n
 | 0 => rfl
 | n + 1 => by rw [List.replicate_succ]; simp [cntF, cntF_rep n]
theorem draw_ok {P : Program} {hd : Hd} (hh : HdOK P hd) : DrawOK P hd := by
 intro N live id ops rb Q F γ σ hs a w hst
 unfold drawX at hs
 split at hs
 ·rename_i hm
  rw [Bool.and_eq_true, Bool.and_eq_true] at hm
  split at hs
  ·rename_i src hsrc
   unfold drawW drawZ drawY at hs
   split at hs
   ·rename_i hsep
    unfold drawV at hs
    have hD := DF.of (P := P) (live := live) hsrc rfl hsep hm.2.1 hm.2.2
    obtain ⟨E, ⟨ds, C, ro, pr⟩, H, c⟩ := σ
    split at hs
    rename_i g hg
    simp only [] at hs
    have hplan := plan_ok (F := F) (Q := Q) (rb := rb) hh hD rfl ops.size 0 (numD ops.toList 0) [] (fun j o => by
     rw [numD_mem, bt_zero]
     constructor
     ·rintro ⟨i, h1, h2⟩
      simp only [Nat.zero_add] at h2
      subst h2
      exact ⟨by rw [← at_list]; exact h1, rfl⟩
     ·rintro ⟨h1, _⟩
      exact ⟨j, by rw [at_list]; exact h1, by simp⟩) (fun t ht => by cases ht)
    rw [hg] at hplan
    refine wpIn_region_any hm.1 (AHS.any (fun _ _ _ _ h => h.1) (fun _ _ h => h) _ _ _ _ (hplan ops.size (Array.replicate ops.size false) a { w with drawn := w.drawn + 1 } γ [] E ⟨ds, C, ro, []⟩ H c (fun _ => 0) ?_ Shut.none (fun j hj => by rw [bt_zero] at hj; cases hj) rfl ?_ ?_ ?_ ⟨hst.x.d, hst.x.c, hst.x.r⟩ (fun pe hpe => by cases hpe) ?_))
    ·rw [Array.toList_replicate, cntF_rep]; exact Nat.le_refl _
    ·unfold npC at hs
     refine Rs.sat_mono (fun x hx => ?_) (Rs.sat_bind hs)
     obtain ⟨e, σ⟩ := x
     cases e with
     | n => exact hx
     | p v =>
      simp only [] at hx
      split at hx
      ·rename_i hnil; exact ⟨hnil, hx⟩
      ·exact hx.elim
     | e _ => exact hx.elim
     | g _ => exact hx.elim
     | r => exact hx.elim
    ·exact hst.rel.chg (Chg.drew w) (by simp)
    ·refine hst.e.sub fun t v ht => ?_
     have ht : gl (minus live _) E t = some v := ht
     simp only [gl] at ht ⊢
     cases hl : elemN (minus live (ctD (kindsD P live src ops.toList (ancs ops.toList 0 .nil) ops.toList 0 .nil) ops.toList 0)) t with
     | false => rw [hl] at ht; cases ht
     | true => rw [hl] at ht; rw [(minus_spec.1 hl).1]; exact ht
    ·have hno : ∀ j, ¬ Dn (Array.replicate ops.size false) 0 j := fun j hj => by
      have := hj.1
      rcases Nat.lt_or_ge j ops.size with h' | h'
      ·simp [h'] at this
      ·simp [Array.getElem?_eq_none (show (Array.replicate ops.size false).size ≤ j by simpa using h')] at this
     exact ⟨fun j o _ hj => absurd hj (hno j), fun j hj => absurd hj (hno j), fun j _ hj => absurd hj (hno j)⟩
   ·exact hs.elim
  ·exact hs.elim
 ·exact hs.elim
end Go.Y
end
section
/- The concrete executor goes asg the program goes: deferred calls, calls. -/
namespace Go.Y
open Go Go.RowKit Go.X
section
variable {P : Program} {L : Nat} {hd : Hd} {N : Nat} {live : List Nat} {F : Fr} {γ0 : Ga}
def ModeOk (γ : Ga) (pn : Option CV) (u : FrameMode) : Prop := match pn with
 | none => u = .returning ∨ ∃ v, u = .panicking [{ v := v, recovered := true }]
 | some x => ∃ v, den γ x = some v ∧ u = .panicking [{ v := v, recovered := false }]
def ModeS (γ : Ga) (pn : Option CV) (u : FrameMode) : Prop := match pn with
 | none => u = .returning
 | some x => ∃ v, den γ x = some v ∧ u = .panicking [{ v := v, recovered := false }]
theorem ModeOk.mono {γ γ' : Ga} (h : Gle γ γ') : ∀ {pn : Option CV} {u : FrameMode}, ModeOk γ pn u → ModeOk γ' pn u
 | none, _, k => k
 | some x, _, ⟨v, h1, h2⟩ => ⟨v, den_mono h _ h1, h2⟩
theorem ModeS.mono {γ γ' : Ga} (h : Gle γ γ') : ∀ {pn : Option CV} {u : FrameMode}, ModeS γ pn u → ModeS γ' pn u
 | none, _, k => k
 | some x, _, ⟨v, h1, h2⟩ => ⟨v, den_mono h _ h1, h2⟩
theorem ModeS.ok {γ : Ga} : ∀ {pn : Option CV} {u : FrameMode}, ModeS γ pn u → ModeOk γ pn u
 | none, _, k => .inl k
 | some x, _, k => k
theorem ModeOk.settle {γ : Ga} : ∀ {pn : Option CV} {u : FrameMode}, ModeOk γ pn u → ModeS γ pn (Go.settle u)
 | none, u, h => by
  rcases h with rfl | ⟨v, rfl⟩ <;> rfl
 | some x, u, ⟨v, h1, h2⟩ => ⟨v, h1, by rw [h2]; rfl⟩
theorem ModeS.run {γ : Ga} : ∀ {pn : Option CV} {u : FrameMode}, ModeS γ pn u → u ≠ .run
 | none, u, h => by rw [show u = .returning from h]; simp
 | some x, u, ⟨v, h1, h2⟩ => by rw [h2]; simp
def PostS (F : Fr) (γ0 : Ga) (N : Nat) (live : List Nat) (Q : Exit → Act → FrameMode → World → Prop) (x : XE × Sp) : Prop :=
 ∀ γ a u w, Gle γ0 γ → StR F γ N live none x.2.σ a w → ModeOk γ x.2.pn u → match x.1 with
  | .n => Q .normal a u w
  | .e id => Q (.exit id) a u w
  | .g l => Q (.goto l) a u w
  | .r => Q .ret a u w
  | .p v => ∀ z, den γ v = some z → Q (.panic [{ v := z, recovered := false }]) a u w
theorem PostS.le {γ γ' : Ga} {Q : Exit → Act → FrameMode → World → Prop} (h : Gle γ γ') {x : XE × Sp} (hp : PostS F γ N live Q x) : PostS F γ' N live Q x := fun γ2 a u w hle => hp γ2 a u w (h.trans hle)
def QS (c₀ : Frame) (cs0 : List Frame) (Q : Exit → Act → FrameMode → World → Prop) : Exit → Act → List Frame → World → Prop := fun e a cs w => ∃ u, cs = { c₀ with mode := u } :: cs0 ∧ Q e a u w
variable {Q : Exit → Act → FrameMode → World → Prop} {c₀ : Frame} {cs0 : List Frame}
def KOKS (F : Fr) (γ0 : Ga) (N : Nat) (live Γ : List Nat) (Q : Exit → Act → FrameMode → World → Prop) (W : Act → FrameMode → World → Prop) (k : KSx) : Prop :=
 ∀ S E D H c pn γ, S.length = Γ.length → Gle γ0 γ → (k S E D H c pn).sat (PostS F γ N live Q) → ∀ a u w, Rel F γ H.get w → SatE N γ (gx Γ S (gl live E)) a.tmps → XR γ none D a.defers → ModeOk γ pn u → W a u w
theorem pshS2_eq (d : Option Nat) (k : KSx) (v : CV) (S : List CV) : (pshS2 d k).f v S = k (pshS d v S) := by cases d <;> rfl
theorem runS_ok (ops : Array Oper) : ∀ (os : List Oper) (i : Nat) (Γ : List Nat), ops.toList.drop i = os →
  KOKS F γ0 N live Γ Q (fun a u w => wpOpsSIn Fence.wide 0 P ops (QS c₀ cs0 Q) (List.range' i os.length) a ({ c₀ with mode := u } :: cs0) w) (runS P N live ops.toList os Γ).f
 | [], i, Γ, _ => by
  intro S E D H c pn γ hl hle hs a u w hr he hX hm
  exact ⟨u, rfl, hs γ a u w (Gle.refl _) ⟨hr, he.sub (flush_spec Γ S E hl), hX⟩ hm⟩
 | o :: os, i, Γ, hdrop => by
  intro S E D H c pn γ hl hle hs a u w hr he hX hm
  have hdrop' : ops.toList.drop (i + 1) = os := by
   rw [← List.drop_drop, hdrop]; rfl
  have hio : ops[i]? = some o := by
   have : (ops.toList.drop i)[0]? = some o := by rw [hdrop]; rfl
   rw [List.getElem?_drop] at this
   simpa using this
  have ih := runS_ok ops os (i + 1) (psh o.dst Γ) hdrop'
  have e : runS P N live ops.toList (o :: os) Γ = match okd N o.dst, runS P N live ops.toList os (psh o.dst Γ) with
   | true, ⟨k⟩ => match stepS P live Γ o k with
    | ⟨st⟩ => match guardX N live Γ ops.toList o.guard, pshS2 o.dst k with
     | none, _ => ⟨st⟩
     | some ⟨g⟩, ⟨put⟩ => ⟨fun S E D H c pn => match g S E with
      | .go => st S E D H c pn
      | .skip => put (.tu []) S E D H c pn
      | .bad => .bad 18 o.pos⟩
   | false, _ => ⟨fun _ _ _ _ _ _ => .bad 13 o.pos⟩ := rfl
  rw [e] at hs
  rw [List.length_cons, List.range'_succ]
  cases ho : okd N o.dst with
  | false => rw [ho] at hs; exact hs.elim
  | true =>
   rw [ho] at hs
   simp only [] at hs
   have hC : SatC N a.defers γ (gx Γ S (gl live E)) a := ⟨he, rfl⟩
   -- behind it
   have fin : ∀ {v : CV} {z : Value} {pn' : Option CV} {u' : FrameMode}, den γ v = some z → ModeOk γ pn' u' → ((runS P N live ops.toList os (psh o.dst Γ)).f (pshS o.dst v S) E D H c pn').sat (PostS F γ N live Q) →
     wpOpsSIn Fence.wide 0 P ops (QS c₀ cs0 Q) (List.range' (i + 1) os.length) (a.put o.dst z) ({ c₀ with mode := u' } :: cs0) w := by
    intro v z pn' u' hv hm' hsat
    refine ih _ _ _ _ _ _ γ (psh_len hl) hle hsat _ _ _ hr ?_ (by rw [put_defers]; exact hX) hm'
    rw [gx_psh]; exact he.putC ho hv
   have step : ((stepS P live Γ o (runS P N live ops.toList os (psh o.dst Γ)).f).f S E D H c pn).sat (PostS F γ N live Q) →
     (match (execOp a.eval o).run P w with
     | .ok .recover w' =>
      match recoverD ({ c₀ with mode := u } :: cs0) with
      | some (v, cs') => wpOpsSIn Fence.wide 0 P ops (QS c₀ cs0 Q) (List.range' (i + 1) os.length) (a.put o.dst v) cs' w'
      | none => wpOpsSIn Fence.wide 0 P ops (QS c₀ cs0 Q) (List.range' (i + 1) os.length) (a.put o.dst .nilIface) ({ c₀ with mode := u } :: cs0) w'
     | .ok (.value v) w' => wpOpsSIn Fence.wide 0 P ops (QS c₀ cs0 Q) (List.range' (i + 1) os.length) (a.put o.dst v) ({ c₀ with mode := u } :: cs0) w'
     | .ok .skip w' => wpOpsSIn Fence.wide 0 P ops (QS c₀ cs0 Q) (List.range' (i + 1) os.length) (a.put o.dst undef) ({ c₀ with mode := u } :: cs0) w'
     | .halt (.panic v) w' => QS c₀ cs0 Q (.panic [{ v, recovered := false }]) a ({ c₀ with mode := u } :: cs0) w'
     | _ => False) := by
    intro hs
    obtain ⟨d, op, ty, pos, af, gd⟩ := o
    unfold stepS at hs
    simp only [] at hs
    split at hs
    ·rename_i args ts _
     have hrun : (execOp a.eval ⟨d, .call ⟨.builtin .recover, args, ts⟩, ty, pos, af, gd⟩).run P w = .ok .recover w := by
      simp [execOp, resolve, invoke, builtin]
     rw [hrun]
     simp only [] at hs ⊢
     cases pn with
     | none =>
      have hrec : recoverD ({ c₀ with mode := u } :: cs0) = none := by
       rcases hm with rfl | ⟨v, rfl⟩ <;> simp [recoverD]
      rw [hrec]
      simp only [pshS2_eq] at hs
      exact fin rfl hm hs
     | some x =>
      obtain ⟨v, h1, rfl⟩ := hm
      have hrec : recoverD ({ c₀ with mode := .panicking [{ v := v, recovered := false }] } :: cs0) = some (v, { c₀ with mode := .panicking [{ v := v, recovered := true }] } :: cs0) := by simp [recoverD]
      rw [hrec]
      simp only [pshS2_eq] at hs
      exact fin h1 (show ModeOk γ none _ from Or.inr ⟨v, rfl⟩) hs
    ·split at hs
     ·rename_i g put hg hput
      simp only [] at hs
      split at hs
      ·rename_i v hv
       obtain ⟨z, h1, h2⟩ := opF_rd (N := N) (show opF P live Γ ty op = OpF.rd g from by rw [← opG_eq]; exact hg) hl hv γ w _ a hr.toR hC d pos af gd
       have hp : put v S = (runS P N live ops.toList os (psh d Γ)).f (pshS d v S) := by
        have := pshS2_eq d (runS P N live ops.toList os (psh d Γ)).f v S
        rw [← this, hput]
       rw [h2]
       rw [hp] at hs
       exact fin h1 hm hs
      ·exact hs.elim
     ·exact hs.elim
   unfold wpOpsSIn
   simp only [hio]
   refine ⟨fun _ _ => trivial, ?_⟩
   cases hg : guardX N live Γ ops.toList o.guard with
   | none =>
    rw [hg] at hs
    have hgn := guardX_none hg
    rw [if_pos (by simp [Region.wanted, hgn])]
    exact step hs
   | some gg =>
    obtain ⟨g⟩ := gg
    rw [hg] at hs
    obtain ⟨g1, g2⟩ := guardX_some hg hl he
    simp only [] at hs
    cases hgo : g S E with
    | go =>
     rw [hgo] at hs
     rw [if_pos (g1 hgo)]
     exact step hs
    | skip =>
     rw [hgo] at hs
     rw [if_neg (by rw [g2 hgo]; simp)]
     simp only [pshS2_eq] at hs
     exact fin rfl hm hs
    | bad => rw [hgo] at hs; exact hs.elim
theorem execS_ok (hh : HdOK P hd) (hdr : DrawOK P hd) : ∀ (c : Code) (Q : Exit → Act → FrameMode → World → Prop) (γ : Ga) (s : Sp), ((execS P L hd N live c).f s).sat (PostS F γ N live Q) → ∀ a u w, StR F γ N live none s.σ a w → ModeOk γ s.pn u →
  c.wpSIn Fence.wide 0 P (QS c₀ cs0 Q) a ({ c₀ with mode := u } :: cs0) w := by
 intro c
 have plain : ∀ (c : Code) (Q : Exit → Act → FrameMode → World → Prop) (γ : Ga) (s : Sp), (((execC P L hd N live c).f s.σ).bind fun x => (.one (x.1, ⟨x.2, s.pn⟩) : RS)).sat (PostS F γ N live Q) → ∀ a u w, StR F γ N live none s.σ a w → ModeOk γ s.pn u →
   c.wpSIn Fence.wide 0 P (QS c₀ cs0 Q) a ({ c₀ with mode := u } :: cs0) w := by
  intro c Q γ s hs a u w hst hm
  refine wpSIn_of_wpIn rfl (exec_ok hh hdr c none (fun e a' w' => QS c₀ cs0 Q e a' ({ c₀ with mode := u } :: cs0) w') F γ s.σ (Rs.sat_mono (fun y hy => ?_) (Rs.sat_bind hs)) a w hst)
  obtain ⟨x, σ'⟩ := y
  intro γ' a' w' hle hst'
  have := hy γ' a' u w' hle hst' (hm.mono hle)
  cases x with
  | n => exact ⟨u, rfl, this⟩
  | e id => exact ⟨u, rfl, this⟩
  | g l => exact ⟨u, rfl, this⟩
  | r => exact ⟨u, rfl, this⟩
  | p v => exact fun z hz => ⟨u, rfl, this z hz⟩
 induction c with
 | seq x y ihx ihy =>
  intro Q γ s hs a u w hst hm
  unfold execS at hs
  split at hs
  ·exact plain _ Q γ s hs a u w hst hm
  ·have hs : (((execS P L hd N live x).f s).bind fun z => match z.1 with
    | .n => (execS P L hd N live y).f z.2
    | _ => .one z).sat (PostS F γ N live Q) := hs
   refine wpSIn_seq ?_
   have h1 := ihx (fun e a u w => match e with
    | .normal => y.wpSIn Fence.wide 0 P (QS c₀ cs0 Q) a ({ c₀ with mode := u } :: cs0) w
    | e => Q e a u w) γ s (Rs.sat_mono (fun z hz => ?_) (Rs.sat_bind hs)) a u w hst hm
   ·intro b k hb hro hF hroom
    obtain ⟨e, a', cs', w', h2, ⟨u', rfl, h3⟩, h4⟩ := h1 b k hb hro hF hroom
    refine ⟨e, a', _, w', h2, ?_, h4⟩
    cases e with
    | normal => exact h3
    | exit id => exact ⟨u', rfl, h3⟩
    | goto l => exact ⟨u', rfl, h3⟩
    | ret => exact ⟨u', rfl, h3⟩
    | panic ch => exact ⟨u', rfl, h3⟩
    | outgrown => exact ⟨u', rfl, h3⟩
   ·obtain ⟨xe, s'⟩ := z
    intro γ' a' u' w' hle hst' hm'
    cases xe with
    | n => exact ihy Q γ' s' (Rs.sat_mono (fun q hq => PostS.le hle hq) hz) a' u' w' hst' hm'
    | e id => exact hz γ' a' u' w' hle hst' hm'
    | g l => exact hz γ' a' u' w' hle hst' hm'
    | r => exact hz γ' a' u' w' hle hst' hm'
    | p v => exact hz γ' a' u' w' hle hst' hm'
 | region id ops draw =>
  intro Q γ s hs a u w hst hm
  unfold execS at hs
  split at hs
  ·exact plain _ Q γ s hs a u w hst hm
  ·cases draw with
   | true => exact hs.elim
   | false =>
    have hs : ((runS P N live ops.toList ops.toList []).f [] s.σ.E s.σ.D s.σ.H s.σ.c s.pn).sat (PostS F γ N live Q) := hs
    refine wpSIn_region ?_
    have := runS_ok (P := P) (F := F) (γ0 := γ) (Q := Q) (c₀ := c₀) (cs0 := cs0) ops ops.toList 0 [] rfl [] s.σ.E s.σ.D s.σ.H s.σ.c s.pn γ rfl (Gle.refl _) hs a u w hst.rel hst.e hst.x hm
    rw [List.range_eq_range']
    simpa using this
 | _ =>
  intro Q γ s hs a u w hst hm
  unfold execS at hs
  split at hs
  ·exact plain _ Q γ s hs a u w hst hm
  ·exact hs.elim
end
end Go.Y
end
section
/- The concrete executor goes asg the program goes: calls. -/
namespace Go.Y
open Go Go.RowKit Go.X
section
variable {P : Program} {L : Nat} {hd : Hd} {N : Nat} {live : List Nat} {F : Fr} {γ0 : Ga}
theorem envC_get : ∀ (l : List CV) (i t : Nat) (v : CV), (envC i l).get t = some v → i ≤ t ∧ l[t - i]? = some v
 | [], i, t, v, h => by cases h
 | x :: l, i, t, v, h => by
  simp only [envC, Tr.get_ins] at h
  by_cases e : t = i
  ·subst e; rw [if_pos rfl] at h; cases h; exact ⟨Nat.le_refl _, by simp⟩
  ·rw [if_neg e] at h
   obtain ⟨h1, h2⟩ := envC_get l (i + 1) t v h
   refine ⟨by omega, ?_⟩
   have : t - i = (t - (i + 1)) + 1 := by omega
   rw [this]; simpa using h2
theorem envC_sat {γ : Ga} {args : List CV} {vs : List Value} {n : Nat} (ha : denL γ args = some vs) (live : List Nat) : SatE n γ (gl live (envC 0 args)) (vs.toArray ++ Array.replicate (n - vs.toArray.size) undef) := by
 refine ⟨?_, fun t v hg => ?_⟩
 ·simp; omega
 ·simp only [gl] at hg
  cases hlv : elemN live t with
  | false => rw [hlv] at hg; cases hg
  | true =>
   rw [hlv, cond_true] at hg
   obtain ⟨_, h2⟩ := envC_get _ _ _ _ hg
   have h2 : args[t]? = some v := by simpa using h2
   obtain ⟨u, h3, h4⟩ := denL_get ha h2
   rw [h4]
   have hlt := (List.getElem?_eq_some_iff.1 h3).1
   rw [← (List.getElem?_eq_some_iff.1 h3).2]
   simp [Array.getElem?_append_left, hlt]
theorem resC_run {γ : Ga} {G : CE} {H : Hp} {tmps : Array Value} {w : World} (hE : SatE N γ G tmps) (hr : RelR γ H w) : ∀ {rs : List ResultVar} {l : List CV}, resC P G H rs = some l →
  ∃ vs, denL γ l = some vs ∧ (rs.mapM (m := Sem) (resF { tmps := tmps, defers := [] })).run P w = .ok vs w
 | [], l, h => by simp [resC] at h; subst h; exact ⟨[], rfl, rfl⟩
 | .tmp t :: rs, l, h => by
  simp only [resC] at h
  split at h
  ·rename_i v m hv hm
   cases h
   obtain ⟨vs, k1, k2⟩ := resC_run hE hr hm
   refine ⟨tmps.getD t undef :: vs, denL_cons.2 ⟨_, _, hE.get t v hv, k1, rfl⟩, ?_⟩
   rw [List.mapM_cons]
   simp only [resF, Sem.run_bind, Sem.run_pure, Result.andThen_ok, k2]
  ·cases h
 | .cell q T :: rs, l, h => by
  simp only [resC] at h
  split at h
  ·rename_i x hx
   split at h
   ·rename_i v m hv hm
    cases h
    obtain ⟨vs, k1, k2⟩ := resC_run hE hr hm
    have hu := hE.get q x hx
    obtain ⟨u, k3, k4⟩ := load_run hv hr hu
    refine ⟨u :: vs, denL_cons.2 ⟨_, _, k3, k1, rfl⟩, ?_⟩
    rw [List.mapM_cons]
    have k5 : (resF { tmps := tmps, defers := [] } (.cell q T)).run P w = .ok u w := by
     have hp : ∃ g o, tmps.getD q undef = .pointer (some ⟨g, o, none⟩) := by
      unfold rdLoad at hv
      split at hv
      ·split at hv
       ·simp only [den] at hu
        split at hu
        ·exact ⟨_, _, (Option.some.inj hu).symm⟩
        ·cases hu
       ·cases hv
      ·split at hv
       ·simp only [den] at hu
        split at hu
        ·exact ⟨_, _, (Option.some.inj hu).symm⟩
        ·cases hu
       ·cases hv
      ·cases hv
     obtain ⟨g, o, hp⟩ := hp
     rw [hp] at k4
     simp only [resF, hp]
     simpa [Instr.loadAt, Instr.sureAddr, asAddr] using k4
    simp only [Sem.run_bind, k5, Result.andThen_ok, k2, Sem.run_pure]
   ·cases h
  ·cases h
def tupV : List Value → Value
 | [v] => v
 | l => .tuple l.toArray
theorem tupC_den {γ : Ga} {l : List CV} {vs : List Value} (h : denL γ l = some vs) : den γ (tupC l) = some (tupV vs) := by
 cases l with
 | nil => simp [denL] at h; subst h; rfl
 | cons x r =>
  obtain ⟨v, us, h1, h2, rfl⟩ := denL_cons.1 h
  cases r with
  | nil => simp [denL] at h2; subst h2; exact h1
  | cons y r =>
   obtain ⟨u, ws, h3, h4, rfl⟩ := denL_cons.1 h2
   simp only [tupC, den, h]; rfl
theorem results_run {γ : Ga} {G : CE} {H : Hp} {tmps : Array Value} {w : World} (hE : SatE N γ G tmps) (hr : RelR γ H w) {fn : Func} {l : List CV} (h : resC P G H fn.results.toList = some l) : ∃ us, denL γ l = some us ∧ (results fn tmps).run P w = .ok (tupV us) w := by
 obtain ⟨us, k1, k2⟩ := resC_run hE hr h
 refine ⟨us, k1, ?_⟩
 change (do let vs ← fn.results.mapM (resF { tmps := tmps, defers := [] }); pure (if h : vs.size = 1 then vs[0] else .tuple vs) : Sem Value).run P w = .ok (tupV us) w
 rw [Array.mapM_eq_mapM_toList]
 simp only [Sem.run_bind, Sem.run_map, k2, Result.andThen_ok, Sem.run_pure]
 match us with
 | [] => simp [tupV]
 | [v] => simp [tupV]
 | v :: u :: r => simp [tupV]
theorem resT_nil : ∀ {l : List ResultVar}, resT l = [] → l = []
 | [], _ => rfl
 | .tmp t :: l, h => by cases (show t :: resT l = [] from h)
 | .cell a T :: l, h => by cases (show a :: resT l = [] from h)
theorem callS_ok (hh : HdOK P hd) (hdr : DrawOK P hd) {C : Tr LS} {f : Nat} {args : List CV} {H : Tr CO} {c : Nat} {pn : Option CV} {γ : Ga} {Rd : FrameMode → World → Prop}
  (hs : (callS P L hd C f args H c pn).sat fun y => ∀ γ' w' u', Gle γ γ' → Rel F γ' y.2.H.get w' → ModeOk γ' y.1 u' → Rd u' w') {w : World} {vs : List Value} {u : FrameMode} (hr : Rel F γ H.get w) (ha : denL γ args = some vs) (hC : CRel γ C) (hm : ModeOk γ pn u) :
  CallsDIn Fence.wide 0 P f vs.toArray u w fun e u' w' => (∃ v, e = .returned v) ∧ Rd u' w' := by
 unfold callS at hs
 split at hs
 ·rename_i fn hfn
  split at hs
  ·rename_i cd hcd
   split at hs
   ·rename_i hres
    refine callsDIn_of_wpSIn (hh.fn _ _ hfn) hcd trivial fun c₀ cs hu => ?_
    have hc₀ : ({ c₀ with mode := u } : Frame) = c₀ := by subst hu; rfl
    have key := execS_ok (F := F) (c₀ := c₀) (cs0 := cs) (L := L) (N := fn.ntmps) (live := liveC cd []) hh hdr cd (fun e a u' w' => match e with
     | .normal => a.defers = [] ∧ Rd u' w'
     | .ret => a.defers = [] ∧ Rd u' w'
     | _ => False) γ ⟨⟨envC 0 args, ⟨[], C, none, []⟩, H, c⟩, pn⟩ (Rs.sat_mono (fun x hx => ?_) (Rs.sat_bind hs)) { tmps := vs.toArray ++ Array.replicate (fn.ntmps - vs.toArray.size) undef, defers := [] } u w ⟨hr, envC_sat ha _, ⟨rfl, hC, trivial⟩⟩ hm
    ·rw [hc₀] at key
     intro b k hb hro hF hroom
     obtain ⟨e, a', cs', w', h2, ⟨u', rfl, h3⟩, h4⟩ := key b k hb hro hF hroom
     refine ⟨e, a', _, w', h2, ?_, h4⟩
     have hempty : fn.results = #[] := by rw [← Array.toList_inj]; exact resT_nil hres
     have hrun : (results fn a'.tmps).run P w' = .ok (.tuple #[]) w' := by
      change (do let vs ← fn.results.mapM (resF a'); pure (if h : vs.size = 1 then vs[0] else .tuple vs) : Sem Value).run P w' = .ok (.tuple #[]) w'
      rw [hempty]; simp
     cases e with
     | normal => exact ⟨h3.1, u', rfl, _, hrun, ⟨_, rfl⟩, h3.2⟩
     | ret => exact ⟨h3.1, u', rfl, _, hrun, ⟨_, rfl⟩, h3.2⟩
     | exit id => exact h3.elim
     | goto l => exact h3.elim
     | panic ch => exact h3.elim
     | outgrown => exact h3.elim
    ·obtain ⟨xe, s⟩ := x
     intro γ' a' u' w' hle hst hm'
     have fin : ((match s.σ.D.D with
       | [] => .one (s.pn, ⟨s.σ.H, s.σ.c⟩)
       | _ => .bad 71 : Rs (Option CV × HC)).sat fun y => ∀ γ' w' u', Gle γ γ' → Rel F γ' y.2.H.get w' → ModeOk γ' y.1 u' → Rd u' w') → a'.defers = [] ∧ Rd u' w' := by
      intro h
      split at h
      ·rename_i hD
       have hd := hst.x.d
       rw [hD] at hd
       exact ⟨hd, h γ' w' u' hle hst.rel hm'⟩
      ·exact h.elim
     cases xe with
     | n => exact fin hx
     | r => exact fin hx
     | e id => exact hx.elim
     | g l => exact hx.elim
     | p v => exact fun _ _ => hx.elim
   ·exact hs.elim
  ·exact hs.elim
 ·exact hs.elim
theorem leaveC_ok (hh : HdOK P hd) (hdr : DrawOK P hd) {C : Tr LS} {fn : Func} {tmps : Array Value} {R : Ending → World → Prop} {k : Option CV → Tr CO → Nat → Rs (En × HC)} :
  ∀ (D : List DV) (ds : List Deferred) (pn : Option CV) (H : Tr CO) (c : Nat) (γ : Ga) (u : FrameMode) (w : World), (leaveC P L hd C D k pn H c).sat (PostC F γ R) → Rel F γ H.get w → DRel γ D ds → CRel γ C → ModeS γ pn u →
   (∀ pn H c γ' u w, Gle γ γ' → (k pn H c).sat (PostC F γ' R) → Rel F γ' H.get w → ModeS γ' pn u → LeavesIn Fence.wide 0 P fn tmps R [] u w) → LeavesInM Fence.wide 0 P fn tmps R ds u w
 | [], ds, pn, H, c, γ, u, w, hs, hr, hD, hC, hm, hk => by
  have hD : ds = [] := hD
  subst hD
  exact hk pn H c γ u w (Gle.refl _) hs hr hm
 | .mark r :: D, ds, pn, H, c, γ, u, w, hs, hr, hD, hC, hm, hk => by
  obtain ⟨g, ds', hg, rfl, hD'⟩ := hD
  have hs : (match H.get r with
   | some .df => leaveC P L hd C D k pn (H.ins r .gone) c
   | _ => .bad 74 : Rs (En × HC)).sat (PostC F γ R) := hs
  split at hs
  ·rename_i hH
   have hheap : w.heap[g.b]? = some (.deferred (some [])) := hr.ok _ _ g hH hg
   refine ⟨hm.run, .inl ⟨g.b, _, rfl, run_takeDeferred (P := P) hheap, ?_⟩⟩
   refine leaveC_ok hh hdr D ds' pn _ c γ u _ hs ?_ hD' hC hm hk
   rw [hput_ins]
   exact hr.upd (o' := .gone) hH hg ((putB_chg w g.b _).mono (by simp [CO.fp])) (by simp [CO.fp]) trivial
  ·exact hs.elim
 | .fn f args caps :: D, ds, pn, H, c, γ, u, w, hs, hr, hD, hC, hm, hk => by
  obtain ⟨vs, cs, ds', h1, h2, rfl, hD'⟩ := hD
  have hs : (match callable hd.fn f with
   | true => ((callS P L hd C f (app args caps) H c pn).bind fun x => leaveC P L hd C D k x.1 x.2.H x.2.c)
   | false => .bad 75 : Rs (En × HC)).sat (PostC F γ R) := hs
  split at hs
  ·rename_i hcb
   obtain ⟨fn', hfn, hf1, hf2⟩ := callable_spec hh hcb
   have hall : denL γ (app args caps) = some (vs ++ cs) := by rw [app_eq]; exact denL_append h1 h2
   refine ⟨hm.run, .inr ⟨fun h => (by cases h), .func f, cs.toArray, f, (vs ++ cs).toArray, rfl, ?_, fun _ _ => trivial, ?_⟩⟩
   ·have e3 : vs.toArray ++ cs.toArray = (vs ++ cs).toArray := by rw [← Array.toList_inj]; simp
    rw [← e3]
    simp [invoke, run_call hfn hf1 hf2]
   ·refine (callS_ok (F := F) hh hdr (Rs.sat_mono (fun y hy => ?_) (Rs.sat_bind hs)) hr hall hC hm.ok).mono (fun e u' w' he => ?_) (R := fun e u' w' => (∃ v, e = .returned v) ∧ LeavesInM Fence.wide 0 P fn tmps R ds' (Go.settle u') w')
    ·intro γ' w' u' hle hr' hm'
     exact leaveC_ok hh hdr D ds' y.1 y.2.H y.2.c γ' _ w' (Rs.sat_mono (fun z hz => PostC.le hle hz) hy) hr' (hD'.mono hle) (hC.mono hle) hm'.settle fun pn H c γ2 u w hle2 hsat hrel hm => hk pn H c γ2 u w (hle.trans hle2) hsat hrel hm
    ·obtain ⟨⟨v, rfl⟩, h⟩ := he
     exact h
  ·exact hs.elim
end
end Go.Y
end
section
/- The concrete executor goes asg the program goes: the whole. -/
namespace Go.Y
open Go Go.RowKit Go.X
section
variable {P : Program} {L : Nat} {hd : Hd} {N : Nat} {live : List Nat} {F : Fr} {γ0 : Ga}
noncomputable def endC (P : Program) (L : Nat) (hd : Hd) (C : Tr LS) (live : List Nat) (rs : List ResultVar) (x : XE × St) : Rs (En × HC) := match x.1 with
      | .n | .r => leaveC P L hd C x.2.D.D (fun pn H c => match pn with
        | none => match resC P (gl live x.2.E) H.get rs with
          | some l => .one (.ret (tupC l), ⟨H, c⟩)
          | none => .bad 40
        | some v => .one (.pan v, ⟨H, c⟩)) none x.2.H x.2.c
      | .p v => leaveC P L hd C x.2.D.D (fun pn H c => match pn with
        | none => match resC P (gl live x.2.E) H.get rs with
          | some l => .one (.ret (tupC l), ⟨H, c⟩)
          | none => .bad 40
        | some v => .one (.pan v, ⟨H, c⟩)) (some v) x.2.H x.2.c
      | _ => .bad 43
theorem callG_ok (hh : HdOK P hd) (hdr : DrawOK P hd) {C : Tr LS} {f : Nat} {args : List CV} {h : HC} {γ : Ga} {R : Ending → World → Prop} {fn : Func} {c : Code} (hfn : P.funcs[f]? = some fn) (hc : fn.body = some c) {r : RX} {w : World} {vs : List Value}
  (hex : ∀ Q a, r.sat (PostX F γ fn.ntmps (liveC c (resT fn.results.toList)) none Q) → StR F γ fn.ntmps (liveC c (resT fn.results.toList)) none ⟨envC 0 args, ⟨[], C, none, []⟩, h.H, h.c⟩ a w → c.wpIn (FR none) 0 P Q a w)
  (hs : (r.bind (endC P L hd C (liveC c (resT fn.results.toList)) fn.results.toList)).sat (PostC F γ R)) (hr : Rel F γ h.H.get w) (ha : denL γ args = some vs) (hC : CRel γ C) : Calls P f vs.toArray w R := by
 refine callsIn_wide.1 (callsIn_of_wp_marks (n := 0) hfn hc trivial ?_)
 refine hex _ _ (Rs.sat_mono (fun y hy => ?_) (Rs.sat_bind hs)) ⟨hr, envC_sat ha _, ⟨rfl, hC, trivial⟩⟩
 obtain ⟨x, σ⟩ := y
 intro γ2 a2 w2 hle hst
 have fin : ∀ (pn : Option CV) (u : FrameMode), ModeS γ2 pn u → (leaveC P L hd C σ.D.D (fun pn H c1 => match pn with
   | none => match resC P (gl (liveC c (resT fn.results.toList)) σ.E) H.get fn.results.toList with
    | some l => .one (.ret (tupC l), ⟨H, c1⟩)
    | none => .bad 40
   | some v => .one (.pan v, ⟨H, c1⟩)) pn σ.H σ.c).sat (PostC F γ R) → LeavesInM Fence.wide 0 P fn a2.tmps R a2.defers u w2 := by
  intro pn u hm hy
  refine leaveC_ok (F := F) hh hdr σ.D.D a2.defers pn σ.H σ.c γ2 u w2 (Rs.sat_mono (fun z hz => PostC.le hle hz) hy) hst.rel hst.x.d (hC.mono hle) hm ?_
  intro pn' H' c' γ' u' w' hle' hk hrel hm'
  cases pn' with
  | none =>
   have hm' : u' = .returning := hm'
   subst hm'
   simp only [] at hk
   split at hk
   ·rename_i l hl
    obtain ⟨us, k1, k2⟩ := results_run (hst.e.mono hle') hrel.toR hl
    exact ⟨tupV us, k2, hk γ' w' (Gle.refl _) hrel _ (tupC_den k1)⟩
   ·exact hk.elim
  | some v =>
   obtain ⟨z, k1, rfl⟩ := hm'
   exact hk γ' w' (Gle.refl _) hrel z k1
 cases x with
 | n => exact fin none .returning rfl hy
 | r => exact fin none .returning rfl hy
 | e id => exact hy.elim
 | g l => exact hy.elim
 | p v => exact fun u hu => fin (some v) (.panicking [{ v := u, recovered := false }]) ⟨u, hu, rfl⟩ hy
theorem callC0_ok (hh : HdOK P hd) (hdr : DrawOK P hd) {C : Tr LS} {f : Nat} {args : List CV} {h : HC} {γ : Ga} {R : Ending → World → Prop} (hs : (callC0 P L hd C f args h).sat (PostC F γ R)) {w : World} {vs : List Value} (hr : Rel F γ h.H.get w) (ha : denL γ args = some vs) (hC : CRel γ C) : Calls P f vs.toArray w R := by
 unfold callC0 at hs
 split at hs
 ·rename_i n rs live g hb
  unfold bodyC at hb
  split at hb
  ·rename_i fn hfn
   split at hb
   ·rename_i c hc
    have hb := Option.some.inj hb
    obtain ⟨rfl, rfl, rfl, rfl⟩ := Fb.mk.inj hb
    exact callG_ok (L := L) hh hdr (hh.fn _ _ hfn) hc (r := (execC P L hd fn.ntmps (liveC c (resT fn.results.toList)) c).f ⟨envC 0 args, ⟨[], C, none, []⟩, h.H, h.c⟩) (fun Q a hsat hst => exec_ok (N := fn.ntmps) hh hdr c none Q F γ _ hsat a w hst) hs hr ha hC
   ·cases hb
  ·cases hb
 ·exact hs.elim
theorem allY_spec {p : En × HC → Bool} : ∀ {l : List (En × HC)}, allY p l = true → ∀ x ∈ l, p x = true
 | [], _, x, hx => by cases hx
 | y :: l, h, x, hx => by
  have h' : (bif p y then allY p l else false) = true := h
  cases hp : p y with
  | false => rw [hp] at h'; cases h'
  | true =>
   rw [hp] at h'
   rcases List.mem_cons.1 hx with rfl | hx
   ·exact hp
   ·exact allY_spec h' x hx
theorem mergeC_ok {c0 : Nat} {r : Rs (En × HC)} {γ : Ga} {R : Ending → World → Prop} (h : (mergeC c0 r).sat (PostC F γ R)) : r.sat (PostC F γ R) := by
 unfold mergeC at h
 split at h
 ·exact fun y hy => by cases hy
 ·intro y hy
  simp only [List.mem_singleton] at hy
  subst hy; exact h
 ·rename_i y l _
  simp only [] at h
  split at h
  ·rename_i hall
   intro z hz
   have hz2 := allY_spec hall z hz
   rw [Bool.and_eq_true] at hz2
   obtain ⟨h1, h2⟩ := hz2
   intro γ' w hle hrel
   have hrel' : Rel F γ' (wkT c0 y.2.H).get w := hrel.alike (fun j => simT_get h2 j)
   have := h γ' w hle hrel'
   obtain ⟨ze, zh⟩ := z
   obtain ⟨ye, yh⟩ := y
   simp only [] at h1 this ⊢
   cases ze with
   | ret v =>
    cases ye with
    | ret v' => rw [← cvE_eq (show cvE v' v = true from h1)]; exact this
    | pan v' => cases (show false = true from h1)
   | pan v =>
    cases ye with
    | pan v' => rw [← cvE_eq (show cvE v' v = true from h1)]; exact this
    | ret v' => cases (show false = true from h1)
  ·exact h
 ·exact h
theorem hdT_ok {q : Nat → Option Func} {rk : Tr Nat} (hq : ∀ f g, q f = some g → P.funcs[f]? = some g) (hdr : ∀ hd, HdOK P hd → DrawOK P hd) : ∀ n r, HdOK P (hdT P q rk L n r)
 | 0, r => ⟨fun C f args h F γ R hs => hs.elim, fun N live c rb Q F γ σ hs => hs.elim, hq⟩
 | n + 1, r => by
  have e : hdT P q rk L (n + 1) r = @Bool.rec (fun _ => Hd) (hdT P q rk L n r) ⟨fun C f args h => match hdT P q rk L n (lvl rk n f) with | ⟨a, b, c⟩ => callC P L ⟨a, b, c⟩ C f args h, fun N live c σ => (execC P L (hdT P q rk L n n) N live c).f σ, q⟩ (Nat.beq r (n + 1)) := rfl
  rw [e]
  cases Nat.beq r (n + 1) with
  | false => exact hdT_ok hq hdr n r
  | true =>
   refine ⟨fun C f args h F γ R hs w vs hr ha hC => ?_, fun N live c rb Q F γ σ hs a w hst => ?_, hq⟩
   ·have hh := hdT_ok (rk := rk) hq hdr n (lvl rk n f)
    have hs : (mergeC h.c (callC0 P L (hdT P q rk L n (lvl rk n f)) C f args h)).sat (PostC F γ R) := hs
    exact callC0_ok hh (hdr _ hh) (mergeC_ok hs) hr ha hC
   ·have hh := hdT_ok (rk := rk) hq hdr n n
    exact exec_ok hh (hdr _ hh) c rb Q F γ σ (show ((execC P L (hdT P q rk L n n) N live c).f σ).sat (PostX F γ N live rb Q) from hs) a w hst
theorem hdF_ok {q : Nat → Option Func} {rk : Tr Nat} (hq : ∀ f g, q f = some g → P.funcs[f]? = some g) (hdr : ∀ hd, HdOK P hd → DrawOK P hd) (n : Nat) : HdOK P (hdF P q rk L n) := hdT_ok hq hdr n n
end
end Go.Y
end
section
/- The concrete executor, sound: calls of a program whose functions lie in a table. -/
namespace Go.Y
open Go Go.RowKit Go.X
def Tr.All {α : Type} (t : Tr α) (p : Nat → α → Prop) : Prop := Tr.rec (motive := fun _ => (Nat → α → Prop) → Prop) (fun _ => True) (fun k a p => p k a) (fun _ _ il ir p => il (fun k => p (2 * k)) ∧ ir (fun k => p (2 * k + 1))) (fun _ _ => False) t p
theorem Tr.All.get {α : Type} : ∀ {t : Tr α} {p : Nat → α → Prop}, t.All p → ∀ k a, t.get k = some a → p k a
 | .nil, p, h, k, a, e => by cases e
 | .leaf k' b, p, h, k, a, e => by
  rw [Tr.get_leaf] at e
  by_cases hk : k = k'
  ·rw [if_pos hk] at e; cases e; subst hk; exact h
  ·rw [if_neg hk] at e; cases e
 | .node l r, p, h, k, a, e => by
  obtain ⟨h1, h2⟩ : l.All (fun k => p (2 * k)) ∧ r.All (fun k => p (2 * k + 1)) := h
  rw [Tr.get_node] at e
  cases hb : Nat.beq (k % 2) 0 with
  | true =>
   rw [hb] at e
   have := Tr.All.get h1 (k / 2) a e
   have hk := Nat.eq_of_beq_eq_true hb
   rwa [show 2 * (k / 2) = k from by omega] at this
  | false =>
   rw [hb] at e
   have := Tr.All.get h2 (k / 2) a e
   have hk : k % 2 ≠ 0 := fun h => by rw [h] at hb; cases hb
   rwa [show 2 * (k / 2) + 1 = k from by omega] at this
 | .many l, p, h, k, a, e => h.elim
theorem Rel.empty (w : World) (K : Nat → Prop) : Rel ⟨w, K⟩ (fun _ => none) (Tr.nil : Tr CO).get w :=
 ⟨rfl, rfl, rfl, Nat.le_refl _, fun _ _ => rfl, fun _ _ => rfl, fun _ _ h => by (cases h), fun _ _ _ h => by (cases h), fun _ _ _ _ _ _ _ h => by (cases h), fun _ _ _ h => by (cases h)⟩
theorem hd_ok {P : Program} {L : Nat} {t : Tr Func} (ht : t.All fun f g => P.funcs[f]? = some g) (rk : Tr Nat) (n : Nat) : HdOK P (hdF P t.get rk L n) := hdF_ok (fun f g h => ht.get f g h) (fun _ hh => draw_ok hh) n
noncomputable def yields (r : Rs (En × HC)) : Bool := match r with
 | .one (.ret (.b b), _) => b
 | _ => false
theorem life {P : Program} {L : Nat} {t : Tr Func} (ht : t.All fun f g => P.funcs[f]? = some g) {rk : Tr Nat} {n f : Nat} (h : yields ((hdF P t.get rk L n).call .nil f [] ⟨.nil, 1⟩) = true) (w : World) :
  Calls P f #[] w fun e w' => e = .returned (.bool true) ∧ w'.os = w.os ∧ w'.tape = w.tape ∧ w'.output = w.output ∧ w.heap.size ≤ w'.heap.size ∧ ∀ b, b < w.heap.size → w'.heap[b]? = w.heap[b]? := by
 refine (hd_ok (L := L) ht rk n).call .nil f [] ⟨.nil, 1⟩ ⟨w, fun _ => True⟩ (fun _ => none) _ ?_ w [] ?_ rfl (CRel.nil _)
 ·cases hr : (hdF P t.get rk L n).call .nil f [] ⟨.nil, 1⟩ with
  | bad n s => rw [hr] at h; cases h
  | many l => rw [hr] at h; cases h
  | one y =>
   rw [hr] at h
   obtain ⟨e, hc⟩ := y
   cases e with
   | pan v => cases h
   | ret v =>
    cases v <;> first | (cases h; done) | skip
    rename_i b
    have hb : b = true := h
    subst hb
    intro γ w' hle hrel u hu
    have hu : u = .bool true := (Option.some.inj hu).symm
    subst hu
    exact ⟨rfl, hrel.os, hrel.tape, hrel.output, hrel.size, fun b hb => hrel.fr b ⟨trivial, hb⟩⟩
 ·exact Rel.empty w _
end Go.Y
end
section
/- The functions by a table, the levels of their calls. -/
namespace Go.Proofs.YtlboclmdfkllnaaGreatDoor
open Go Go.Y
noncomputable def ftT : Tr Func := (.node (.node (.node (.node (.node (.node (.node (.node (.node (.leaf 0 Tryz.f0) (.leaf 0 Tryz.f256)) (.leaf 0 Tryz.f128)) (.node (.node (.leaf 0 Tryz.f64) (.leaf 0 Tryz.f320)) (.leaf 0 Tryz.f192))) (.node (.node (.node (.leaf 0 Tryz.f32) (.leaf 0 Tryz.f288)) (.leaf 0 Tryz.f160)) (.node (.node (.leaf 0 Tryz.f96) (.leaf 0 Tryz.f352)) (.leaf 0 Tryz.f224)))) (.node (.node (.node (.node (.leaf 0 Tryz.f16) (.leaf 0 Tryz.f272)) (.leaf 0 Tryz.f144)) (.node (.node (.leaf 0 Tryz.f80) (.leaf 0 Tryz.f336)) (.leaf 0 Tryz.f208))) (.node (.node (.node (.leaf 0 Tryz.f48) (.leaf 0 Tryz.f304)) (.leaf 0 Tryz.f176)) (.node (.node (.leaf 0 Tryz.f112) (.leaf 0 Tryz.f368)) (.leaf 0 Tryz.f240))))) (.node (.node (.node (.node (.node (.leaf 0 Tryz.f8) (.leaf 0 Tryz.f264)) (.leaf 0 Tryz.f136)) (.node (.node (.leaf 0 Tryz.f72) (.leaf 0 Tryz.f328)) (.leaf 0 Tryz.f200))) (.node (.node (.node (.leaf 0 Tryz.f40) (.leaf 0 Tryz.f296)) (.leaf 0 Tryz.f168)) (.node (.node (.leaf 0 Tryz.f104) (.leaf 0 Tryz.f360)) (.leaf 0 Tryz.f232)))) (.node (.node (.node (.node (.leaf 0 Tryz.f24) (.leaf 0 Tryz.f280)) (.leaf 0 Tryz.f152)) (.node (.node (.leaf 0 Tryz.f88) (.leaf 0 Tryz.f344)) (.leaf 0 Tryz.f216))) (.node (.node (.node (.leaf 0 Tryz.f56) (.leaf 0 Tryz.f312)) (.leaf 0 Tryz.f184)) (.node (.node (.leaf 0 Tryz.f120) (.leaf 0 Tryz.f376)) (.leaf 0 Tryz.f248)))))) (.node (.node (.node (.node (.node (.node (.leaf 0 Tryz.f4) (.leaf 0 Tryz.f260)) (.leaf 0 Tryz.f132)) (.node (.node (.leaf 0 Tryz.f68) (.leaf 0 Tryz.f324)) (.leaf 0 Tryz.f196))) (.node (.node (.node (.leaf 0 Tryz.f36) (.leaf 0 Tryz.f292)) (.leaf 0 Tryz.f164)) (.node (.node (.leaf 0 Tryz.f100) (.leaf 0 Tryz.f356)) (.leaf 0 Tryz.f228)))) (.node (.node (.node (.node (.leaf 0 Tryz.f20) (.leaf 0 Tryz.f276)) (.leaf 0 Tryz.f148)) (.node (.node (.leaf 0 Tryz.f84) (.leaf 0 Tryz.f340)) (.leaf 0 Tryz.f212))) (.node (.node (.node (.leaf 0 Tryz.f52) (.leaf 0 Tryz.f308)) (.leaf 0 Tryz.f180)) (.node (.node (.leaf 0 Tryz.f116) (.leaf 0 Tryz.f372)) (.leaf 0 Tryz.f244))))) (.node (.node (.node (.node (.node (.leaf 0 Tryz.f12) (.leaf 0 Tryz.f268)) (.leaf 0 Tryz.f140)) (.node (.node (.leaf 0 Tryz.f76) (.leaf 0 Tryz.f332)) (.leaf 0 Tryz.f204))) (.node (.node (.node (.leaf 0 Tryz.f44) (.leaf 0 Tryz.f300)) (.leaf 0 Tryz.f172)) (.node (.node (.leaf 0 Tryz.f108) (.leaf 0 Tryz.f364)) (.leaf 0 Tryz.f236)))) (.node (.node (.node (.node (.leaf 0 Tryz.f28) (.leaf 0 Tryz.f284)) (.leaf 0 Tryz.f156)) (.node (.node (.leaf 0 Tryz.f92) (.leaf 0 Tryz.f348)) (.leaf 0 Tryz.f220))) (.node (.node (.node (.leaf 0 Tryz.f60) (.leaf 0 Tryz.f316)) (.leaf 0 Tryz.f188)) (.node (.node (.leaf 0 Tryz.f124) (.leaf 0 Tryz.f380)) (.leaf 0 Tryz.f252))))))) (.node (.node (.node (.node (.node (.node (.node (.leaf 0 Tryz.f2) (.leaf 0 Tryz.f258)) (.leaf 0 Tryz.f130)) (.node (.node (.leaf 0 Tryz.f66) (.leaf 0 Tryz.f322)) (.leaf 0 Tryz.f194))) (.node (.node (.node (.leaf 0 Tryz.f34) (.leaf 0 Tryz.f290)) (.leaf 0 Tryz.f162)) (.node (.node (.leaf 0 Tryz.f98) (.leaf 0 Tryz.f354)) (.leaf 0 Tryz.f226)))) (.node (.node (.node (.node (.leaf 0 Tryz.f18) (.leaf 0 Tryz.f274)) (.leaf 0 Tryz.f146)) (.node (.node (.leaf 0 Tryz.f82) (.leaf 0 Tryz.f338)) (.leaf 0 Tryz.f210))) (.node (.node (.node (.leaf 0 Tryz.f50) (.leaf 0 Tryz.f306)) (.leaf 0 Tryz.f178)) (.node (.node (.leaf 0 Tryz.f114) (.leaf 0 Tryz.f370)) (.leaf 0 Tryz.f242))))) (.node (.node (.node (.node (.node (.leaf 0 Tryz.f10) (.leaf 0 Tryz.f266)) (.leaf 0 Tryz.f138)) (.node (.node (.leaf 0 Tryz.f74) (.leaf 0 Tryz.f330)) (.leaf 0 Tryz.f202))) (.node (.node (.node (.leaf 0 Tryz.f42) (.leaf 0 Tryz.f298)) (.leaf 0 Tryz.f170)) (.node (.node (.leaf 0 Tryz.f106) (.leaf 0 Tryz.f362)) (.leaf 0 Tryz.f234)))) (.node (.node (.node (.node (.leaf 0 Tryz.f26) (.leaf 0 Tryz.f282)) (.leaf 0 Tryz.f154)) (.node (.node (.leaf 0 Tryz.f90) (.leaf 0 Tryz.f346)) (.leaf 0 Tryz.f218))) (.node (.node (.node (.leaf 0 Tryz.f58) (.leaf 0 Tryz.f314)) (.leaf 0 Tryz.f186)) (.node (.node (.leaf 0 Tryz.f122) (.leaf 0 Tryz.f378)) (.leaf 0 Tryz.f250)))))) (.node (.node (.node (.node (.node (.node (.leaf 0 Tryz.f6) (.leaf 0 Tryz.f262)) (.leaf 0 Tryz.f134)) (.node (.node (.leaf 0 Tryz.f70) (.leaf 0 Tryz.f326)) (.leaf 0 Tryz.f198))) (.node (.node (.node (.leaf 0 Tryz.f38) (.leaf 0 Tryz.f294)) (.leaf 0 Tryz.f166)) (.node (.node (.leaf 0 Tryz.f102) (.leaf 0 Tryz.f358)) (.leaf 0 Tryz.f230)))) (.node (.node (.node (.node (.leaf 0 Tryz.f22) (.leaf 0 Tryz.f278)) (.leaf 0 Tryz.f150)) (.node (.node (.leaf 0 Tryz.f86) (.leaf 0 Tryz.f342)) (.leaf 0 Tryz.f214))) (.node (.node (.node (.leaf 0 Tryz.f54) (.leaf 0 Tryz.f310)) (.leaf 0 Tryz.f182)) (.node (.node (.leaf 0 Tryz.f118) (.leaf 0 Tryz.f374)) (.leaf 0 Tryz.f246))))) (.node (.node (.node (.node (.node (.leaf 0 Tryz.f14) (.leaf 0 Tryz.f270)) (.leaf 0 Tryz.f142)) (.node (.node (.leaf 0 Tryz.f78) (.leaf 0 Tryz.f334)) (.leaf 0 Tryz.f206))) (.node (.node (.node (.leaf 0 Tryz.f46) (.leaf 0 Tryz.f302)) (.leaf 0 Tryz.f174)) (.node (.node (.leaf 0 Tryz.f110) (.leaf 0 Tryz.f366)) (.leaf 0 Tryz.f238)))) (.node (.node (.node (.node (.leaf 0 Tryz.f30) (.leaf 0 Tryz.f286)) (.leaf 0 Tryz.f158)) (.node (.node (.leaf 0 Tryz.f94) (.leaf 0 Tryz.f350)) (.leaf 0 Tryz.f222))) (.node (.node (.node (.leaf 0 Tryz.f62) (.leaf 0 Tryz.f318)) (.leaf 0 Tryz.f190)) (.node (.node (.leaf 0 Tryz.f126) (.leaf 0 Tryz.f382)) (.leaf 0 Tryz.f254)))))))) (.node (.node (.node (.node (.node (.node (.node (.node (.leaf 0 Tryz.f1) (.leaf 0 Tryz.f257)) (.leaf 0 Tryz.f129)) (.node (.node (.leaf 0 Tryz.f65) (.leaf 0 Tryz.f321)) (.leaf 0 Tryz.f193))) (.node (.node (.node (.leaf 0 Tryz.f33) (.leaf 0 Tryz.f289)) (.leaf 0 Tryz.f161)) (.node (.node (.leaf 0 Tryz.f97) (.leaf 0 Tryz.f353)) (.leaf 0 Tryz.f225)))) (.node (.node (.node (.node (.leaf 0 Tryz.f17) (.leaf 0 Tryz.f273)) (.leaf 0 Tryz.f145)) (.node (.node (.leaf 0 Tryz.f81) (.leaf 0 Tryz.f337)) (.leaf 0 Tryz.f209))) (.node (.node (.node (.leaf 0 Tryz.f49) (.leaf 0 Tryz.f305)) (.leaf 0 Tryz.f177)) (.node (.node (.leaf 0 Tryz.f113) (.leaf 0 Tryz.f369)) (.leaf 0 Tryz.f241))))) (.node (.node (.node (.node (.node (.leaf 0 Tryz.f9) (.leaf 0 Tryz.f265)) (.leaf 0 Tryz.f137)) (.node (.node (.leaf 0 Tryz.f73) (.leaf 0 Tryz.f329)) (.leaf 0 Tryz.f201))) (.node (.node (.node (.leaf 0 Tryz.f41) (.leaf 0 Tryz.f297)) (.leaf 0 Tryz.f169)) (.node (.node (.leaf 0 Tryz.f105) (.leaf 0 Tryz.f361)) (.leaf 0 Tryz.f233)))) (.node (.node (.node (.node (.leaf 0 Tryz.f25) (.leaf 0 Tryz.f281)) (.leaf 0 Tryz.f153)) (.node (.node (.leaf 0 Tryz.f89) (.leaf 0 Tryz.f345)) (.leaf 0 Tryz.f217))) (.node (.node (.node (.leaf 0 Tryz.f57) (.leaf 0 Tryz.f313)) (.leaf 0 Tryz.f185)) (.node (.node (.leaf 0 Tryz.f121) (.leaf 0 Tryz.f377)) (.leaf 0 Tryz.f249)))))) (.node (.node (.node (.node (.node (.node (.leaf 0 Tryz.f5) (.leaf 0 Tryz.f261)) (.leaf 0 Tryz.f133)) (.node (.node (.leaf 0 Tryz.f69) (.leaf 0 Tryz.f325)) (.leaf 0 Tryz.f197))) (.node (.node (.node (.leaf 0 Tryz.f37) (.leaf 0 Tryz.f293)) (.leaf 0 Tryz.f165)) (.node (.node (.leaf 0 Tryz.f101) (.leaf 0 Tryz.f357)) (.leaf 0 Tryz.f229)))) (.node (.node (.node (.node (.leaf 0 Tryz.f21) (.leaf 0 Tryz.f277)) (.leaf 0 Tryz.f149)) (.node (.node (.leaf 0 Tryz.f85) (.leaf 0 Tryz.f341)) (.leaf 0 Tryz.f213))) (.node (.node (.node (.leaf 0 Tryz.f53) (.leaf 0 Tryz.f309)) (.leaf 0 Tryz.f181)) (.node (.node (.leaf 0 Tryz.f117) (.leaf 0 Tryz.f373)) (.leaf 0 Tryz.f245))))) (.node (.node (.node (.node (.node (.leaf 0 Tryz.f13) (.leaf 0 Tryz.f269)) (.leaf 0 Tryz.f141)) (.node (.node (.leaf 0 Tryz.f77) (.leaf 0 Tryz.f333)) (.leaf 0 Tryz.f205))) (.node (.node (.node (.leaf 0 Tryz.f45) (.leaf 0 Tryz.f301)) (.leaf 0 Tryz.f173)) (.node (.node (.leaf 0 Tryz.f109) (.leaf 0 Tryz.f365)) (.leaf 0 Tryz.f237)))) (.node (.node (.node (.node (.leaf 0 Tryz.f29) (.leaf 0 Tryz.f285)) (.leaf 0 Tryz.f157)) (.node (.node (.leaf 0 Tryz.f93) (.leaf 0 Tryz.f349)) (.leaf 0 Tryz.f221))) (.node (.node (.node (.leaf 0 Tryz.f61) (.leaf 0 Tryz.f317)) (.leaf 0 Tryz.f189)) (.node (.node (.leaf 0 Tryz.f125) (.leaf 0 Tryz.f381)) (.leaf 0 Tryz.f253))))))) (.node (.node (.node (.node (.node (.node (.node (.leaf 0 Tryz.f3) (.leaf 0 Tryz.f259)) (.leaf 0 Tryz.f131)) (.node (.node (.leaf 0 Tryz.f67) (.leaf 0 Tryz.f323)) (.leaf 0 Tryz.f195))) (.node (.node (.node (.leaf 0 Tryz.f35) (.leaf 0 Tryz.f291)) (.leaf 0 Tryz.f163)) (.node (.node (.leaf 0 Tryz.f99) (.leaf 0 Tryz.f355)) (.leaf 0 Tryz.f227)))) (.node (.node (.node (.node (.leaf 0 Tryz.f19) (.leaf 0 Tryz.f275)) (.leaf 0 Tryz.f147)) (.node (.node (.leaf 0 Tryz.f83) (.leaf 0 Tryz.f339)) (.leaf 0 Tryz.f211))) (.node (.node (.node (.leaf 0 Tryz.f51) (.leaf 0 Tryz.f307)) (.leaf 0 Tryz.f179)) (.node (.node (.leaf 0 Tryz.f115) (.leaf 0 Tryz.f371)) (.leaf 0 Tryz.f243))))) (.node (.node (.node (.node (.node (.leaf 0 Tryz.f11) (.leaf 0 Tryz.f267)) (.leaf 0 Tryz.f139)) (.node (.node (.leaf 0 Tryz.f75) (.leaf 0 Tryz.f331)) (.leaf 0 Tryz.f203))) (.node (.node (.node (.leaf 0 Tryz.f43) (.leaf 0 Tryz.f299)) (.leaf 0 Tryz.f171)) (.node (.node (.leaf 0 Tryz.f107) (.leaf 0 Tryz.f363)) (.leaf 0 Tryz.f235)))) (.node (.node (.node (.node (.leaf 0 Tryz.f27) (.leaf 0 Tryz.f283)) (.leaf 0 Tryz.f155)) (.node (.node (.leaf 0 Tryz.f91) (.leaf 0 Tryz.f347)) (.leaf 0 Tryz.f219))) (.node (.node (.node (.leaf 0 Tryz.f59) (.leaf 0 Tryz.f315)) (.leaf 0 Tryz.f187)) (.node (.node (.leaf 0 Tryz.f123) (.leaf 0 Tryz.f379)) (.leaf 0 Tryz.f251)))))) (.node (.node (.node (.node (.node (.node (.leaf 0 Tryz.f7) (.leaf 0 Tryz.f263)) (.leaf 0 Tryz.f135)) (.node (.node (.leaf 0 Tryz.f71) (.leaf 0 Tryz.f327)) (.leaf 0 Tryz.f199))) (.node (.node (.node (.leaf 0 Tryz.f39) (.leaf 0 Tryz.f295)) (.leaf 0 Tryz.f167)) (.node (.node (.leaf 0 Tryz.f103) (.leaf 0 Tryz.f359)) (.leaf 0 Tryz.f231)))) (.node (.node (.node (.node (.leaf 0 Tryz.f23) (.leaf 0 Tryz.f279)) (.leaf 0 Tryz.f151)) (.node (.node (.leaf 0 Tryz.f87) (.leaf 0 Tryz.f343)) (.leaf 0 Tryz.f215))) (.node (.node (.node (.leaf 0 Tryz.f55) (.leaf 0 Tryz.f311)) (.leaf 0 Tryz.f183)) (.node (.node (.leaf 0 Tryz.f119) (.leaf 0 Tryz.f375)) (.leaf 0 Tryz.f247))))) (.node (.node (.node (.node (.node (.leaf 0 Tryz.f15) (.leaf 0 Tryz.f271)) (.leaf 0 Tryz.f143)) (.node (.node (.leaf 0 Tryz.f79) (.leaf 0 Tryz.f335)) (.leaf 0 Tryz.f207))) (.node (.node (.node (.leaf 0 Tryz.f47) (.leaf 0 Tryz.f303)) (.leaf 0 Tryz.f175)) (.node (.node (.leaf 0 Tryz.f111) (.leaf 0 Tryz.f367)) (.leaf 0 Tryz.f239)))) (.node (.node (.node (.node (.leaf 0 Tryz.f31) (.leaf 0 Tryz.f287)) (.leaf 0 Tryz.f159)) (.node (.node (.leaf 0 Tryz.f95) (.leaf 0 Tryz.f351)) (.leaf 0 Tryz.f223))) (.node (.node (.node (.leaf 0 Tryz.f63) (.leaf 0 Tryz.f319)) (.leaf 0 Tryz.f191)) (.node (.node (.leaf 0 Tryz.f127) (.leaf 0 Tryz.f383)) (.leaf 0 Tryz.f255)))))))))
theorem ftT_ok : ftT.All fun f g => Tryz.prog.funcs[f]? = some g := ⟨⟨⟨⟨⟨⟨⟨⟨⟨Tryz.func0, Tryz.func256⟩, Tryz.func128⟩, ⟨⟨Tryz.func64, Tryz.func320⟩, Tryz.func192⟩⟩, ⟨⟨⟨Tryz.func32, Tryz.func288⟩, Tryz.func160⟩, ⟨⟨Tryz.func96, Tryz.func352⟩, Tryz.func224⟩⟩⟩, ⟨⟨⟨⟨Tryz.func16, Tryz.func272⟩, Tryz.func144⟩, ⟨⟨Tryz.func80, Tryz.func336⟩, Tryz.func208⟩⟩, ⟨⟨⟨Tryz.func48, Tryz.func304⟩, Tryz.func176⟩, ⟨⟨Tryz.func112, Tryz.func368⟩, Tryz.func240⟩⟩⟩⟩, ⟨⟨⟨⟨⟨Tryz.func8, Tryz.func264⟩, Tryz.func136⟩, ⟨⟨Tryz.func72, Tryz.func328⟩, Tryz.func200⟩⟩, ⟨⟨⟨Tryz.func40, Tryz.func296⟩, Tryz.func168⟩, ⟨⟨Tryz.func104, Tryz.func360⟩, Tryz.func232⟩⟩⟩, ⟨⟨⟨⟨Tryz.func24, Tryz.func280⟩, Tryz.func152⟩, ⟨⟨Tryz.func88, Tryz.func344⟩, Tryz.func216⟩⟩, ⟨⟨⟨Tryz.func56, Tryz.func312⟩, Tryz.func184⟩, ⟨⟨Tryz.func120, Tryz.func376⟩, Tryz.func248⟩⟩⟩⟩⟩, ⟨⟨⟨⟨⟨⟨Tryz.func4, Tryz.func260⟩, Tryz.func132⟩, ⟨⟨Tryz.func68, Tryz.func324⟩, Tryz.func196⟩⟩, ⟨⟨⟨Tryz.func36, Tryz.func292⟩, Tryz.func164⟩, ⟨⟨Tryz.func100, Tryz.func356⟩, Tryz.func228⟩⟩⟩, ⟨⟨⟨⟨Tryz.func20, Tryz.func276⟩, Tryz.func148⟩, ⟨⟨Tryz.func84, Tryz.func340⟩, Tryz.func212⟩⟩, ⟨⟨⟨Tryz.func52, Tryz.func308⟩, Tryz.func180⟩, ⟨⟨Tryz.func116, Tryz.func372⟩, Tryz.func244⟩⟩⟩⟩, ⟨⟨⟨⟨⟨Tryz.func12, Tryz.func268⟩, Tryz.func140⟩, ⟨⟨Tryz.func76, Tryz.func332⟩, Tryz.func204⟩⟩, ⟨⟨⟨Tryz.func44, Tryz.func300⟩, Tryz.func172⟩, ⟨⟨Tryz.func108, Tryz.func364⟩, Tryz.func236⟩⟩⟩, ⟨⟨⟨⟨Tryz.func28, Tryz.func284⟩, Tryz.func156⟩, ⟨⟨Tryz.func92, Tryz.func348⟩, Tryz.func220⟩⟩, ⟨⟨⟨Tryz.func60, Tryz.func316⟩, Tryz.func188⟩, ⟨⟨Tryz.func124, Tryz.func380⟩, Tryz.func252⟩⟩⟩⟩⟩⟩, ⟨⟨⟨⟨⟨⟨⟨Tryz.func2, Tryz.func258⟩, Tryz.func130⟩, ⟨⟨Tryz.func66, Tryz.func322⟩, Tryz.func194⟩⟩, ⟨⟨⟨Tryz.func34, Tryz.func290⟩, Tryz.func162⟩, ⟨⟨Tryz.func98, Tryz.func354⟩, Tryz.func226⟩⟩⟩, ⟨⟨⟨⟨Tryz.func18, Tryz.func274⟩, Tryz.func146⟩, ⟨⟨Tryz.func82, Tryz.func338⟩, Tryz.func210⟩⟩, ⟨⟨⟨Tryz.func50, Tryz.func306⟩, Tryz.func178⟩, ⟨⟨Tryz.func114, Tryz.func370⟩, Tryz.func242⟩⟩⟩⟩, ⟨⟨⟨⟨⟨Tryz.func10, Tryz.func266⟩, Tryz.func138⟩, ⟨⟨Tryz.func74, Tryz.func330⟩, Tryz.func202⟩⟩, ⟨⟨⟨Tryz.func42, Tryz.func298⟩, Tryz.func170⟩, ⟨⟨Tryz.func106, Tryz.func362⟩, Tryz.func234⟩⟩⟩, ⟨⟨⟨⟨Tryz.func26, Tryz.func282⟩, Tryz.func154⟩, ⟨⟨Tryz.func90, Tryz.func346⟩, Tryz.func218⟩⟩, ⟨⟨⟨Tryz.func58, Tryz.func314⟩, Tryz.func186⟩, ⟨⟨Tryz.func122, Tryz.func378⟩, Tryz.func250⟩⟩⟩⟩⟩, ⟨⟨⟨⟨⟨⟨Tryz.func6, Tryz.func262⟩, Tryz.func134⟩, ⟨⟨Tryz.func70, Tryz.func326⟩, Tryz.func198⟩⟩, ⟨⟨⟨Tryz.func38, Tryz.func294⟩, Tryz.func166⟩, ⟨⟨Tryz.func102, Tryz.func358⟩, Tryz.func230⟩⟩⟩, ⟨⟨⟨⟨Tryz.func22, Tryz.func278⟩, Tryz.func150⟩, ⟨⟨Tryz.func86, Tryz.func342⟩, Tryz.func214⟩⟩, ⟨⟨⟨Tryz.func54, Tryz.func310⟩, Tryz.func182⟩, ⟨⟨Tryz.func118, Tryz.func374⟩, Tryz.func246⟩⟩⟩⟩, ⟨⟨⟨⟨⟨Tryz.func14, Tryz.func270⟩, Tryz.func142⟩, ⟨⟨Tryz.func78, Tryz.func334⟩, Tryz.func206⟩⟩, ⟨⟨⟨Tryz.func46, Tryz.func302⟩, Tryz.func174⟩, ⟨⟨Tryz.func110, Tryz.func366⟩, Tryz.func238⟩⟩⟩, ⟨⟨⟨⟨Tryz.func30, Tryz.func286⟩, Tryz.func158⟩, ⟨⟨Tryz.func94, Tryz.func350⟩, Tryz.func222⟩⟩, ⟨⟨⟨Tryz.func62, Tryz.func318⟩, Tryz.func190⟩, ⟨⟨Tryz.func126, Tryz.func382⟩, Tryz.func254⟩⟩⟩⟩⟩⟩⟩, ⟨⟨⟨⟨⟨⟨⟨⟨Tryz.func1, Tryz.func257⟩, Tryz.func129⟩, ⟨⟨Tryz.func65, Tryz.func321⟩, Tryz.func193⟩⟩, ⟨⟨⟨Tryz.func33, Tryz.func289⟩, Tryz.func161⟩, ⟨⟨Tryz.func97, Tryz.func353⟩, Tryz.func225⟩⟩⟩, ⟨⟨⟨⟨Tryz.func17, Tryz.func273⟩, Tryz.func145⟩, ⟨⟨Tryz.func81, Tryz.func337⟩, Tryz.func209⟩⟩, ⟨⟨⟨Tryz.func49, Tryz.func305⟩, Tryz.func177⟩, ⟨⟨Tryz.func113, Tryz.func369⟩, Tryz.func241⟩⟩⟩⟩, ⟨⟨⟨⟨⟨Tryz.func9, Tryz.func265⟩, Tryz.func137⟩, ⟨⟨Tryz.func73, Tryz.func329⟩, Tryz.func201⟩⟩, ⟨⟨⟨Tryz.func41, Tryz.func297⟩, Tryz.func169⟩, ⟨⟨Tryz.func105, Tryz.func361⟩, Tryz.func233⟩⟩⟩, ⟨⟨⟨⟨Tryz.func25, Tryz.func281⟩, Tryz.func153⟩, ⟨⟨Tryz.func89, Tryz.func345⟩, Tryz.func217⟩⟩, ⟨⟨⟨Tryz.func57, Tryz.func313⟩, Tryz.func185⟩, ⟨⟨Tryz.func121, Tryz.func377⟩, Tryz.func249⟩⟩⟩⟩⟩, ⟨⟨⟨⟨⟨⟨Tryz.func5, Tryz.func261⟩, Tryz.func133⟩, ⟨⟨Tryz.func69, Tryz.func325⟩, Tryz.func197⟩⟩, ⟨⟨⟨Tryz.func37, Tryz.func293⟩, Tryz.func165⟩, ⟨⟨Tryz.func101, Tryz.func357⟩, Tryz.func229⟩⟩⟩, ⟨⟨⟨⟨Tryz.func21, Tryz.func277⟩, Tryz.func149⟩, ⟨⟨Tryz.func85, Tryz.func341⟩, Tryz.func213⟩⟩, ⟨⟨⟨Tryz.func53, Tryz.func309⟩, Tryz.func181⟩, ⟨⟨Tryz.func117, Tryz.func373⟩, Tryz.func245⟩⟩⟩⟩, ⟨⟨⟨⟨⟨Tryz.func13, Tryz.func269⟩, Tryz.func141⟩, ⟨⟨Tryz.func77, Tryz.func333⟩, Tryz.func205⟩⟩, ⟨⟨⟨Tryz.func45, Tryz.func301⟩, Tryz.func173⟩, ⟨⟨Tryz.func109, Tryz.func365⟩, Tryz.func237⟩⟩⟩, ⟨⟨⟨⟨Tryz.func29, Tryz.func285⟩, Tryz.func157⟩, ⟨⟨Tryz.func93, Tryz.func349⟩, Tryz.func221⟩⟩, ⟨⟨⟨Tryz.func61, Tryz.func317⟩, Tryz.func189⟩, ⟨⟨Tryz.func125, Tryz.func381⟩, Tryz.func253⟩⟩⟩⟩⟩⟩, ⟨⟨⟨⟨⟨⟨⟨Tryz.func3, Tryz.func259⟩, Tryz.func131⟩, ⟨⟨Tryz.func67, Tryz.func323⟩, Tryz.func195⟩⟩, ⟨⟨⟨Tryz.func35, Tryz.func291⟩, Tryz.func163⟩, ⟨⟨Tryz.func99, Tryz.func355⟩, Tryz.func227⟩⟩⟩, ⟨⟨⟨⟨Tryz.func19, Tryz.func275⟩, Tryz.func147⟩, ⟨⟨Tryz.func83, Tryz.func339⟩, Tryz.func211⟩⟩, ⟨⟨⟨Tryz.func51, Tryz.func307⟩, Tryz.func179⟩, ⟨⟨Tryz.func115, Tryz.func371⟩, Tryz.func243⟩⟩⟩⟩, ⟨⟨⟨⟨⟨Tryz.func11, Tryz.func267⟩, Tryz.func139⟩, ⟨⟨Tryz.func75, Tryz.func331⟩, Tryz.func203⟩⟩, ⟨⟨⟨Tryz.func43, Tryz.func299⟩, Tryz.func171⟩, ⟨⟨Tryz.func107, Tryz.func363⟩, Tryz.func235⟩⟩⟩, ⟨⟨⟨⟨Tryz.func27, Tryz.func283⟩, Tryz.func155⟩, ⟨⟨Tryz.func91, Tryz.func347⟩, Tryz.func219⟩⟩, ⟨⟨⟨Tryz.func59, Tryz.func315⟩, Tryz.func187⟩, ⟨⟨Tryz.func123, Tryz.func379⟩, Tryz.func251⟩⟩⟩⟩⟩, ⟨⟨⟨⟨⟨⟨Tryz.func7, Tryz.func263⟩, Tryz.func135⟩, ⟨⟨Tryz.func71, Tryz.func327⟩, Tryz.func199⟩⟩, ⟨⟨⟨Tryz.func39, Tryz.func295⟩, Tryz.func167⟩, ⟨⟨Tryz.func103, Tryz.func359⟩, Tryz.func231⟩⟩⟩, ⟨⟨⟨⟨Tryz.func23, Tryz.func279⟩, Tryz.func151⟩, ⟨⟨Tryz.func87, Tryz.func343⟩, Tryz.func215⟩⟩, ⟨⟨⟨Tryz.func55, Tryz.func311⟩, Tryz.func183⟩, ⟨⟨Tryz.func119, Tryz.func375⟩, Tryz.func247⟩⟩⟩⟩, ⟨⟨⟨⟨⟨Tryz.func15, Tryz.func271⟩, Tryz.func143⟩, ⟨⟨Tryz.func79, Tryz.func335⟩, Tryz.func207⟩⟩, ⟨⟨⟨Tryz.func47, Tryz.func303⟩, Tryz.func175⟩, ⟨⟨Tryz.func111, Tryz.func367⟩, Tryz.func239⟩⟩⟩, ⟨⟨⟨⟨Tryz.func31, Tryz.func287⟩, Tryz.func159⟩, ⟨⟨Tryz.func95, Tryz.func351⟩, Tryz.func223⟩⟩, ⟨⟨⟨Tryz.func63, Tryz.func319⟩, Tryz.func191⟩, ⟨⟨Tryz.func127, Tryz.func383⟩, Tryz.func255⟩⟩⟩⟩⟩⟩⟩⟩
def rkT : Tr Nat := (.node (.node (.node (.node (.node (.node (.node (.node (.node (.leaf 0 44) (.leaf 0 48)) (.leaf 0 44)) (.node (.node (.leaf 0 44) (.leaf 0 52)) (.leaf 0 48))) (.node (.node (.node (.leaf 0 48) (.leaf 0 56)) (.leaf 0 44)) (.node (.node (.leaf 0 56) (.leaf 0 76)) (.leaf 0 44)))) (.node (.node (.node (.node (.leaf 0 96) (.leaf 0 44)) (.leaf 0 44)) (.node (.node (.leaf 0 60) (.leaf 0 44)) (.leaf 0 52))) (.node (.node (.node (.leaf 0 44) (.leaf 0 52)) (.leaf 0 44)) (.node (.node (.leaf 0 56) (.leaf 0 48)) (.leaf 0 44))))) (.node (.node (.node (.node (.node (.leaf 0 288) (.leaf 0 52)) (.leaf 0 44)) (.node (.node (.leaf 0 60) (.leaf 0 44)) (.leaf 0 48))) (.node (.node (.node (.leaf 0 92) (.leaf 0 48)) (.leaf 0 44)) (.node (.node (.leaf 0 52) (.leaf 0 48)) (.leaf 0 48)))) (.node (.node (.node (.node (.leaf 0 44) (.leaf 0 48)) (.leaf 0 76)) (.node (.node (.leaf 0 44) (.leaf 0 44)) (.leaf 0 64))) (.node (.node (.node (.leaf 0 44) (.leaf 0 44)) (.leaf 0 44)) (.node (.node (.leaf 0 48) (.leaf 0 44)) (.leaf 0 52)))))) (.node (.node (.node (.node (.node (.node (.leaf 0 292) (.leaf 0 60)) (.leaf 0 44)) (.node (.node (.leaf 0 48) (.leaf 0 48)) (.leaf 0 44))) (.node (.node (.node (.leaf 0 52) (.leaf 0 52)) (.leaf 0 44)) (.node (.node (.leaf 0 44) (.leaf 0 60)) (.leaf 0 44)))) (.node (.node (.node (.node (.leaf 0 44) (.leaf 0 44)) (.leaf 0 60)) (.node (.node (.leaf 0 44) (.leaf 0 44)) (.leaf 0 64))) (.node (.node (.node (.leaf 0 44) (.leaf 0 56)) (.leaf 0 44)) (.node (.node (.leaf 0 84) (.leaf 0 44)) (.leaf 0 48))))) (.node (.node (.node (.node (.node (.leaf 0 100) (.leaf 0 52)) (.leaf 0 48)) (.node (.node (.leaf 0 44) (.leaf 0 44)) (.leaf 0 56))) (.node (.node (.node (.leaf 0 68) (.leaf 0 48)) (.leaf 0 48)) (.node (.node (.leaf 0 56) (.leaf 0 56)) (.leaf 0 44)))) (.node (.node (.node (.node (.leaf 0 44) (.leaf 0 48)) (.leaf 0 48)) (.node (.node (.leaf 0 64) (.leaf 0 56)) (.leaf 0 68))) (.node (.node (.node (.leaf 0 48) (.leaf 0 44)) (.leaf 0 48)) (.node (.node (.leaf 0 48) (.leaf 0 44)) (.leaf 0 44))))))) (.node (.node (.node (.node (.node (.node (.node (.leaf 0 48) (.leaf 0 52)) (.leaf 0 44)) (.node (.node (.leaf 0 64) (.leaf 0 48)) (.leaf 0 44))) (.node (.node (.node (.leaf 0 68) (.leaf 0 52)) (.leaf 0 52)) (.node (.node (.leaf 0 44) (.leaf 0 60)) (.leaf 0 48)))) (.node (.node (.node (.node (.leaf 0 44) (.leaf 0 44)) (.leaf 0 44)) (.node (.node (.leaf 0 44) (.leaf 0 44)) (.leaf 0 52))) (.node (.node (.node (.leaf 0 48) (.leaf 0 44)) (.leaf 0 44)) (.node (.node (.leaf 0 44) (.leaf 0 44)) (.leaf 0 52))))) (.node (.node (.node (.node (.node (.leaf 0 72) (.leaf 0 48)) (.leaf 0 44)) (.node (.node (.leaf 0 44) (.leaf 0 44)) (.leaf 0 44))) (.node (.node (.node (.leaf 0 48) (.leaf 0 44)) (.leaf 0 56)) (.node (.node (.leaf 0 44) (.leaf 0 52)) (.leaf 0 44)))) (.node (.node (.node (.node (.leaf 0 52) (.leaf 0 48)) (.leaf 0 72)) (.node (.node (.leaf 0 64) (.leaf 0 76)) (.leaf 0 44))) (.node (.node (.node (.leaf 0 48) (.leaf 0 44)) (.leaf 0 44)) (.node (.node (.leaf 0 44) (.leaf 0 44)) (.leaf 0 48)))))) (.node (.node (.node (.node (.node (.node (.leaf 0 276) (.leaf 0 60)) (.leaf 0 44)) (.node (.node (.leaf 0 80) (.leaf 0 44)) (.leaf 0 44))) (.node (.node (.node (.leaf 0 92) (.leaf 0 44)) (.leaf 0 44)) (.node (.node (.leaf 0 44) (.leaf 0 52)) (.leaf 0 44)))) (.node (.node (.node (.node (.leaf 0 72) (.leaf 0 44)) (.leaf 0 68)) (.node (.node (.leaf 0 264) (.leaf 0 44)) (.leaf 0 64))) (.node (.node (.node (.leaf 0 48) (.leaf 0 44)) (.leaf 0 44)) (.node (.node (.leaf 0 48) (.leaf 0 44)) (.leaf 0 44))))) (.node (.node (.node (.node (.node (.leaf 0 44) (.leaf 0 48)) (.leaf 0 52)) (.node (.node (.leaf 0 52) (.leaf 0 44)) (.leaf 0 68))) (.node (.node (.node (.leaf 0 48) (.leaf 0 52)) (.leaf 0 56)) (.node (.node (.leaf 0 48) (.leaf 0 48)) (.leaf 0 48)))) (.node (.node (.node (.node (.leaf 0 52) (.leaf 0 48)) (.leaf 0 52)) (.node (.node (.leaf 0 44) (.leaf 0 52)) (.leaf 0 64))) (.node (.node (.node (.leaf 0 48) (.leaf 0 44)) (.leaf 0 44)) (.node (.node (.leaf 0 44) (.leaf 0 44)) (.leaf 0 52)))))))) (.node (.node (.node (.node (.node (.node (.node (.node (.leaf 0 44) (.leaf 0 52)) (.leaf 0 52)) (.node (.node (.leaf 0 44) (.leaf 0 44)) (.leaf 0 44))) (.node (.node (.node (.leaf 0 72) (.leaf 0 48)) (.leaf 0 44)) (.node (.node (.leaf 0 44) (.leaf 0 72)) (.leaf 0 44)))) (.node (.node (.node (.node (.leaf 0 280) (.leaf 0 48)) (.leaf 0 52)) (.node (.node (.leaf 0 44) (.leaf 0 44)) (.leaf 0 48))) (.node (.node (.node (.leaf 0 48) (.leaf 0 48)) (.leaf 0 44)) (.node (.node (.leaf 0 56) (.leaf 0 48)) (.leaf 0 44))))) (.node (.node (.node (.node (.node (.leaf 0 72) (.leaf 0 44)) (.leaf 0 44)) (.node (.node (.leaf 0 44) (.leaf 0 44)) (.leaf 0 44))) (.node (.node (.node (.leaf 0 52) (.leaf 0 44)) (.leaf 0 44)) (.node (.node (.leaf 0 44) (.leaf 0 56)) (.leaf 0 44)))) (.node (.node (.node (.node (.leaf 0 68) (.leaf 0 48)) (.leaf 0 76)) (.node (.node (.leaf 0 44) (.leaf 0 52)) (.leaf 0 72))) (.node (.node (.node (.leaf 0 48) (.leaf 0 44)) (.leaf 0 48)) (.node (.node (.leaf 0 60) (.leaf 0 44)) (.leaf 0 44)))))) (.node (.node (.node (.node (.node (.node (.leaf 0 284) (.leaf 0 60)) (.leaf 0 44)) (.node (.node (.leaf 0 60) (.leaf 0 48)) (.leaf 0 44))) (.node (.node (.node (.leaf 0 96) (.leaf 0 48)) (.leaf 0 44)) (.node (.node (.leaf 0 44) (.leaf 0 56)) (.leaf 0 48)))) (.node (.node (.node (.node (.leaf 0 272) (.leaf 0 44)) (.leaf 0 72)) (.node (.node (.leaf 0 48) (.leaf 0 44)) (.leaf 0 48))) (.node (.node (.node (.leaf 0 268) (.leaf 0 56)) (.leaf 0 52)) (.node (.node (.leaf 0 56) (.leaf 0 48)) (.leaf 0 44))))) (.node (.node (.node (.node (.node (.leaf 0 44) (.leaf 0 60)) (.leaf 0 48)) (.node (.node (.leaf 0 44) (.leaf 0 44)) (.leaf 0 60))) (.node (.node (.node (.leaf 0 72) (.leaf 0 44)) (.leaf 0 56)) (.node (.node (.leaf 0 44) (.leaf 0 68)) (.leaf 0 52)))) (.node (.node (.node (.node (.leaf 0 68) (.leaf 0 52)) (.leaf 0 52)) (.node (.node (.leaf 0 44) (.leaf 0 56)) (.leaf 0 52))) (.node (.node (.node (.leaf 0 60) (.leaf 0 48)) (.leaf 0 44)) (.node (.node (.leaf 0 56) (.leaf 0 44)) (.leaf 0 48))))))) (.node (.node (.node (.node (.node (.node (.node (.leaf 0 296) (.leaf 0 52)) (.leaf 0 48)) (.node (.node (.leaf 0 56) (.leaf 0 44)) (.leaf 0 44))) (.node (.node (.node (.leaf 0 60) (.leaf 0 48)) (.leaf 0 44)) (.node (.node (.leaf 0 44) (.leaf 0 56)) (.leaf 0 48)))) (.node (.node (.node (.node (.leaf 0 52) (.leaf 0 48)) (.leaf 0 52)) (.node (.node (.leaf 0 44) (.leaf 0 44)) (.leaf 0 56))) (.node (.node (.node (.leaf 0 48) (.leaf 0 56)) (.leaf 0 44)) (.node (.node (.leaf 0 76) (.leaf 0 44)) (.leaf 0 44))))) (.node (.node (.node (.node (.node (.leaf 0 44) (.leaf 0 44)) (.leaf 0 52)) (.node (.node (.leaf 0 44) (.leaf 0 44)) (.leaf 0 48))) (.node (.node (.node (.leaf 0 48) (.leaf 0 44)) (.leaf 0 44)) (.node (.node (.leaf 0 44) (.leaf 0 60)) (.leaf 0 52)))) (.node (.node (.node (.node (.leaf 0 64) (.leaf 0 56)) (.leaf 0 52)) (.node (.node (.leaf 0 60) (.leaf 0 76)) (.leaf 0 56))) (.node (.node (.node (.leaf 0 44) (.leaf 0 52)) (.leaf 0 44)) (.node (.node (.leaf 0 260) (.leaf 0 44)) (.leaf 0 44)))))) (.node (.node (.node (.node (.node (.node (.leaf 0 288) (.leaf 0 56)) (.leaf 0 44)) (.node (.node (.leaf 0 88) (.leaf 0 44)) (.leaf 0 44))) (.node (.node (.node (.leaf 0 64) (.leaf 0 48)) (.leaf 0 44)) (.node (.node (.leaf 0 60) (.leaf 0 52)) (.leaf 0 52)))) (.node (.node (.node (.node (.leaf 0 52) (.leaf 0 48)) (.leaf 0 48)) (.node (.node (.leaf 0 44) (.leaf 0 44)) (.leaf 0 44))) (.node (.node (.node (.leaf 0 68) (.leaf 0 48)) (.leaf 0 44)) (.node (.node (.leaf 0 56) (.leaf 0 44)) (.leaf 0 44))))) (.node (.node (.node (.node (.node (.leaf 0 44) (.leaf 0 60)) (.leaf 0 48)) (.node (.node (.leaf 0 64) (.leaf 0 44)) (.leaf 0 64))) (.node (.node (.node (.leaf 0 276) (.leaf 0 48)) (.leaf 0 44)) (.node (.node (.leaf 0 44) (.leaf 0 52)) (.leaf 0 44)))) (.node (.node (.node (.node (.leaf 0 44) (.leaf 0 52)) (.leaf 0 48)) (.node (.node (.leaf 0 44) (.leaf 0 76)) (.leaf 0 48))) (.node (.node (.node (.leaf 0 48) (.leaf 0 44)) (.leaf 0 44)) (.node (.node (.leaf 0 48) (.leaf 0 44)) (.leaf 0 48)))))))))
-- greatest level: 296
end Go.Proofs.YtlboclmdfkllnaaGreatDoor
end
section
/- Codes that go asg is told, by parts: some by the executor, some by hand. -/
namespace Go.Y
open Go Go.RowKit Go.X
def EX (P : Program) (F : Fr) (γ0 : Ga) (N : Nat) (live : List Nat) (c : Code) (σ : St) (r : RX) : Prop :=
 ∀ γ Q a w, Gle γ0 γ → r.sat (PostX F γ N live none Q) → StR F γ N live none σ a w → c.wpIn (FR none) 0 P Q a w
def LX (P : Program) (F : Fr) (γ0 : Ga) (N : Nat) (live : List Nat) (ops : Array Oper) (os : List Oper) (Γ : List Nat) (S : List CV) (E : Tr CV) (D : Dx) (H : Tr CO) (r : RX) : Prop :=
 ∀ γ Q a w, Gle γ0 γ → r.sat (PostX F γ N live none Q) → Rel F γ H.get w → SatE N γ (gx Γ S (gl live E)) a.tmps → XR γ none D a.defers → wpListIn (FR none) 0 P ops Q os a w
def stO (r : RX) : St := match r with
 | .one (_, σ) => σ
 | _ => ⟨.nil, ⟨[], .nil, none, []⟩, .nil, 0⟩
def isN (r : RX) : Bool := match r with
 | .one (.n, _) => true
 | _ => false
def isR (r : RX) : Bool := match r with
 | .one (.r, _) => true
 | _ => false
theorem isN_spec {r : RX} (h : isN r = true) : r = .one (.n, stO r) := by
 unfold isN at h
 split at h
 ·rfl
 ·cases h
theorem isR_spec {r : RX} (h : isR r = true) : r = .one (.r, stO r) := by
 unfold isR at h
 split at h
 ·rfl
 ·cases h
section
variable {P : Program} {F : Fr} {γ0 : Ga} {N L : Nat} {live : List Nat} {hd : Hd}
theorem EX.exec (hh : HdOK P hd) (c : Code) (σ : St) : EX P F γ0 N live c σ ((execC P L hd N live c).f σ) := fun γ Q a w _ hs hst => exec_ok hh (draw_ok hh) c none Q F γ σ hs a w hst
theorem EX.seq {x y : Code} {σ σ1 : St} {r : RX} (h1 : EX P F γ0 N live x σ (.one (.n, σ1))) (h2 : EX P F γ0 N live y σ1 r) : EX P F γ0 N live (.seq x y) σ r := fun γ Q a w hle hs hst =>
 wpIn_seq (h1 γ _ a w hle (fun γ' a' w' hle' hst' => h2 γ' Q a' w' (hle.trans hle') (Rs.sat_mono (fun x hx => PostX.le hle' hx) hs) hst') hst)
theorem EX.seqR {x y : Code} {σ σ1 : St} (h1 : EX P F γ0 N live x σ (.one (.r, σ1))) : EX P F γ0 N live (.seq x y) σ (.one (.r, σ1)) := fun γ Q a w hle hs hst =>
 wpIn_seq (h1 γ _ a w hle (fun γ' a' w' hle' hst' => hs γ' a' w' hle' hst') hst)
theorem EX.next (hh : HdOK P hd) {x y : Code} {σ : St} {r : RX} (h1 : isN ((execC P L hd N live x).f σ) = true) (h2 : EX P F γ0 N live y (stO ((execC P L hd N live x).f σ)) r) : EX P F γ0 N live (.seq x y) σ r :=
 EX.seq (by rw [← isN_spec h1]; exact EX.exec hh x σ) h2
theorem EX.region {id : Nat} {ops : Array Oper} {E : Tr CV} {D : Dx} {H : Tr CO} {c : Nat} {r : RX} (h : LX P F γ0 N live ops ops.toList [] [] E D H r) : EX P F γ0 N live (.region id ops false) ⟨E, D, H, c⟩ r := fun γ Q a w hle hs hst =>
 wpIn_region_list (h γ Q a w hle hs hst.rel hst.e hst.x)
theorem LX.run (hh : HdOK P hd) {ops : Array Oper} (os : List Oper) {Γ : List Nat} {S : List CV} (hl : S.length = Γ.length) (E : Tr CV) (D : Dx) (H : Tr CO) (c : Nat) : LX P F γ0 N live ops os Γ S E D H ((runX P hd N live ops.toList os Γ).f S E D H c) := fun γ Q a w hle hs hrel he hX =>
 runX_ok (rb := none) (Q := Q) (F := F) (γ0 := γ) hh ops (pr := D.pr) os Γ S E D H c γ rfl hl (Gle.refl _) hs a w hrel he hX trivial
theorem LX.done {ops : Array Oper} {Γ : List Nat} {S : List CV} (hl : S.length = Γ.length) (E : Tr CV) (D : Dx) (H : Tr CO) (c : Nat) : LX P F γ0 N live ops [] Γ S E D H (.one (.n, ⟨(flush live Γ).f S E, D, H, c⟩)) := fun γ Q a w hle hs hrel he hX =>
 hs γ a w (Gle.refl _) ⟨hrel, he.sub (flush_spec Γ S E hl), hX⟩
theorem LX.val {ops : Array Oper} {o : Oper} {os : List Oper} {Γ : List Nat} {S : List CV} {E : Tr CV} {D : Dx} {H : Tr CO} {r : RX} {v : CV} (hg : o.guard = none) (hdf : isDef o = false) (hd' : okd N o.dst = true)
  (hrun : ∀ (γ : Ga) (a : Act) (w : World), Gle γ0 γ → Rel F γ H.get w → SatE N γ (gx Γ S (gl live E)) a.tmps → ∃ u, den γ v = some u ∧ (execOp a.eval o).run P w = .ok (.value u) w)
  (hk : LX P F γ0 N live ops os (psh o.dst Γ) (pshS o.dst v S) E D H r) : LX P F γ0 N live ops (o :: os) Γ S E D H r := fun γ Q a w hle hs hrel he hX => by
 obtain ⟨u, hu, hr⟩ := hrun γ a w hle hrel he
 unfold wpListIn
 rw [if_pos (by simp [Region.wanted, hg])]
 unfold Oper.wpIn
 rw [semAt_def hdf, hr]
 refine ⟨fun _ _ => trivial, hk γ Q _ w hle hs hrel ?_ (by rw [put_defers]; exact hX)⟩
 rw [gx_psh]; exact he.putC (a := a) hd' hu
theorem LX.call {ops : Array Oper} {o : Oper} {os : List Oper} {Γ : List Nat} {S : List CV} {E : Tr CV} {D : Dx} {H : Tr CO} {r : RX} {v : CV} {f : Nat} (hg : o.guard = none) (hdf : isDef o = false) (hd' : okd N o.dst = true)
  (hrun : ∀ (γ : Ga) (a : Act) (w : World), Gle γ0 γ → Rel F γ H.get w → SatE N γ (gx Γ S (gl live E)) a.tmps → ∃ u vs, den γ v = some u ∧ (execOp a.eval o).run P w = .ok (.enter f vs) w ∧ Calls P f vs w fun e w' => e = .returned u ∧ Chg [] w w')
  (hk : LX P F γ0 N live ops os (psh o.dst Γ) (pshS o.dst v S) E D H r) : LX P F γ0 N live ops (o :: os) Γ S E D H r := fun γ Q a w hle hs hrel he hX => by
 obtain ⟨u, vs, hu, hr, hc⟩ := hrun γ a w hle hrel he
 unfold wpListIn
 rw [if_pos (by simp [Region.wanted, hg])]
 unfold Oper.wpIn
 rw [semAt_def hdf, hr, Oper.uponIn_enter]
 refine ⟨fun _ _ => trivial, fun h => (by cases h), callsIn_wide.2 (hc.mono ?_)⟩
 rintro e w' ⟨rfl, hchg⟩
 refine hk γ Q _ w' hle hs (hrel.chg hchg (by simp)) ?_ (by rw [put_defers]; exact hX)
 rw [gx_psh]; exact he.putC (a := a) hd' hu
theorem LX.cons {ops : Array Oper} {o : Oper} {os os' : List Oper} {Γ : List Nat} {S : List CV} {E : Tr CV} {D : Dx} {H : Tr CO} {r : RX} (he : os' = o :: os) (h : LX P F γ0 N live ops (o :: os) Γ S E D H r) : LX P F γ0 N live ops os' Γ S E D H r := by
 subst he; exact h
end
/-! ### A life that is known -/
noncomputable def hdW (hd : Hd) (f : Nat) : Hd := ⟨fun C g args h => match Nat.beq g f, args with
 | true, [] => .one (.ret (.b true), h)
 | _, _ => hd.call C g args h, hd.code, hd.fn⟩
theorem hdW_call (hd : Hd) (f : Nat) (C : Tr LS) (g : Nat) (args : List CV) (h : HC) : (hdW hd f).call C g args h = match Nat.beq g f, args with
 | true, [] => .one (.ret (.b true), h)
 | _, _ => hd.call C g args h := rfl
theorem hdW_ok {P : Program} {hd : Hd} {f : Nat} (hh : HdOK P hd) (hl : ∀ w, Calls P f #[] w fun e w' => e = .returned (.bool true) ∧ Chg [] w w') : HdOK P (hdW hd f) := by
 refine ⟨fun C g args h F γ R hs w vs hr ha hC => ?_, hh.code, hh.fn⟩
 rw [hdW_call] at hs
 split at hs
 ·rename_i hb
  have hb := Nat.eq_of_beq_eq_true hb
  subst hb
  have : vs = [] := by simp [denL] at ha; exact ha
  subst this
  refine (hl w).mono ?_
  rintro e w' ⟨rfl, hc⟩
  exact hs γ w' (Gle.refl _) (hr.chg hc (by simp)) _ rfl
 ·exact hh.call C g _ h F γ R hs w vs hr ha hC
theorem life' {P : Program} {L : Nat} {t : Tr Func} (ht : t.All fun f g => P.funcs[f]? = some g) {rk : Tr Nat} {n f : Nat} (h : yields ((hdF P t.get rk L n).call .nil f [] ⟨.nil, 1⟩) = true) (w : World) :
  Calls P f #[] w fun e w' => e = .returned (.bool true) ∧ Chg [] w w' := (life ht h w).mono fun e w' ⟨h1, h2, h3, h4, h5, h6⟩ => ⟨h1, h2, h3, h4, h5, fun i hi _ => h6 i hi⟩
theorem Rel.chgAll {w w' : World} {γ : Ga} {H : Hp} (h : Rel ⟨w, fun _ => True⟩ γ H w') : Chg [] w w' := ⟨h.os, h.tape, h.output, h.size, fun i hi _ => h.fr i ⟨trivial, hi⟩⟩
theorem yields_sat {r : Rs (En × HC)} (h : yields r = true) (w : World) (γ : Ga) : r.sat (PostC ⟨w, fun _ => True⟩ γ fun e w' => e = .returned (.bool true) ∧ Chg [] w w') := by
 cases r with
 | bad n s => cases h
 | many l => cases h
 | one y =>
  obtain ⟨e, hc⟩ := y
  cases e with
  | pan v => cases h
  | ret v =>
   cases v <;> first | (cases h; done) | skip
   rename_i b
   have hb : b = true := h
   subst hb
   intro γ w' hle hrel u hu
   have hu : u = .bool true := (Option.some.inj hu).symm
   subst hu
   exact ⟨rfl, hrel.chgAll⟩
end Go.Y
end
