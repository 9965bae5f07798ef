/- Texts of the claim, merged: YWalk24 YWalkB XStep YJoin. -/
import Derived.Test.YtlboclmdfkllnaaGreatDoorXK5
import Derived.Test.YtlboclmdfkllnaaGreatDoorRows
import Derived.JoinedOf
set_option linter.unusedSimpArgs false
set_option linter.unusedVariables false
set_option maxRecDepth 100000
section
/- TrailTexts: the walk. -/
namespace Go.Proofs.YtlboclmdfkllnaaGreatDoor
open Go Go.RowKit Go.X Go.XR Go.Y
def sq1 : Code → Code
 | .seq a _ => a
 | c => c
def sq2 : Code → Code
 | .seq _ b => b
 | c => c
def opsOf : Code → Array Oper
 | .region _ ops _ => ops
 | _ => #[]
def noOp : Oper := ⟨none, .panic (.const .nilIface), 0, "", #[], none⟩
noncomputable def opn (c : Code) (i : Nat) : Oper := match nth (opsOf c).toList i with
 | some o => o
 | none => noOp
noncomputable def bod : Code := match Tryz.f3.body with
 | some c => c
 | none => .skip
theorem bod_eq : Tryz.f3.body = some bod := by kernel_rfl
noncomputable def r0 : Code := sq1 bod
noncomputable def rA : Code := sq1 (sq1 (sq2 bod))
noncomputable def cA : Code := sq2 (sq1 (sq2 bod))
noncomputable def r3 : Code := sq1 (sq2 (sq2 bod))
noncomputable def r4 : Code := sq1 (sq2 (sq2 (sq2 bod)))
noncomputable def r5 : Code := sq1 (sq2 (sq2 (sq2 (sq2 bod))))
noncomputable def r6 : Code := sq1 (sq2 (sq2 (sq2 (sq2 (sq2 bod)))))
noncomputable def rB : Code := sq1 (sq2 (sq2 (sq2 (sq2 (sq2 (sq2 bod))))))
noncomputable def rK : Code := sq1 (sq2 (sq2 (sq2 (sq2 (sq2 (sq2 (sq2 bod)))))))
noncomputable def rZ : Code := sq1 (sq2 (sq2 (sq2 (sq2 (sq2 (sq2 (sq2 (sq2 bod))))))))
theorem bod_parts : bod = .seq r0 (.seq (.seq rA cA) (.seq r3 (.seq r4 (.seq r5 (.seq r6 (.seq rB (.seq rK (.seq rZ .ret)))))))) := by kernel_rfl
theorem rA_eq : rA = .region 1 (opsOf rA) false := by kernel_rfl
theorem rZ_eq : rZ = .region 11 (opsOf rZ) false := by kernel_rfl
theorem rA_ops : (opsOf rA).toList = [opn rA 0, opn rA 1, opn rA 2] := by kernel_rfl
noncomputable def rest5 : List Oper := (opsOf rZ).toList.drop 5
theorem rZ_ops : (opsOf rZ).toList = opn rZ 0 :: opn rZ 1 :: opn rZ 2 :: opn rZ 3 :: opn rZ 4 :: rest5 := by kernel_rfl
noncomputable abbrev nT : Nat := Tryz.f3.ntmps
noncomputable abbrev lvT : List Nat := liveC bod (resT Tryz.f3.results.toList)
noncomputable abbrev hdX : Hd := hdW hdL 4
theorem hdX_ok : HdOK Tryz.prog hdX := hdW_ok hdL_ok works_ok
noncomputable abbrev go (c : Code) (σ : St) : RX := (execC Tryz.prog 100000 hdX nT lvT c).f σ
noncomputable def s0 (lv : CV) : St := ⟨envC 0 [lv], ⟨[], .nil, none, []⟩, .leaf 0 .gone, 1⟩
noncomputable def s1 (lv : CV) : St := stO (go r0 (s0 lv))
noncomputable def s2 (lv : CV) (n : Nat) (x : Bool) : St := ⟨(flush lvT [12, 11, 10]).f [.b x, .i .i64 n, lv] (s1 lv).E, (s1 lv).D, (s1 lv).H, (s1 lv).c⟩
noncomputable def s3 (lv : CV) (n : Nat) : St := stO (go cA (s2 lv n false))
noncomputable def s4 (lv : CV) (n : Nat) : St := stO (go r3 (s3 lv n))
noncomputable def s5 (lv : CV) (n : Nat) : St := stO (go r4 (s4 lv n))
noncomputable def s6 (lv : CV) (n : Nat) : St := stO (go r5 (s5 lv n))
noncomputable def s7 (lv : CV) (n : Nat) : St := stO (go r6 (s6 lv n))
noncomputable def s8 (lv : CV) (n : Nat) : St := stO (go rB (s7 lv n))
noncomputable def s9 (lv : CV) (n : Nat) : St := stO (go rK (s8 lv n))
theorem n1 (lv : CV) : isN (go r0 (s0 lv)) = true := by kernel_rfl
theorem nX (lv : CV) (n : Nat) : isR (go cA (s2 lv n true)) = true := by kernel_rfl
theorem n3 (lv : CV) (n : Nat) : isN (go cA (s2 lv n false)) = true := by kernel_rfl
theorem n4 (lv : CV) (n : Nat) : isN (go r3 (s3 lv n)) = true := by kernel_rfl
theorem n5 (lv : CV) (n : Nat) : isN (go r4 (s4 lv n)) = true := by kernel_rfl
theorem n6 (lv : CV) (n : Nat) : isN (go r5 (s5 lv n)) = true := by kernel_rfl
theorem n7 (lv : CV) (n : Nat) : isN (go r6 (s6 lv n)) = true := by kernel_rfl
theorem n8 (lv : CV) (n : Nat) : isN (go rB (s7 lv n)) = true := by kernel_rfl
theorem n9 (lv : CV) (n : Nat) : isN (go rK (s8 lv n)) = true := by kernel_rfl
theorem at1 (lv : CV) : gl lvT (s1 lv).E 0 = some lv := by kernel_rfl
theorem at9 (lv : CV) (n : Nat) : gl lvT (s9 lv n).E 0 = some lv := by kernel_rfl
noncomputable def rF (lv : CV) (n : Nat) (l : List Nat) : RX := (runX Tryz.prog hdX nT lvT (opsOf rZ).toList rest5 [39, 38, 37, 36, 35]).f [.b true, .s l, lv, .s l, lv] (s9 lv n).E (s9 lv n).D (s9 lv n).H (s9 lv n).c
noncomputable def sF (lv : CV) (n : Nat) (l : List Nat) : St := stO (rF lv n l)
theorem nF (lv : CV) (n : Nat) (l : List Nat) : isN (rF lv n l) = true := by kernel_rfl
noncomputable abbrev leaves (r : RX) : Rs (En × HC) := r.bind (endC Tryz.prog 100000 hdX .nil lvT Tryz.f3.results.toList)
theorem endX (lv : CV) (n : Nat) : yields (leaves (go cA (s2 lv n true))) = true := by kernel_rfl
theorem endF (lv : CV) (n : Nat) (l : List Nat) : yields (leaves (go .ret (sF lv n l))) = true := by kernel_rfl
end Go.Proofs.YtlboclmdfkllnaaGreatDoor
end
section
/- TrailTexts: the walk, joined. -/
namespace Go.Proofs.YtlboclmdfkllnaaGreatDoor
open Go Go.RowKit Go.X Go.XR Go.Y
theorem gA0 : (opn rA 0).guard = none ∧ isDef (opn rA 0) = false ∧ (opn rA 0).dst = some 10 ∧ (opn rA 0).op = .move (.tmp 0) := ⟨by kernel_rfl, by kernel_rfl, by kernel_rfl, by kernel_rfl⟩
theorem gA1 : (opn rA 1).guard = none ∧ isDef (opn rA 1) = false ∧ (opn rA 1).dst = some 11 ∧ (opn rA 1).op = .call ⟨.builtin .len, #[.tmp 10], #[22]⟩ ∧ (opn rA 1).type = 3 := ⟨by kernel_rfl, by kernel_rfl, by kernel_rfl, by kernel_rfl, by kernel_rfl⟩
theorem gA2 : (opn rA 2).guard = none ∧ isDef (opn rA 2) = false ∧ (opn rA 2).dst = some 12 ∧ (opn rA 2).op = .binOp .gtr 3 (.tmp 11) (.const (.int .i64 50)) 3 := ⟨by kernel_rfl, by kernel_rfl, by kernel_rfl, by kernel_rfl⟩
theorem gZ0 : (opn rZ 0).guard = none ∧ isDef (opn rZ 0) = false ∧ (opn rZ 0).dst = some 35 ∧ (opn rZ 0).op = .move (.tmp 0) := ⟨by kernel_rfl, by kernel_rfl, by kernel_rfl, by kernel_rfl⟩
theorem gZ1 : (opn rZ 1).guard = none ∧ isDef (opn rZ 1) = false ∧ (opn rZ 1).dst = some 36 ∧ (opn rZ 1).op = .call ⟨.value (.func 9), #[.tmp 35], #[22]⟩ := ⟨by kernel_rfl, by kernel_rfl, by kernel_rfl, by kernel_rfl⟩
theorem gZ2 : (opn rZ 2).guard = none ∧ isDef (opn rZ 2) = false ∧ (opn rZ 2).dst = some 37 ∧ (opn rZ 2).op = .move (.tmp 0) := ⟨by kernel_rfl, by kernel_rfl, by kernel_rfl, by kernel_rfl⟩
theorem gZ3 : (opn rZ 3).guard = none ∧ isDef (opn rZ 3) = false ∧ (opn rZ 3).dst = some 38 ∧ (opn rZ 3).op = .call ⟨.value (.func 10), #[.tmp 37], #[22]⟩ := ⟨by kernel_rfl, by kernel_rfl, by kernel_rfl, by kernel_rfl⟩
theorem gZ4 : (opn rZ 4).guard = none ∧ isDef (opn rZ 4) = false ∧ (opn rZ 4).dst = some 39 ∧ (opn rZ 4).op = .binOp .eql 9 (.tmp 36) (.tmp 38) 9 := ⟨by kernel_rfl, by kernel_rfl, by kernel_rfl, by kernel_rfl⟩
theorem slot {N : Nat} {γ : Ga} {G : CE} {a : Act} {t : Nat} {v : CV} {u : Value} (h : SatE N γ G a.tmps) (ht : G t = some v) (hv : den γ v = some u) : a.eval (.tmp t) = u := by
 have h1 := h.get t v ht
 rw [hv] at h1
 have : a.eval (.tmp t) = a.tmps.getD t undef := by simp [Act.eval]
 rw [this]; exact (Option.some.inj h1).symm
theorem run_move {o : Oper} {x : Operand} (h : o.op = .move x) (ρ : Operand → Value) (w : World) : (execOp ρ o).run Tryz.prog w = .ok (.value (ρ x)) w := by
 simp [execOp, h]
theorem run_len {o : Oper} {x : Operand} {t e : TypeId} (ht : Tryz.prog.underlying t = some (.slice e)) (h : o.op = .call ⟨.builtin .len, #[x], #[t]⟩) (ρ : Operand → Value) {p : Option Addr} {n c : Nat} (hx : ρ x = .slice p n c) (w : World) : (execOp ρ o).run Tryz.prog w = .ok (.value (.int .i64 n)) w := by
 simp [execOp, h, resolve, invoke, builtin, hx, go_sem, Builtin.len_, run_underlying ht]
theorem run_gtr {o : Oper} {x : Operand} {t t2 : TypeId} (h : o.op = .binOp .gtr t x (.const (.int .i64 50)) t2) (ρ : Operand → Value) {n : Nat} (hx : ρ x = .int .i64 n) (hk : ρ (.const (.int .i64 50)) = .int .i64 50) (w : World) : (execOp ρ o).run Tryz.prog w = .ok (.value (.bool (decide (50 < n)))) w := by
 simp [execOp, h, hx, hk, eqGuard, binOp, Op.intCmp, go_sem]
 omega
theorem run_eqs {o : Oper} {x y : Operand} {t t2 : TypeId} (h : o.op = .binOp .eql t x y t2) (ρ : Operand → Value) {s : ByteArray} (hx : ρ x = .string s) (hy : ρ y = .string s) (w : World) : (execOp ρ o).run Tryz.prog w = .ok (.value (.bool true)) w := by
 simp [execOp, h, hx, hy, eqGuard, binOp, Op.stringOp, go_sem]
theorem run_call1 {o : Oper} {f : Nat} {x : Operand} {t : TypeId} (h : o.op = .call ⟨.value (.func f), #[x], #[t]⟩) {fn : Func} (hf : Tryz.prog.funcs[f]? = some fn) (hn : (fn.name == "runtime.NumGoroutine") = false) (hb : fn.body.isNone = false) (ρ : Operand → Value) (e : ρ (.func f) = .func (.func f) #[] #[]) (w : World) : (execOp ρ o).run Tryz.prog w = .ok (.enter f #[ρ x]) w := by
 have := run_call (P := Tryz.prog) (w := w) (args := #[ρ x]) hf hn hb
 simp [execOp, h, resolve, e, Deferred.ofValue, invoke, this]
theorem s1_eta (lv : CV) : s1 lv = ⟨(s1 lv).E, (s1 lv).D, (s1 lv).H, (s1 lv).c⟩ := rfl
section
variable {F : Fr} {γ0 : Ga} {lv : CV} {p : Option Addr} {n c : Nat}
theorem exA (hlv : den γ0 lv = some (.slice p n c)) : EX Tryz.prog F γ0 nT lvT rA (s1 lv) (.one (.n, s2 lv n (decide (50 < n)))) := by
 rw [rA_eq, s1_eta]
 refine EX.region ?_
 rw [rA_ops]
 obtain ⟨a1, a2, a3, a4⟩ := gA0
 obtain ⟨b1, b2, b3, b4, b5⟩ := gA1
 obtain ⟨c1, c2, c3, c4⟩ := gA2
 refine LX.val (v := lv) a1 a2 (by kernel_rfl) (fun γ a w hle hrel he => ?_) ?_
 ·have h0 := slot he (at1 lv) (den_mono hle lv hlv)
  exact ⟨_, den_mono hle lv hlv, by rw [run_move a4, h0]⟩
 rw [a3]
 refine LX.val (v := .i .i64 n) b1 b2 (by kernel_rfl) (fun γ a w hle hrel he => ?_) ?_
 ·have h0 := slot (t := 10) he rfl (den_mono hle lv hlv)
  exact ⟨.int .i64 n, rfl, run_len Tryz.underlying22 b4 _ h0 w⟩
 rw [b3]
 refine LX.val (v := .b (decide (50 < n))) c1 c2 (by kernel_rfl) (fun γ a w hle hrel he => ?_) ?_
 ·have h0 := slot (t := 11) (u := .int .i64 n) he rfl rfl
  exact ⟨_, rfl, run_gtr c4 _ h0 rfl w⟩
 rw [c3]
 exact LX.done rfl _ _ _ _
theorem exZ (hlv : den γ0 lv = some (.slice p n c)) {r : ByteArray} (h1 : ∀ γ (H : Tr CO) w, Rel F γ H.get w → Calls Tryz.prog 9 #[.slice p n c] w fun e w' => e = .returned (.string r) ∧ Chg [] w w')
  (h2 : ∀ γ (H : Tr CO) w, Rel F γ H.get w → Calls Tryz.prog 10 #[.slice p n c] w fun e w' => e = .returned (.string r) ∧ Chg [] w w') : EX Tryz.prog F γ0 nT lvT rZ (s9 lv n) (rF lv n (r.data.toList.map UInt8.toNat)) := by
 have hr : ∀ γ, den γ (.s (r.data.toList.map UInt8.toNat)) = some (.string r) := fun γ => by
  simp only [den, mkB]
  congr 2
  apply ByteArray.ext
  simp [List.map_map, Function.comp_def]
 rw [rZ_eq, show s9 lv n = ⟨(s9 lv n).E, (s9 lv n).D, (s9 lv n).H, (s9 lv n).c⟩ from rfl]
 refine EX.region ?_
 rw [rZ_ops]
 obtain ⟨a1, a2, a3, a4⟩ := gZ0
 obtain ⟨b1, b2, b3, b4⟩ := gZ1
 obtain ⟨c1, c2, c3, c4⟩ := gZ2
 obtain ⟨d1, d2, d3, d4⟩ := gZ3
 obtain ⟨e1, e2, e3, e4⟩ := gZ4
 refine LX.val (v := lv) a1 a2 (by kernel_rfl) (fun γ a w hle hrel he => ?_) ?_
 ·have h0 := slot he (at9 lv n) (den_mono hle lv hlv)
  exact ⟨_, den_mono hle lv hlv, by rw [run_move a4, h0]⟩
 rw [a3]
 refine LX.call (f := 9) (v := .s (r.data.toList.map UInt8.toNat)) b1 b2 (by kernel_rfl) (fun γ a w hle hrel he => ?_) ?_
 ·have h0 := slot (t := 35) he rfl (den_mono hle lv hlv)
  refine ⟨_, _, hr γ, run_call1 b4 Tryz.func9 (by kernel_rfl) (by kernel_rfl) _ rfl w, ?_⟩
  rw [h0]; exact h1 γ _ w hrel
 rw [b3]
 refine LX.val (v := lv) c1 c2 (by kernel_rfl) (fun γ a w hle hrel he => ?_) ?_
 ·have h0 := slot (t := 0) he (show _ = some lv from at9 lv n) (den_mono hle lv hlv)
  exact ⟨_, den_mono hle lv hlv, by rw [run_move c4, h0]⟩
 rw [c3]
 refine LX.call (f := 10) (v := .s (r.data.toList.map UInt8.toNat)) d1 d2 (by kernel_rfl) (fun γ a w hle hrel he => ?_) ?_
 ·have h0 := slot (t := 37) he rfl (den_mono hle lv hlv)
  refine ⟨_, _, hr γ, run_call1 d4 Tryz.func10 (by kernel_rfl) (by kernel_rfl) _ rfl w, ?_⟩
  rw [h0]; exact h2 γ _ w hrel
 rw [d3]
 refine LX.val (v := .b true) e1 e2 (by kernel_rfl) (fun γ a w hle hrel he => ?_) ?_
 ·have k1 := slot (t := 36) he rfl (hr γ)
  have k2 := slot (t := 38) he rfl (hr γ)
  exact ⟨_, rfl, run_eqs e4 _ k1 k2 w⟩
 rw [e3]
 simp only [psh, pshS]
 unfold rF
 exact LX.run hdX_ok rest5 rfl (s9 lv n).E (s9 lv n).D (s9 lv n).H (s9 lv n).c
end
theorem trail_walk {w : World} (ht : Tab w) {S : Nat → Prop} {p : Option Addr} {n c : Nat} {ls : List Lk} (hm : LinksAt w S p n ls) (hp : (p = none ∧ n = 0 ∧ c = 0) ∨ ∃ b o, p = some ⟨b, o, none⟩) :
  Calls Tryz.prog 3 #[.slice p n c] w fun e w' => ∃ r : Bool, e = .returned (.bool r) ∧ (r = true ∧ Chg [] w w') := by
 obtain ⟨lv, g, hlv⟩ : ∃ lv g, den (fun r => if r = 0 then some g else none) lv = some (.slice p n c) := by
  rcases hp with ⟨rfl, rfl, rfl⟩ | ⟨b, o, rfl⟩
  ·exact ⟨.nsl, { b := 0 }, rfl⟩
  ·exact ⟨.sl 0 0 n none, { b := b, o := o, c := c }, by simp [den]⟩
 have hrel0 : Rel ⟨w, fun _ => True⟩ (fun r => if r = 0 then some g else none) (Tr.leaf 0 CO.gone).get w := by
  have hg : ∀ r o, (Tr.leaf 0 CO.gone).get r = some o → r = 0 ∧ o = .gone := fun r o h => by
   rw [Tr.get_leaf] at h
   by_cases e : r = 0
   ·rw [if_pos e] at h; cases h; exact ⟨e, rfl⟩
   ·rw [if_neg e] at h; cases h
  refine ⟨rfl, rfl, rfl, Nat.le_refl _, fun _ _ => rfl, fun r h => ?_, fun r o h => ?_, fun r o g' h _ => ?_, fun r r' o o' g1 g2 hne h h' => ?_, fun r o g' h _ b hb => ?_⟩
  ·rw [Tr.get_leaf] at h
   by_cases e : r = 0
   ·rw [if_pos e] at h; cases h
   ·exact if_neg e
  ·obtain ⟨rfl, _⟩ := hg r o h; exact ⟨g, if_pos rfl⟩
  ·obtain ⟨_, rfl⟩ := hg r o h; trivial
  ·obtain ⟨e1, _⟩ := hg r o h
   obtain ⟨e2, _⟩ := hg r' o' h'
   exact absurd (e1.trans e2.symm) hne
  ·obtain ⟨_, rfl⟩ := hg r o h; cases hb
 have fin : ∀ r : RX, EX Tryz.prog ⟨w, fun _ => True⟩ (fun r => if r = 0 then some g else none) nT lvT bod (s0 lv) r → yields (leaves r) = true → Calls Tryz.prog 3 #[.slice p n c] w fun e w' => ∃ r : Bool, e = .returned (.bool r) ∧ (r = true ∧ Chg [] w w') := fun r hex hy => by
  refine (callG_ok (F := ⟨w, fun _ => True⟩) (L := 100000) (hd := hdX) (C := .nil) (args := [lv]) (h := ⟨.leaf 0 .gone, 1⟩) (vs := [.slice p n c]) hdX_ok (draw_ok hdX_ok) Tryz.func3 bod_eq (r := r) (fun Q a hs hst => hex _ Q a w (Gle.refl _) hs hst) (yields_sat hy w _) hrel0 (denL_cons.2 ⟨_, _, hlv, rfl, rfl⟩) (CRel.nil _)).mono ?_
  rintro e w' ⟨h1, h2⟩
  exact ⟨true, h1, rfl, h2⟩
 have hA := exA (F := ⟨w, fun _ => True⟩) hlv
 by_cases hn : 50 < n
 ·rw [decide_eq_true hn] at hA
  refine fin (go cA (s2 lv n true)) ?_ (endX lv n)
  rw [bod_parts]
  refine EX.next hdX_ok (n1 lv) ?_
  rw [isR_spec (nX lv n)]
  refine EX.seqR (EX.seq hA ?_)
  rw [← isR_spec (nX lv n)]
  exact EX.exec hdX_ok _ _
 ·rw [decide_eq_false hn] at hA
  have hsame : ∀ {W : World}, Chg [] w W → LinksAt W S p n ls ∧ Tab W := fun hc => ⟨hm.chg hc, ht.chg hc⟩
  have hZ := exZ (F := ⟨w, fun _ => True⟩) (r := linesT ls) hlv (fun γ H W hrel => by
   obtain ⟨k1, k2⟩ := hsame hrel.chgAll
   refine (trail_text k2 k1 (by omega)).mono ?_
   rintro _ w' ⟨_, rfl, rfl, hc⟩
   exact ⟨rfl, hc⟩) (fun γ H W hrel => by
   obtain ⟨k1, k2⟩ := hsame hrel.chgAll
   refine (ref_text24 k2 k1 (by omega)).mono ?_
   rintro _ w' ⟨_, rfl, rfl, hc⟩
   exact ⟨rfl, hc⟩)
  generalize hl : (linesT ls).data.toList.map UInt8.toNat = l at hZ
  refine fin (go .ret (sF lv n l)) ?_ (endF lv n l)
  rw [bod_parts]
  refine EX.next hdX_ok (n1 lv) (EX.seq (σ1 := s3 lv n) (EX.seq hA (by rw [show s3 lv n = stO (go cA (s2 lv n false)) from rfl, ← isN_spec (n3 lv n)]; exact EX.exec hdX_ok _ _)) ?_)
  refine EX.next hdX_ok (n4 lv n) (EX.next hdX_ok (n5 lv n) (EX.next hdX_ok (n6 lv n) (EX.next hdX_ok (n7 lv n) (EX.next hdX_ok (n8 lv n) (EX.next hdX_ok (n9 lv n) (EX.seq (σ1 := sF lv n l) ?_ (EX.exec hdX_ok _ _)))))))
  rw [show sF lv n l = stO (rF lv n l) from rfl, ← isN_spec (nF lv n l)]
  exact hZ
end Go.Proofs.YtlboclmdfkllnaaGreatDoor
end
section
/- What every row's step needs. -/
namespace Go.Proofs.YtlboclmdfkllnaaGreatDoor
open Go Go.RowKit Go.X
theorem ownX : ownKnob Tryz.prog.godebug = none := by kernel_rfl
theorem laidOutX : laidOutB Tryz.prog = true := by kernel_rfl
end Go.Proofs.YtlboclmdfkllnaaGreatDoor
end
section
/- The closed facts of a row, each by itself. -/
namespace Go.Y
open Go
theorem joined_parts {P : Program} {f : FuncId} {fn : Func} {s : ChangeSpec} {c : OpenClaim} (h1 : (c.wf (OpenSpec.ofChange s)) = true) (h2 : (laidOutB P) = true) (h3 : (mapsRowed P) = true) (h4 : (fn.params.all (P.readableRec ·)) = true) (h5 : (namedTie P c.named s.vars) = true) (h6 : ((c.stops == [])) = true) (h7 : ((P.stops == [])) = true) (h8 : ((c.knobs == [])) = true) (h9 : ((P.stopKnobs == [])) = true) (h10 : ((c.inPlace == P.inPlace f)) = true) (h11 : ((c.unfollowed == P.unfollowed f)) = true) (h12 : ((c.recurses == P.recurses f)) = true) (h13 : ((c.named == P.varsNamed f)) = true) (h14 : ((c.maps == (fn.params.toList ++ s.plain.varTypes P).any (P.mapsRec ·))) = true) (h15 : ((c.ifaces == (fn.params.toList ++ s.plain.varTypes P).any (P.ifacesRec ·))) = true) (h16 : ((c.mapsOut == P.mapsAmong fn.resultTypes.toList)) = true) (h17 : ((c.loops == (fn.params.toList ++ s.plain.varTypes P).any (P.loopsFrom ·))) = true) (h18 : ((c.wideKeys == (fn.params.toList ++ s.plain.varTypes P ++ fn.resultTypes.toList).any (P.wideKeysFrom ·))) = true) (h19 : (s.vars.all (P.varReadable ·)) = true) (h20 : (fn.resultTypes.all (fun t => P.readableRec t && decide (t < P.types.size))) = true) (h21 : ((c.ifacesOut == fn.resultTypes.toList.any (P.ifacesRec ·))) = true) (h22 : ((c.loopsOut == fn.resultTypes.toList.any (P.loopsFrom ·))) = true) (h23 : ((c.plainKeys == P.plainKeys)) = true) (h24 : (c.shortTexts.isNone) = true) (h25 : (P.stopsHeard) = true) (h26 : (P.mayEnter) = true) (h27 : ((c.lifted == P.liftsFinal)) = true) (h28 : ((P.make == some c.make)) = true) (h29 : ((c.kinds == (if c.domain.isEmpty then [] else fn.params.toList.map fun t => match P.underlying t with | some (.int k) => some k | _ => none))) = true) (h30 : ((c.pinned == c.pinnedBy)) = true) (h31 : ((c.veiled == (fn.params.toList ++ s.plain.varTypes P ++ fn.resultTypes.toList).any (P.veiledRec ·))) = true) (h32 : (c.veiledFits P fn.params.toList (fn.params.toList ++ s.plain.varTypes P ++ fn.resultTypes.toList)) = true) : joinedFacts P f fn s c = true := by
 unfold joinedFacts
 rw [h1, h2, h3, h4, h5, h6, h7, h8, h9, h10, h11, h12, h13, h14, h15, h16, h17, h18, h19, h20, h21, h22, h23, h24, h25, h26, h27, h28, h30, h31, h32]
 simp only [Bool.true_and, Bool.and_true]
 exact h29
end Go.Y
end
