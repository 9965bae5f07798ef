/- Texts of the claim, merged: XRel XIter XLoc XRange XG1 XApply XJoin XRefs XRefA XGz2 XAlerts. -/
import Derived.Test.YtfcfkhbkkfpehaaGreatXMps3
import Derived.Maps.RangeRun
import Derived.RangeFuncSeq
import Derived.RangeFuncRecord
import Derived.RangeFuncLeaves
import Derived.TacticsIn
import Derived.Test.YtfcfkhbkkfpehaaGreatProg
set_option linter.unusedSectionVars false
set_option linter.unusedSimpArgs false
set_option linter.unusedVariables false
set_option maxRecDepth 100000
section
/- The program's flow and the document's one, as values: what they say alike behind marks and touches. -/
namespace Go.Proofs.YtfcfkhbkkfpehaaGreat
open Go Go.RowKit Go.X
def lookPr (l : List Pr) (q : Int × Int) : Int := (lookK q l).getD 0
def PutInv (p : Int × Int) (set : Int) (l : List Pr) (s : List Pr × Bool) : Prop :=
 (∀ q, q ≠ p → lookK q s.1 = lookK q l) ∧ (s.2 = true → lookK p s.1 = if set = 0 then none else some set) ∧ (s.2 = false → lookK p s.1 = none ∧ set ≠ 0)
theorem putInv_step {p : Int × Int} {set : Int} {l : List Pr} {s : List Pr × Bool} (h : PutInv p set l s) (x : Pr) : PutInv p set (l ++ [x]) (stepPut p set s x) := by
 obtain ⟨out, put⟩ := s
 obtain ⟨h1, h2, h3⟩ := h
 simp only [] at h1 h2 h3
 have hone : ∀ (q : Int × Int) (y : Pr), lookK q [y] = if y.1 = q then some y.2 else none := fun q y => by rw [lookK_cons, lookK_nil]
 unfold stepPut
 cases put with
 | true =>
  simp only [Bool.not_true, Bool.false_and, Bool.false_eq_true, if_false, Bool.true_eq_false, and_false]
  have h2' := h2 rfl
  by_cases hx : x.1 = p
  ·simp only [hx, if_true]
   refine ⟨fun q hq => ?_, fun _ => h2', fun h => by simp at h⟩
   rw [h1 q hq, lookK_append, hone, hx, if_neg (Ne.symm hq), Option.or_none]
  ·simp only [hx, if_false]
   refine ⟨fun q hq => ?_, fun _ => ?_, fun h => by simp at h⟩
   ·rw [lookK_append, lookK_append, h1 q hq]
   ·rw [lookK_append, h2', hone, if_neg hx, Option.or_none]
 | false =>
  obtain ⟨h3', hs⟩ := h3 rfl
  by_cases ha : aheadP p x.1
  ·have hx : x.1 ≠ p := fun e => by rw [e] at ha; unfold aheadP at ha; omega
   simp only [Bool.not_false, Bool.true_and, ha, decide_true, if_true, hx, if_false, Bool.true_eq_false, and_false, false_and]
   refine ⟨fun q hq => ?_, fun _ => ?_, fun h => by simp at h⟩
   ·rw [lookK_append, lookK_append, lookK_append, hone, hone, h1 q hq]
    simp only [Ne.symm hq, if_false, Option.or_none]
   ·rw [lookK_append, lookK_append, h3', hone, hone]
    simp [hs]
  ·simp only [Bool.not_false, Bool.true_and, ha, decide_false, Bool.false_eq_true, if_false]
   by_cases hx : x.1 = p
   ·simp only [hx, if_true, and_self]
    refine ⟨fun q hq => ?_, fun _ => ?_, fun h => by simp at h⟩
    ·rw [lookK_append, lookK_append, hone, hone, h1 q hq, hx]; simp [Ne.symm hq]
    ·rw [lookK_append, h3', hone]
     simp [hs]
   ·simp only [hx, if_false, false_and]
    refine ⟨fun q hq => ?_, fun h => by simp at h, fun _ => ⟨?_, hs⟩⟩
    ·rw [lookK_append, lookK_append, h1 q hq]
    ·rw [lookK_append, h3', hone, if_neg hx]; rfl
theorem putInv_fold (p : Int × Int) (set : Int) (l : List Pr) : PutInv p set l (foldPut p set l) := by
 have : ∀ (l l0 : List Pr) (s : List Pr × Bool), PutInv p set l0 s → PutInv p set (l0 ++ l) (l.foldl (stepPut p set) s) := by
  intro l
  induction l with
  | nil => intro l0 s h; simpa using h
  | cons x l ih =>
   intro l0 s h
   have := ih (l0 ++ [x]) _ (putInv_step h x)
   simpa using this
 have := this l [] ([], set == 0) ⟨fun q _ => rfl, fun h => by simp at h; simp [h, lookK_nil], fun h => by simp at h; exact ⟨rfl, h⟩⟩
 simpa [foldPut] using this
theorem look_refPut (p : Int × Int) (set : Int) (l : List Pr) (q : Int × Int) : lookPr (refPut p set l) q = if q = p then set else lookPr l q := by
 obtain ⟨h1, h2, h3⟩ := putInv_fold p set l
 unfold refPut lookPr
 simp only []
 by_cases hs : (foldPut p set l).2 = true
 ·rw [if_pos hs]
  by_cases hq : q = p
  ·subst hq
   rw [h2 hs, if_pos rfl]
   by_cases h0 : set = 0
   ·simp [h0]
   ·simp [h0]
  ·rw [h1 q hq, if_neg hq]
 ·rw [if_neg hs]
  have hs' : (foldPut p set l).2 = false := by simpa using hs
  rw [lookK_append, lookK_cons, lookK_nil]
  by_cases hq : q = p
  ·subst hq
   rw [(h3 hs').1]; simp
  ·rw [h1 q hq, if_neg (Ne.symm hq), if_neg hq, Option.or_none]
structure RelF (F : Fl) (R : Rf) : Prop where
 fr : R.fr = F.fr
 se : R.se = F.se
 most : R.most = F.most
 sets : R.sets = F.sets
 look : ∀ q, lookPr R.pairs q = F.g q
theorem RelF.new (fr se most : Int) : RelF (flowNew fr se most) ⟨fr, se, most, [0], []⟩ := ⟨rfl, rfl, rfl, rfl, fun _ => rfl⟩
theorem look_refFill (p : Int × Int) (set : Int) (l : List Pr) (g : Int × Int → Int) (hg : ∀ q, lookPr l q = g q) (n : Nat) (q : Int × Int) : lookPr (refFill p set l n) q = fillP g p set n q := by
 induction n generalizing q with
 | zero => exact hg q
 | succ n ih =>
  simp only [refFill, fillP, putP]
  rw [look_refPut, ih]
theorem RelF.markE {F : Fl} {R : Rf} (h : RelF F R) (p : Int × Int) (n set : Int) : refMarkE R p n set = markE F p n set := by
 unfold refMarkE Proofs.YtfcfkhbkkfpehaaGreat.markE
 rw [h.fr, h.se, h.most, h.sets]
theorem RelF.mark {F : Fl} {R : Rf} (h : RelF F R) (p : Int × Int) (n set : Int) : RelF (markF F p n set) (refMark R p n set) := by
 unfold markF refMark
 rw [h.markE]
 by_cases he : Proofs.YtfcfkhbkkfpehaaGreat.markE F p n set = 0
 ·rw [if_pos he, if_pos he]
  refine ⟨h.fr, h.se, h.most, ?_, fun q => ?_⟩
  ·simp only [h.most, h.sets]
  ·exact look_refFill p set R.pairs F.g h.look _ q
 ·rw [if_neg he, if_neg he]; exact h
/-! ### Touches applied -/
def keepStep (most : Int) (g : Int × Int → Int) (s : List Int × List Pr × Int) (t : Tch) : List Int × List Pr × Int :=
 if s.2.2 ≠ 0 ∨ t.1 = (0, 0) then s else
  if keepE most s.1 (joinP g t.2) ≠ 0 then (s.1, s.2.1, keepE most s.1 (joinP g t.2)) else (keepS most s.1 (joinP g t.2), upd t.1 (joinP g t.2) s.2.1, 0)
def keepAll (most : Int) (g : Int × Int → Int) (ts : List Tch) (sets : List Int) : List Int × List Pr × Int := ts.foldl (keepStep most g) (sets, [], 0)
theorem keepAll_snoc (most : Int) (g : Int × Int → Int) (ts : List Tch) (sets : List Int) (t : Tch) : keepAll most g (ts ++ [t]) sets = keepStep most g (keepAll most g ts sets) t := by simp [keepAll]
theorem keepAll_bad {most : Int} {g : Int × Int → Int} {ts us : List Tch} {sets : List Int} (h : (keepAll most g ts sets).2.2 ≠ 0) : keepAll most g (ts ++ us) sets = keepAll most g ts sets := by
 have : ∀ (us : List Tch) (s : List Int × List Pr × Int), s.2.2 ≠ 0 → us.foldl (keepStep most g) s = s := by
  intro us
  induction us with
  | nil => intro s _; rfl
  | cons u us ih =>
   intro s hs
   have e : keepStep most g s u = s := by unfold keepStep; rw [if_pos (.inl hs)]
   rw [List.foldl_cons, e]; exact ih s hs
 unfold keepAll at h ⊢
 rw [List.foldl_append]; exact this us _ h
def rightAll (fr se : Int) (ts : List Tch) : Prop := ∀ t ∈ ts, rightT fr se t
instance (fr se : Int) (ts : List Tch) : Decidable (rightAll fr se ts) := by unfold rightAll; exact inferInstance
def overP (g : Int × Int → Int) (now : List Pr) : Int × Int → Int := fun q => (lookK q now).getD (g q)
def applyF (F : Fl) (ts : List Tch) : Fl :=
 if rightAll F.fr F.se ts then { F with sets := (keepAll F.most F.g ts F.sets).1, g := if (keepAll F.most F.g ts F.sets).2.2 = 0 then overP F.g (keepAll F.most F.g ts F.sets).2.1 else F.g } else F
theorem overP_nil (g : Int × Int → Int) : overP g [] = g := by funext q; simp [overP, lookK_nil]
theorem overP_upd (g : Int × Int → Int) (now : List Pr) (p : Int × Int) (set : Int) : overP g (upd p set now) = putP (overP g now) p set := by
 funext q
 unfold overP putP
 rw [lookK_upd]
 by_cases h : q = p <;> simp [h]
def putStep (g : Int × Int → Int) (l : List Pr) (t : Tch) : List Pr := if t.1 = (0, 0) then l else refPut t.1 (joinP g t.2) l
def putAll (g : Int × Int → Int) (ts : List Tch) (l : List Pr) : List Pr := ts.foldl (putStep g) l
def refApply (R : Rf) (ts : List Tch) : Rf :=
 if rightAll R.fr R.se ts then { R with sets := (keepAll R.most (lookPr R.pairs) ts R.sets).1, pairs := if (keepAll R.most (lookPr R.pairs) ts R.sets).2.2 = 0 then putAll (lookPr R.pairs) ts R.pairs else R.pairs } else R
theorem look_putAll (most : Int) (g : Int × Int → Int) (ts : List Tch) (sets : List Int) (l : List Pr) (hl : ∀ q, lookPr l q = g q) (h0 : (keepAll most g ts sets).2.2 = 0) (q : Int × Int) :
  lookPr (putAll g ts l) q = overP g (keepAll most g ts sets).2.1 q := by
 have : ∀ (ts us : List Tch) (l : List Pr), (keepAll most g (us ++ ts) sets).2.2 = 0 → (∀ q, lookPr l q = overP g (keepAll most g us sets).2.1 q) →
   ∀ q, lookPr (ts.foldl (putStep g) l) q = overP g (keepAll most g (us ++ ts) sets).2.1 q := by
  intro ts
  induction ts with
  | nil => intro us l h0 hl q; simpa using hl q
  | cons t ts ih =>
   intro us l h0 hl q
   have e : us ++ t :: ts = (us ++ [t]) ++ ts := by simp
   rw [e] at h0 ⊢
   have h1 : (keepAll most g (us ++ [t]) sets).2.2 = 0 := by
    by_cases hb : (keepAll most g (us ++ [t]) sets).2.2 = 0
    ·exact hb
    ·exfalso; rw [keepAll_bad hb] at h0; exact hb h0
   have h2 : (keepAll most g us sets).2.2 = 0 := by
    by_cases hb : (keepAll most g us sets).2.2 = 0
    ·exact hb
    ·exfalso; rw [keepAll_bad hb] at h1; exact hb h1
   rw [List.foldl_cons]
   refine ih (us ++ [t]) _ h0 (fun q => ?_) q
   rw [keepAll_snoc]
   rw [keepAll_snoc] at h1
   unfold keepStep at h1 ⊢
   unfold putStep
   by_cases ht : t.1 = (0, 0)
   ·rw [if_pos ht, if_pos (.inr ht)]; exact hl q
   ·have hn : ¬ ((keepAll most g us sets).2.2 ≠ 0 ∨ t.1 = (0, 0)) := by rintro (h | h); exact h h2; exact ht h
    rw [if_neg hn] at h1 ⊢
    rw [if_neg ht]
    by_cases hk : keepE most (keepAll most g us sets).1 (joinP g t.2) ≠ 0
    ·rw [if_pos hk] at h1; exact absurd h1 hk
    ·rw [if_neg hk]
     simp only []
     rw [overP_upd, look_refPut]
     unfold putP
     rw [hl q]
 exact this ts [] l h0 (fun q => by rw [show (keepAll most g [] sets).2.1 = [] from rfl, overP_nil]; exact hl q) q
theorem RelF.g {F : Fl} {R : Rf} (h : RelF F R) : lookPr R.pairs = F.g := funext h.look
theorem RelF.apply {F : Fl} {R : Rf} (h : RelF F R) (ts : List Tch) : RelF (applyF F ts) (refApply R ts) := by
 unfold applyF refApply
 rw [h.fr, h.se, h.most, h.sets, h.g]
 by_cases hr : rightAll F.fr F.se ts
 ·rw [if_pos hr, if_pos hr]
  refine ⟨rfl, rfl, rfl, rfl, fun q => ?_⟩
  simp only []
  by_cases h0 : (keepAll F.most F.g ts F.sets).2.2 = 0
  ·rw [if_pos h0, if_pos h0]
   exact look_putAll F.most F.g ts F.sets R.pairs h.look h0 q
  ·rw [if_neg h0, if_neg h0]; exact h.look q
 ·rw [if_neg hr, if_neg hr]; exact h
end Go.Proofs.YtfcfkhbkkfpehaaGreat
end
section
/- Going over a map: the engine's rule for an entry; what the steps yield, by the kit's laws. -/
namespace Go.X
open Go Go.RowKit Go.MapKept Go.ChangeMaps
section
variable {P : Program} {N : Nat} {D : List Deferred} {E : Env} {w w' : World} {d : Option Nat} {T : TypeId} {p : String} {af : Array Edge} {g : Option (Nat × Bool)} {S : World → Prop} {v : Value}
theorem Rd.entry {x : Operand} {vx : Value} (hx : opd E x = some vx) (hl : ∀ w, S w → (Instr.entry vx).run P w = .ok v w) : Rd P N D E ⟨d, .entry x, T, p, af, g⟩ v S := fun a ha w hS => by
 simp [execOp, ha.eval hx, hl w hS]
end
section
variable {P : Program} {K V : Type} [DecidableEq K] {ke : K → Value} {ve : V → Value} {kt et T : TypeId} {w w' : World} {it m : Nat} {l done : List (K × V)}
def IterAt (w : World) (it m : Nat) (ke : K → Value) (ve : V → Value) (l done : List (K × V)) : Prop :=
 ∃ (es : Array MapEntry) (clk since c0 : Nat) (seen : Array Nat) (ds : List MapEntry), w.heap[it]? = some (.mapIter (some m) since seen c0) ∧ since ≤ c0 ∧ since ≤ clk ∧ w.heap[m]? = some (.map es clk) ∧ (∀ x ∈ es.toList, x.born < since) ∧
  es.toList.map (fun (e : MapEntry) => (e.key, e.val)) = l.map (fun (p : K × V) => (ke p.1, ve p.2)) ∧ (l.map Prod.fst).Nodup ∧ (es.toList.map (·.born)).Nodup ∧
  ds.map (·.born) = seen.toList ∧ (∀ d ∈ ds, d ∈ es.toList) ∧ ds.map (fun (e : MapEntry) => (e.key, e.val)) = done.map (fun (p : K × V) => (ke p.1, ve p.2)) ∧ (∀ x ∈ done, x ∈ l) ∧ (done.map Prod.fst).Nodup
theorem IterAt.chg {f : List Nat} (h : IterAt w it m ke ve l done) (hc : Chg f w w') (h1 : it ∉ f) (h2 : m ∉ f) : IterAt w' it m ke ve l done := by
 obtain ⟨es, clk, since, c0, seen, ds, a, b, b', c, rest⟩ := h
 exact ⟨es, clk, since, c0, seen, ds, hc.obj h1 a, b, b', hc.obj h2 c, rest⟩
theorem iter_range (h : MapIs w m ke ve l) (hm : P.underlying T = some (.map kt et)) :
  ∃ it w', (Instr.range T (.map (some m))).run P w = .ok (.pointer (some ⟨it, 0, none⟩)) w' ∧ Chg [] w w' ∧ it = w.heap.size ∧ IterAt w' it m ke ve l [] := by
 obtain ⟨es, clk, hb, he, hn, hbn, hbd⟩ := h
 refine ⟨w.heap.size, w.alloc (.mapIter (some m) clk #[] clk), ?_, Chg.alloc _ _, rfl, es, clk, clk, clk, #[], [], heap_new w _, Nat.le_refl _, Nat.le_refl _, (Chg.alloc w _).obj (by simp) hb, hbn, he, hn, hbd, rfl, by simp, rfl, by simp, by simp⟩
 simp [Instr.range, run_underlying hm, MapKept.run_getObj_map hb, newObj, Result.andThen]
 rfl
theorem iter_next (h : IterAt w it m ke ve l done) (hne : it ≠ m) (hinj : ∀ a b, ke a = ke b → a = b) (ty : TypeId) :
  ((Instr.next (.pointer (some ⟨it, 0, none⟩)) false ty).run P w = .ok (.tuple #[.bool false]) w ∧ ∀ x ∈ l, x ∈ done) ∨
  (∃ (k : K) (v : V) (w' : World), (k, v) ∈ l ∧ k ∉ done.map Prod.fst ∧ (Instr.next (.pointer (some ⟨it, 0, none⟩)) false ty).run P w = .ok (.tuple #[.bool true, ke k, ve v]) w' ∧ Chg [it] w w' ∧
   IterAt w' it m ke ve l (done ++ [(k, v)]) ∧ (Instr.entry (.pointer (some ⟨it, 0, none⟩))).run P w' = .ok (.tuple #[ke k, ve v]) w') := by
 obtain ⟨es, clk, since, c0, seen, ds, h1, h2, h2', h3, h4, h5, h6, h7, h8, h9, h10, h11, h12⟩ := h
 have keyuniq : ∀ e ∈ es.toList, ∀ e' ∈ es.toList, e.key = e'.key → e = e' := by
  intro e he e' he' hk
  obtain ⟨i, hi⟩ := List.getElem?_of_mem he
  obtain ⟨j, hj⟩ := List.getElem?_of_mem he'
  have pi : (l.map (fun (p : K × V) => (ke p.1, ve p.2)))[i]? = some (e.key, e.val) := by rw [← h5, List.getElem?_map, hi]; rfl
  have pj : (l.map (fun (p : K × V) => (ke p.1, ve p.2)))[j]? = some (e'.key, e'.val) := by rw [← h5, List.getElem?_map, hj]; rfl
  rw [List.getElem?_map] at pi pj
  cases li : l[i]? with
  | none => rw [li] at pi; cases pi
  | some a =>
   cases lj : l[j]? with
   | none => rw [lj] at pj; cases pj
   | some b =>
    rw [li] at pi; rw [lj] at pj
    simp at pi pj
    have hab : a.1 = b.1 := hinj _ _ (by rw [pi.1, pj.1, hk])
    have e1 : (l.map Prod.fst)[i]? = (l.map Prod.fst)[j]? := by simp [li, lj, hab]
    have hlt : i < (l.map Prod.fst).length := by have := (List.getElem?_eq_some_iff.1 li).1; simpa using this
    have := (List.getElem?_inj hlt h6).1 e1
    subst this
    rw [hi] at hj; cases hj; rfl
 rcases run_next_at (P := P) w ty it m since c0 seen es clk h1 h3 h4 h2 with ⟨k1, k2⟩ | ⟨e, he, w1, hw1, hrun⟩
 ·left
  refine ⟨k2, fun x hx => ?_⟩
  have hx' : (ke x.1, ve x.2) ∈ es.toList.map (fun (e : MapEntry) => (e.key, e.val)) := h5 ▸ List.mem_map.2 ⟨x, hx, rfl⟩
  obtain ⟨e, he, hee⟩ := List.mem_map.1 hx'
  have hseen : e.born ∈ seen.toList := by
   refine Classical.byContradiction fun hn => ?_
   have hl : e ∈ (leftOf es seen) := by
    unfold leftOf
    rw [Array.mem_filter]
    exact ⟨by simpa using he, by simpa using hn⟩
   have := Array.size_pos_of_mem hl
   omega
  rw [← h8] at hseen
  obtain ⟨d, hd, hde⟩ := List.mem_map.1 hseen
  have hdd : (d.key, d.val) ∈ done.map (fun (p : K × V) => (ke p.1, ve p.2)) := h10 ▸ List.mem_map.2 ⟨d, hd, rfl⟩
  obtain ⟨y, hy, hye⟩ := List.mem_map.1 hdd
  have hborn : d = e := by
   obtain ⟨i, hi⟩ := List.getElem?_of_mem (h9 d hd)
   obtain ⟨j, hj⟩ := List.getElem?_of_mem he
   have e1 : (es.toList.map (·.born))[i]? = (es.toList.map (·.born))[j]? := by rw [List.getElem?_map, List.getElem?_map, hi, hj]; simp [hde]
   have hlt : i < (es.toList.map (·.born)).length := by have := (List.getElem?_eq_some_iff.1 hi).1; simpa using this
   have := (List.getElem?_inj hlt h7).1 e1
   subst this
   rw [hi] at hj; cases hj; rfl
  have hk : y.1 = x.1 := hinj _ _ ((congrArg Prod.fst hye).trans (by rw [hborn]; exact congrArg Prod.fst hee))
  have hyl := h11 y hy
  have hxy : y = x := by
   have a1 : lookK y.1 l = some y.2 := (lookK_iff h6).2 hyl
   have a2 : lookK x.1 l = some x.2 := (lookK_iff h6).2 hx
   rw [hk, a2] at a1
   exact Prod.ext hk (by simpa using a1.symm)
  rw [← hxy]; exact hy
 ·right
  have he' : e ∈ es.toList ∧ e.born ∉ seen.toList := by
   unfold leftOf at he
   simpa using he
  have hm : (e.key, e.val) ∈ l.map (fun (p : K × V) => (ke p.1, ve p.2)) := h5 ▸ List.mem_map.2 ⟨e, he'.1, rfl⟩
  obtain ⟨⟨k, v⟩, hkl, hkv⟩ := List.mem_map.1 hm
  simp only [Prod.mk.injEq] at hkv
  obtain ⟨hk, hv⟩ := hkv
  have hnew : k ∉ done.map Prod.fst := by
   intro hmem
   obtain ⟨y, hy, rfl⟩ := List.mem_map.1 hmem
   have hyd : (ke y.1, ve y.2) ∈ ds.map (fun (e : MapEntry) => (e.key, e.val)) := h10 ▸ List.mem_map.2 ⟨y, hy, rfl⟩
   obtain ⟨d, hd, hde⟩ := List.mem_map.1 hyd
   have := keyuniq d (h9 d hd) e he'.1 ((congrArg Prod.fst hde).trans hk)
   subst this
   exact he'.2 (h8 ▸ List.mem_map.2 ⟨d, hd, rfl⟩)
  have hw1' : Chg [] w w1 := by rcases hw1 with rfl | rfl; exact Chg.refl _ _; exact Chg.drew _
  have hput : Chg [it] w1 (setBlock w1 it (.mapIter (some m) since (seen.push e.born) clk)) := Chg.put
  have hit1 := hw1'.obj (by simp) h1
  have hm1 := hw1'.obj (by simp) h3
  have hit2 : (setBlock w1 it (.mapIter (some m) since (seen.push e.born) clk)).heap[it]? = some (.mapIter (some m) since (seen.push e.born) clk) := (MapKept.heap_set hit1).1
  have hm2 := hput.obj (by simpa using Ne.symm hne) hm1
  refine ⟨k, v, _, hkl, hnew, by rw [hk, hv]; exact hrun, hw1'.nil.trans hput (fun _ h _ => h), ?_, ?_⟩
  ·refine ⟨es, clk, since, clk, seen.push e.born, ds ++ [e], hit2, h2', h2', hm2, h4, h5, h6, h7, by simp [h8], fun d hd => ?_, by simp [h10, hk, hv], fun x hx => ?_, ?_⟩
   ·rcases List.mem_append.1 hd with hd | hd
    ·exact h9 d hd
    ·simp at hd; rw [hd]; exact he'.1
   ·rcases List.mem_append.1 hx with hx | hx
    ·exact h11 x hx
    ·simp at hx; rw [hx]; exact hkl
   ·rw [List.map_append, List.nodup_append]
    refine ⟨h12, by simp, fun a ha b hb e => ?_⟩
    simp at hb; subst hb; subst e; exact hnew ha
  ·rw [hk, hv]
   exact run_entry_at _ it m since seen es clk e hit2 hm2 he'.1 h7
end
theorem nodup_sub_length {α : Type} : ∀ {a b : List α}, a.Nodup → (∀ x ∈ a, x ∈ b) → a.length ≤ b.length
 | [], _, _, _ => Nat.zero_le _
 | x :: a, b, h, hs => by
  obtain ⟨s, t, rfl⟩ := List.append_of_mem (hs x (.head _))
  have := nodup_sub_length (a := a) (b := s ++ t) (List.nodup_cons.1 h).2 (fun y hy => by
   have h1 := hs y (.tail _ hy)
   have hne : y ≠ x := fun e => (List.nodup_cons.1 h).1 (e ▸ hy)
   simp only [List.mem_append, List.mem_cons] at h1 ⊢
   rcases h1 with h1 | h1 | h1
   ·exact .inl h1
   ·exact absurd h1 hne
   ·exact .inr h1)
  simp at this ⊢; omega
def seenN (w : World) (it : Nat) : Nat := match w.heap[it]? with | some (.mapIter _ _ seen _) => seen.size | _ => 0
theorem IterAt.count {K V : Type} [DecidableEq K] {ke : K → Value} {ve : V → Value} {w : World} {it m : Nat} {l done : List (K × V)} (h : IterAt w it m ke ve l done) : seenN w it = done.length := by
 obtain ⟨es, clk, since, c0, seen, ds, h1, h2, h2', h3, h4, h5, h6, h7, h8, h9, h10, h11, h12⟩ := h
 unfold seenN
 rw [h1]
 have a := congrArg List.length h8
 have b := congrArg List.length h10
 simp at a b
 simp only []
 omega
theorem IterAt.more {K V : Type} [DecidableEq K] {ke : K → Value} {ve : V → Value} {w : World} {it m : Nat} {l done : List (K × V)} (h : IterAt w it m ke ve l done) {k : K} {v : V} (hk : (k, v) ∈ l) (hn : k ∉ done.map Prod.fst) : done.length < l.length := by
 obtain ⟨es, clk, since, c0, seen, ds, h1, h2, h2', h3, h4, h5, h6, h7, h8, h9, h10, h11, h12⟩ := h
 have := nodup_sub_length (a := k :: done.map Prod.fst) (b := l.map Prod.fst) (List.nodup_cons.2 ⟨hn, h12⟩) (fun x hx => by
  rcases List.mem_cons.1 hx with rfl | hx
  ·exact List.mem_map.2 ⟨_, hk, rfl⟩
  ·obtain ⟨y, hy, rfl⟩ := List.mem_map.1 hx
   exact List.mem_map.2 ⟨y, h11 y hy, rfl⟩)
 simp at this; omega
theorem IterAt.sub {K V : Type} [DecidableEq K] {ke : K → Value} {ve : V → Value} {w : World} {it m : Nat} {l done : List (K × V)} (h : IterAt w it m ke ve l done) : (∀ x ∈ done, x ∈ l) ∧ (done.map Prod.fst).Nodup ∧ (l.map Prod.fst).Nodup := by
 obtain ⟨es, clk, since, c0, seen, ds, h1, h2, h2', h3, h4, h5, h6, h7, h8, h9, h10, h11, h12⟩ := h
 exact ⟨h11, h12, h6⟩
end Go.X
end
section
/- Boxes of a function's own, of which nobody else knows: what stands in them. -/
namespace Go.X
open Go Go.RowKit
structure Boxes (w : World) (l : List (Nat × List Value × TypeId)) : Prop where
 heap : ∀ x ∈ l, w.heap[x.1]? = some (.cells x.2.1.toArray x.2.2 (0, 0))
 nodup : (l.map (·.1)).Nodup
def Same (w w' : World) (l : List Nat) : Prop := ∀ b ∈ l, w'.heap[b]? = w.heap[b]?
theorem Same.of {f : List Nat} {w w' : World} {l : List Nat} (h : Chg f w w') (hl : ∀ b ∈ l, b < w.heap.size ∧ b ∉ f) : Same w w' l := fun b hb => h.block b (hl b hb).1 (hl b hb).2
theorem Same.chg {w w' : World} {l : List Nat} (h : Chg [] w w') (hl : ∀ b ∈ l, b < w.heap.size) : Same w w' l := Same.of h fun b hb => ⟨hl b hb, by simp⟩
theorem Same.refl (w : World) (l : List Nat) : Same w w l := fun _ _ => rfl
section
variable {w w' w1 w0 : World} {l l' : List (Nat × List Value × TypeId)} {b o i : Nat} {cs cs' vs : List Value} {T : TypeId} {v : Value} {M : List Nat} {x : Obj}
theorem Boxes.nil (w : World) : Boxes w [] := ⟨by simp, by simp⟩
theorem Boxes.at (h : Boxes w l) (hi : l[i]? = some (b, cs, T)) : w.heap[b]? = some (.cells cs.toArray T (0, 0)) := h.heap _ (List.mem_of_getElem? hi)
theorem Boxes.chg {f : List Nat} (h : Boxes w l) (hc : Chg f w w1) (hf : ∀ x ∈ l, x.1 ∉ f) : Boxes w1 l := ⟨fun x hx => hc.obj (hf x hx) (h.heap x hx), h.nodup⟩
theorem Boxes.grow (h : Boxes w l) (hw : w1 = World.alloc w x) : Boxes w1 l := h.chg (f := []) (by subst hw; exact Chg.alloc _ _) (by simp)
theorem Boxes.drew (h : Boxes w l) (hw : w1 = World.drew w) : Boxes w1 l := h.chg (f := []) (by subst hw; exact Chg.drew _) (by simp)
theorem Boxes.alloc (h : Boxes w l) (hb : b = World.size w) (hw : w1 = World.alloc w (.cells cs.toArray T)) : Boxes w1 ((b, cs, T) :: l) := by
 have h1 := h.grow hw
 refine ⟨fun y hy => ?_, ?_⟩
 ·rcases List.mem_cons.1 hy with rfl | hy
  ·subst hb hw; exact heap_new w _
  ·exact h1.heap y hy
 ·rw [List.map_cons, List.nodup_cons]
  refine ⟨fun hm => ?_, h.nodup⟩
  obtain ⟨y, hy, e⟩ := List.mem_map.1 hm
  have := lt_of_heap (h.heap y hy)
  subst hb
  change y.1 = w.heap.size at e
  omega
theorem Boxes.same (h : Boxes w l) (hs : Same w w1 (l.map (·.1))) : Boxes w1 l := ⟨fun x hx => (hs _ (List.mem_map.2 ⟨x, hx, rfl⟩)).trans (h.heap x hx), h.nodup⟩
theorem sel_nodup : ∀ (is : List Nat), is.Nodup → (l.map (·.1)).Nodup → ((is.filterMap (fun i => l[i]?)).map (·.1)).Nodup
 | [], _, _ => by simp
 | i :: is, hi, hl => by
  have ih := sel_nodup is (List.nodup_cons.1 hi).2 hl
  rw [List.filterMap_cons]
  cases hx : l[i]? with
  | none => exact ih
  | some x =>
   simp only [List.map_cons, List.nodup_cons]
   refine ⟨fun hm => ?_, ih⟩
   obtain ⟨y, hy, e⟩ := List.mem_map.1 hm
   obtain ⟨j, hj, hjy⟩ := List.mem_filterMap.1 hy
   have h1 : (l.map (·.1))[i]? = some x.1 := by simp [hx]
   have h2 : (l.map (·.1))[j]? = some x.1 := by simp [hjy, e]
   have hlt : i < (l.map (·.1)).length := (List.getElem?_eq_some_iff.1 h1).1
   have : i = j := (List.getElem?_inj hlt hl).1 (h1.trans h2.symm)
   subst this
   exact (List.nodup_cons.1 hi).1 hj
theorem Boxes.sel (h : Boxes w l) (is : List Nat) (hn : is.Nodup) (hl : is.filterMap (fun i => l[i]?) = l') : Boxes w l' := by
 subst hl
 refine ⟨fun x hx => ?_, sel_nodup is hn h.nodup⟩
 obtain ⟨j, _, hj⟩ := List.mem_filterMap.1 hx
 exact h.heap x (List.mem_of_getElem? hj)
theorem Boxes.put (h : Boxes w l) (hi : l[i]? = some (b, cs, T)) (hc : Chg [b] w w1) (hb : w1.heap[b]? = some (.cells cs'.toArray T (0, 0))) : Boxes w1 (l.set i (b, cs', T)) := by
 have hm : (l.set i (b, cs', T)).map (·.1) = l.map (·.1) := by
  rw [List.map_set]
  apply List.ext_getElem?
  intro j
  rw [List.getElem?_set]
  split
  ·rename_i e; subst e
   split
   ·simp [hi]
   ·rename_i hlt
    rw [List.getElem?_eq_none (by omega)]
  ·rfl
 refine ⟨fun x hx => ?_, by rw [hm]; exact h.nodup⟩
 obtain ⟨j, hj⟩ := List.getElem?_of_mem hx
 rw [List.getElem?_set] at hj
 split at hj
 ·split at hj
  ·cases hj; exact hb
  ·cases hj
 ·rename_i hne
  have hx' := h.heap x (List.mem_of_getElem? hj)
  refine hc.obj (fun hm => ?_) hx'
  simp at hm
  have h1 : (l.map (·.1))[j]? = some b := by simp [hj, hm]
  have h2 : (l.map (·.1))[i]? = some b := by simp [hi]
  have hlt : i < (l.map (·.1)).length := (List.getElem?_eq_some_iff.1 h2).1
  exact hne ((List.getElem?_inj hlt h.nodup).1 (h2.trans h1.symm))
theorem Boxes.store (h : Boxes w l) (hi : l[i]? = some (b, cs, T)) (hc : cs.take o ++ vs ++ cs.drop (o + vs.length) = cs') (hl : l.set i (b, cs', T) = l') (hle : Nat.ble (o + vs.length) cs.length = true) (hw : w1 = setCells w ⟨b, o, none⟩ 0 vs) : Boxes w1 l' := by
 subst hl hw hc
 have hle' := Nat.le_of_ble_eq_true hle
 refine h.put hi (Chg.setCells ⟨b, o, none⟩ vs 0 w) ?_
 have h1 := h.at hi
 have e : cs = cs.take o ++ (cs.drop o).take vs.length ++ cs.drop (o + vs.length) := by
  rw [← List.drop_drop, List.append_assoc, List.take_append_drop, List.take_append_drop]
 have ho : (cs.take o).length = o := by rw [List.length_take]; omega
 have := setCells_mid (w := w) (b := b) (t := T) (pre := cs.take o) (zs := (cs.drop o).take vs.length) (post := cs.drop (o + vs.length)) (vs := vs) (by rw [List.length_take, List.length_drop]; omega) (by rw [← e]; exact h1)
 rwa [ho] at this
theorem Boxes.store1 (h : Boxes w l) (hi : l[i]? = some (b, cs, T)) (hc : cs.take o ++ [v] ++ cs.drop (o + 1) = cs') (hl : l.set i (b, cs', T) = l') (hle : Nat.ble (o + 1) cs.length = true) (hw : w1 = World.setCell w ⟨b, o, none⟩ v) : Boxes w1 l' :=
 h.store (vs := [v]) hi hc hl hle (by rw [hw]; simp only [setCells, add_at, Nat.add_zero])
theorem box_cell {fr : Nat × Nat} (h : w.heap[b]? = some (.cells cs.toArray T fr)) (hv : cs[o]? = some v) : w.cell? ⟨b, o, none⟩ = some v := by
 rw [cell_of h]; simpa using hv
theorem box_cells {fr : Nat × Nat} (h : w.heap[b]? = some (.cells cs.toArray T fr)) (hv : (cs.drop o).take vs.length = vs) : CellsAt w ⟨b, o, none⟩ 0 vs := by
 have : ∀ (vs : List Value) (k : Nat), (∀ j v, vs[j]? = some v → cs[o + k + j]? = some v) → CellsAt w ⟨b, o, none⟩ k vs := by
  intro vs
  induction vs with
  | nil => intro k _; trivial
  | cons v vs ih =>
   intro k hk
   refine ⟨by rw [add_at]; exact box_cell h (by simpa using hk 0 v rfl), ih (k + 1) fun j u hj => ?_⟩
   have := hk (j + 1) u (by simpa using hj)
   rwa [show o + k + (j + 1) = o + (k + 1) + j by omega] at this
 refine this vs 0 fun j v hj => ?_
 rw [← hv, List.getElem?_take] at hj
 split at hj
 ·rw [List.getElem?_drop] at hj; simpa using hj
 ·cases hj
theorem sil_lo (h : Chg M w0 w) (hb : b = World.size w) : w0.heap.size ≤ b := by subst hb; exact h.size
theorem sil_alloc (h : Chg M w0 w) (hw : w1 = World.alloc w x) : Chg M w0 w1 := by subst hw; exact h.trans (g := []) (Chg.alloc _ _) (by simp)
theorem sil_drew (h : Chg M w0 w) (hw : w1 = World.drew w) : Chg M w0 w1 := by subst hw; exact h.trans (g := []) (Chg.drew _) (by simp)
theorem sil_cN {q : Addr} (hw : w1 = setCells w q 0 vs) : Chg [q.block] w w1 := by subst hw; exact Chg.setCells _ _ _ _
theorem sil_c1 {q : Addr} (hw : w1 = World.setCell w q v) : Chg [q.block] w w1 := by subst hw; exact Chg.setCell _ _ _
theorem sil_new (h : Chg M w0 w) (hc : Chg [b] w w1) (hb : w0.heap.size ≤ b) : Chg M w0 w1 := h.trans hc (fun i hi hlt => by simp at hi; omega)
theorem sil_more (h : Chg M w0 w) (hc : Chg [b] w w1) : Chg (M ++ [b]) w0 w1 := (h.mono (fun i hi _ => List.mem_append_left _ hi)).trans hc (fun i hi _ => by simp at hi; simp [hi])
theorem equalIn_map_nil {P : Program} (d : Nat) {t k e : TypeId} (m : Option Nat) (h : P.underlying t = some (.map k e)) (w : World) : (Op.equalIn (d + 1) t (.map m) (.map none)).run P w = .ok m.isNone w := by
 cases m <;> simp [Op.equalIn, run_underlying h]
theorem map_nil_eq {P : Program} {T : TypeId} {x y : Operand} (hT : (match P.underlying T with | some (.map _ _) => true | _ => false) = true) (m : Option Nat) (w : World) :
  ((do eqGuard .eql T x y (.map m) (.map none); binOp .eql T (.map m) (.map none) : Sem Value)).run P w = .ok (.bool (Option.isNone m)) w := by
 have h1 : (eqGuard .eql T x y (.map m) (.map none)).run P w = .ok () w := by simp [eqGuard]
 simp only [Sem.run_bind, h1, Result.andThen_ok]
 cases hu : P.underlying T with
 | none => rw [hu] at hT; cases hT
 | some u =>
  rw [hu] at hT
  cases u with
  | map k e =>
   simp only [binOp]
   have : (Op.equal T (.map m) (.map none)).run P w = .ok m.isNone w := by
    exact equalIn_map_nil 9999 m hu w
   simp [this]
  | _ => cases hT
end
section
variable {P : Program} {N : Nat} {D : List Deferred} {E : Env} {w w' : World} {d : Option Nat} {T : TypeId} {p : String} {af : Array Edge} {g : Option (Nat × Bool)} {S : World → Prop} {v : Value}
theorem Rd.makeInterface {t : TypeId} {x : Operand} {vx : Value} (hx : opd E x = some vx) (hr : ∀ w, (Instr.makeInterface t vx).run P w = .ok v w) : Rd P N D E ⟨d, .makeInterface t x, T, p, af, g⟩ v S := fun a ha w _ => by
 simp [execOp, ha.eval hx, hr]
theorem Rd.typeAssert {t u : TypeId} {ok : Bool} {x : Operand} {vx : Value} (hx : opd E x = some vx) (hr : ∀ w, (Instr.typeAssert vx t u ok).run P w = .ok v w) : Rd P N D E ⟨d, .typeAssert x t u ok, T, p, af, g⟩ v S := fun a ha w _ => by
 simp [execOp, ha.eval hx, hr]
theorem Vl.extern {f : Nat} {args : Array Operand} {ts : Array TypeId} {vs : List Value} (hx : opdL E args.toList = some vs) (hr : (callFunc f vs.toArray).run P w = .ok (.value v) w') :
  Vl P N D E ⟨d, .call ⟨.value (.func f), args, ts⟩, T, p, af, g⟩ w v w' := fun a ha => by
 have h1 : args.map a.eval = vs.toArray := opdL_map ha hx
 simp [execOp, resolve, Act.eval, Deferred.ofValue, invoke, h1, hr]
end
end Go.X
end
section
/- Ranges over functions: the engine's rules within a round; what an iterator does; the statement. -/
namespace Go.XR
open Go Go.X Go.RowKit
def FR (ro : Option Nat) : Fence := { Fence.wide with round := ro }
theorem FR.fn (ro : Option Nat) (f : FuncId) : (FR ro).fn f := trivial
theorem FR.callsIn {ro : Option Nat} {n : Nat} {P : Program} {f : FuncId} {args : Array Value} {w : World} {R : Ending → World → Prop} (h : Calls P f args w R) : CallsIn (FR ro) n P f args w R := callsIn_wide.2 h
def isDefer (o : Oper) : Bool := match o.op with | .defer _ => true | _ => false
theorem semAt_of {ro : Option Nat} {o : Oper} (h : isDefer o = false) (ρ : Operand → Value) : Oper.semAt ro ρ o = execOp ρ o :=
 Oper.semAt_eq ro ρ o fun c hc => by simp [isDefer, hc] at h
section
variable {ro : Option Nat} {P : Program} {N : Nat} {D : List Deferred} {Q : Exit → Act → World → Prop} {E : Env} {w w' : World}
def CW (ro : Option Nat) (P : Program) (N : Nat) (D : List Deferred) (c : Code) (Q : Exit → Act → World → Prop) (E : Env) (w : World) : Prop := ∀ a, Sat N D E a → c.wpIn (FR ro) 0 P Q a w
theorem CW.plain {c : Code} (h : X.CW P N D c Q E w) : CW none P N D c Q E w := fun a ha => wpIn_wide.2 (h a ha)
theorem _root_.Go.X.CW.plain' {c : Code} (h : X.CW P N D c Q E w) : CW none P N D c Q E w := fun a ha => wpIn_wide.2 (h a ha)
theorem CW.un {c : Code} (h : CW none P N D c Q E w) : X.CW P N D c Q E w := fun a ha => wpIn_wide.1 (h a ha)
theorem CW.sub {c : Code} {F : Env} (s : Sub E F) (h : CW ro P N D c Q E w) : CW ro P N D c Q F w := fun a ha => h a (ha.sub s)
theorem CW.seq {x y : Code} (h : CW ro P N D x (Exit.then (y.wpIn (FR ro) 0 P Q) Q) E w) : CW ro P N D (.seq x y) Q E w := fun a ha => wpIn_seq (h a ha)
theorem NW.then {y : Code} (h : CW ro P N D y Q E w) : NW N D (Exit.then (y.wpIn (FR ro) 0 P Q) Q) E w := fun a ha => h a ha
theorem CW.skip (h : NW N D Q E w) : CW ro P N D .skip Q E w := fun a ha => wpIn_skip (h a ha)
theorem CW.label {l : Nat} (h : NW N D Q E w) : CW ro P N D (.label l) Q E w := fun a ha => wpIn_label (h a ha)
theorem CW.cond {c : Operand} {x y : Code} {b : Bool} (hc : opd E c = some (.bool b)) (h1 : b = true → CW ro P N D x Q E w) (h2 : b = false → CW ro P N D y Q E w) : CW ro P N D (.cond c x y) Q E w :=
 fun a ha => wpIn_cond_split (ha.eval hc) (fun hb => h1 hb a ha) (fun hb => h2 hb a ha)
theorem CW.block {id : Nat} {c : Code} (h : CW ro P N D c (Exit.inBlock id Q) E w) : CW ro P N D (.block id c) Q E w := fun a ha => wpIn_block (h a ha)
theorem CW.exit {id : Nat} (h : XW N D id Q E w) : CW ro P N D (.exit id) Q E w := fun a ha => wpIn_exit (h a ha)
theorem CW.ret (h : RW N D Q E w) : CW ro P N D .ret Q E w := fun a ha => wpIn_ret (h a ha)
theorem CW.goto {l : Nat} (h : GW N D l Q E w) : CW ro P N D (.goto l) Q E w := fun a ha => wpIn_goto (h a ha)
theorem CW.cut {S : Type} {x y : Code} (Ek : S → Env) (I : S → World → Prop) (hk : ∀ s w, I s w → CW ro P N D y Q (Ek s) w)
  (h : CW ro P N D x (Exit.then (fun a w => ∃ s, Sat N D (Ek s) a ∧ I s w) Q) E w) : CW ro P N D (.seq x y) Q E w := fun a ha =>
 wpIn_seq (wpIn_mono (h a ha) fun e a' w' hq => by
  cases e with
  | normal => obtain ⟨s, hs, hI⟩ := hq; exact hk s w' hI a' hs
  | _ => exact hq)
theorem CW.loop {S : Type} {c : Code} (El : S → Env) (I : S → World → Prop) (μ : S → World → Nat) (s₀ : S) (hs : Sub (El s₀) E) (hI : I s₀ w)
  (round : ∀ s w, I s w → CW ro P N D c (Exit.then (fun a' w' => ∃ s', Sat N D (El s') a' ∧ (I s' w' ∧ μ s' w' < μ s w)) Q) (El s) w) : CW ro P N D (.loop c) Q E w := by
 intro a ha b k cs hro hb hr
 have key : ∀ j s a w, μ s w = j → Sat N D (El s) a → I s w →
   ∃ e a' w', Q e a' w' ∧ ArrivesIn (Machine.fenced P (FR ro)) P (lone (b.atR a (.code c :: .inLoop c :: k)) cs w) b k cs e a' w' := by
  intro j
  induction j using Nat.strongRecOn with
  | _ j ih =>
   intro s a w hn ha hI
   obtain ⟨e, a₁, w₁, hq, harr⟩ := round s w hI a ha b (.inLoop c :: k) cs hro hb hr
   cases e with
   | normal =>
    obtain ⟨s', hs', hI', hlt⟩ := hq
    obtain ⟨e₂, a₂, w₂, hq₂, harr₂⟩ := ih (μ s' w₁) (hn ▸ hlt) s' a₁ w₁ rfl hs' hI'
    exact ⟨e₂, a₂, w₂, hq₂, .of_steps (StepsIn.trans harr (.one (fenced_calm hb hr rfl) stepR_inLoop)) harr₂⟩
   | exit id => exact ⟨_, a₁, w₁, hq, .pass (x := .inLoop c) rfl (fun _ _ => .inl (by simp)) harr⟩
   | goto l => exact ⟨_, a₁, w₁, hq, .pass (x := .inLoop c) rfl (fun _ _ => .inl (by simp)) harr⟩
   | ret => exact ⟨_, a₁, w₁, hq, .pass (x := .inLoop c) rfl (fun _ _ => .inl (by simp)) harr⟩
   | panic ch => exact ⟨_, a₁, w₁, hq, .pass (x := .inLoop c) rfl (fun _ _ => .inl (by simp)) harr⟩
   | outgrown => exact ⟨_, a₁, w₁, hq, .pass (x := .inLoop c) rfl (fun _ _ => .inl (by simp)) harr⟩
 obtain ⟨e, a', w', hq, harr⟩ := key _ s₀ a w rfl (ha.sub hs) hI
 exact ⟨e, a', w', hq, .of_steps (.one (fenced_calm hb hr rfl) stepR_loop) harr⟩
end
/-! ### A region in the text's order -/
def CallsY (P : Program) (fv : Value) (args : Array Value) (w : World) (R : Ending → World → Prop) : Prop :=
 X.CallsV P fv args w R ∨ ∃ l, fv = .func (.yield l) #[] #[] ∧ YieldAt Fence.wide 0 P l args w R
theorem CallsY.mono {P : Program} {fv : Value} {args : Array Value} {w : World} {R R' : Ending → World → Prop} (h : CallsY P fv args w R) (k : ∀ e w', R e w' → R' e w') : CallsY P fv args w R' := by
 rcases h with ⟨f, cap, fn, h1, h2, h3, h4, h5⟩ | ⟨l, h1, fn, tmps, as', bd, h2, h3⟩
 ·exact .inl ⟨f, cap, fn, h1, h2, h3, h4, h5.mono k⟩
 ·exact .inr ⟨l, h1, fn, tmps, as', bd, h2, h3.mono k⟩
section
variable {ro : Option Nat} {P : Program} {N : Nat} {D : List Deferred} {ops : Array Oper} {Q : Exit → Act → World → Prop} {E : Env} {w w' : World} {L : Nat → Env → World → Prop} {i : Nat} {o : Oper} {v : Value}
def LW (ro : Option Nat) (P : Program) (N : Nat) (D : List Deferred) (ops : Array Oper) (Q : Exit → Act → World → Prop) (i : Nat) (E : Env) (w : World) : Prop :=
 ∀ a, Sat N D E a → wpListIn (FR ro) 0 P ops Q (ops.toList.drop i) a w
theorem CW.region {id : Nat} (h : ∀ L, L = LW ro P N D ops Q → L 0 E w) : CW ro P N D (.region id ops false) Q E w :=
 fun a ha => wpIn_region_list (by have := h _ rfl a ha; simpa using this)
theorem LW.step (hL : L = LW ro P N D ops Q) (ho : ops[i]? = some o) (hw : Wants N ops E o)
  (h : ∀ a, Sat N D E a → o.wpIn (FR ro) 0 P a w (wpListIn (FR ro) 0 P ops Q (ops.toList.drop (i + 1))) Q) : L i E w := by
 subst hL
 intro a ha
 rw [drop_at ho]
 unfold wpListIn
 rw [if_pos (hw _ _ ha)]
 exact h a ha
theorem LW.val (hL : L = LW ro P N D ops Q) (ho : ops[i]? = some o) (hw : Wants N ops E o) (hd : okd N o.dst = true)
  (hv : ∀ a, Sat N D E a → (execOp a.eval o).run P w = .ok (.value v) w') (k : L (i + 1) (putE o.dst v E) w') (hn : isDefer o = false := by rfl) : L i E w :=
 LW.step hL ho hw fun a ha => by
  refine ⟨fun _ _ => trivial, ?_⟩
  rw [semAt_of hn, hv a ha, Oper.uponIn_value]
  rw [hL] at k; exact k _ (ha.put hd)
theorem LW.rd (hL : L = LW ro P N D ops Q) (ho : ops[i]? = some o) (hw : Wants N ops E o) (hd : okd N o.dst = true)
  (hv : Rd P N D E o v (fun w' => w' = w)) (k : L (i + 1) (putE o.dst v E) w) (hn : isDefer o = false := by rfl) : L i E w := LW.val hL ho hw hd (fun a ha => hv a ha w rfl) k hn
theorem LW.eff (hL : L = LW ro P N D ops Q) (ho : ops[i]? = some o) (hw : Wants N ops E o) (hd : okd N o.dst = true)
  (hv : ∀ a, Sat N D E a → (execOp a.eval o).run P w = .ok .skip w') (k : L (i + 1) (putE o.dst undef E) w') (hn : isDefer o = false := by rfl) : L i E w :=
 LW.step hL ho hw fun a ha => by
  refine ⟨fun _ _ => trivial, ?_⟩
  rw [semAt_of hn, hv a ha, Oper.uponIn_skip]
  rw [hL] at k; exact k _ (ha.put hd)
theorem LW.call {f : Nat} {args : Array Value} {R : Ending → World → Prop} (hL : L = LW ro P N D ops Q) (ho : ops[i]? = some o) (hw : Wants N ops E o) (hd : okd N o.dst = true)
  (hv : ∀ a, Sat N D E a → (execOp a.eval o).run P w = .ok (.enter f args) w') (hc : Calls P f args w' R)
  (k : ∀ e w'', R e w'' → ∃ v, e = .returned v ∧ L (i + 1) (putE o.dst v E) w'') (hn : isDefer o = false := by rfl) : L i E w :=
 LW.step hL ho hw fun a ha => by
  refine ⟨fun _ _ => trivial, ?_⟩
  rw [semAt_of hn, hv a ha, Oper.uponIn_enter]
  refine ⟨fun h => (by cases h), FR.callsIn (hc.mono fun e w'' hR => ?_)⟩
  obtain ⟨v, rfl, hk⟩ := k e w'' hR
  rw [hL] at hk; exact hk _ (ha.put hd)
theorem LW.skip (hL : L = LW ro P N D ops Q) (ho : ops[i]? = some o) (hs : Skips N ops E o) (hd : okd N o.dst = true) (k : L (i + 1) (putE o.dst undef E) w) : L i E w := by
 subst hL
 intro a ha
 rw [drop_at ho]
 unfold wpListIn
 rw [if_neg (by rw [hs _ _ ha]; simp)]
 exact ⟨fun _ _ => trivial, k _ (ha.put hd)⟩
theorem LW.nil (hL : L = LW ro P N D ops Q) (hi : ops[i]? = none) (k : NW N D Q E w) : L i E w := by
 subst hL
 intro a ha
 have : ops.toList.drop i = [] := List.drop_eq_nil_of_le (by simpa using hi)
 rw [this]; exact k a ha
theorem LW.sub (hL : L = LW ro P N D ops Q) {F : Env} (s : Sub E F) (k : L i E w) : L i F w := by
 subst hL; exact fun a ha => k a (ha.sub s)
theorem LW.callY {x : Operand} {args : Array Operand} {ts : Array TypeId} {d : Option Nat} {T : TypeId} {p : String} {af : Array Edge} {gd : Option (Nat × Bool)} {fv : Value} {vs : List Value} {R : Ending → World → Prop}
  (hL : L = LW none P N D ops Q) (ho : ops[i]? = some ⟨d, .call ⟨.value x, args, ts⟩, T, p, af, gd⟩) (hw : Wants N ops E ⟨d, .call ⟨.value x, args, ts⟩, T, p, af, gd⟩) (hd : okd N d = true)
  (hx : opd E x = some fv) (ha' : opdL E args.toList = some vs) (hc : CallsY P fv vs.toArray w R)
  (k : ∀ e w'', R e w'' → ∃ v, e = .returned v ∧ L (i + 1) (putE d v E) w'') : L i E w := by
 rcases hc with ⟨f, cap, fn, rfl, h2, h3, h4, h5⟩ | ⟨l, rfl, fn, tmps, as', bd, h2, h3⟩
 ·exact LW.call hL ho hw hd (Cl.fv hx ha' h2 h3 h4) h5 k
 ·refine LW.step hL ho hw fun a ha => ⟨fun _ _ => trivial, ?_⟩
  have e1 : (execOp a.eval ⟨d, .call ⟨.value x, args, ts⟩, T, p, af, gd⟩).run P w = .ok (.round l fn tmps as' bd) w := by
   have e2 : args.map a.eval = vs.toArray := opdL_map ha ha'
   simp [execOp, resolve, ha.eval hx, Deferred.ofValue, invoke, e2, h2]
  rw [semAt_of rfl, e1, Oper.uponIn_round]
  refine ⟨fun h => (by cases h), h3.mono fun e w'' hR => ?_⟩
  obtain ⟨v, rfl, hk⟩ := k e w'' hR
  rw [hL] at hk; exact hk _ (ha.put hd)
end
/-! ### Iterators, and the statement -/
def InO (w0 : World) (O : List Nat) (W : World) : Prop := ∀ i ∈ O, w0.heap.size ≤ i ∧ i < W.heap.size
def Stab (w0 : World) (I : List Nat → World → Prop) : Prop := ∀ O O' W W', I O W → InO w0 O W → Chg O W W' → InO w0 O' W' → (∀ i ∈ O', i ∈ O ∨ W.heap.size ≤ i) → I O' W'
def Iterates {α : Type} (P : Program) (fv : Value) (enc : α → Array Value) (S Sp : List α → Prop) (keep : List Nat) (w : World) : Prop :=
 ∀ (W : World) (yv : Value) (I Ix : List Nat → List α → World → Prop), Chg [] w W → (∀ pre, Stab W (fun O => I O pre)) → (∀ pre, Stab W (fun O => Ix O pre)) → I [] [] W →
  (∀ Own pre x W1, InO W Own W1 → Sp (pre ++ [x]) → I Own pre W1 → CallsY P yv (enc x) W1 fun e W' => W1.heap.size ≤ W'.heap.size ∧
   ((e = .returned (.bool true) ∧ I Own (pre ++ [x]) W' ∧ Same W1 W' (keep ++ Own)) ∨ (e = .returned (.bool false) ∧ Ix Own (pre ++ [x]) W'))) →
  X.CallsV P fv #[yv] W fun e W' => (∃ v, e = .returned v) ∧ ∃ Own, InO W Own W' ∧ ((∃ xs, S xs ∧ I Own xs W') ∨ ∃ pre, Sp pre ∧ Ix Own pre W')
def envPs : List Tmp → List Value → Env → Env
 | p :: ps, v :: vs, E => envPs ps vs ((p, v) :: E)
 | _, _, E => E
theorem sat_ps {N : Nat} : ∀ (ps : List Tmp) (vs : List Value) (E : Env) (tmps : Array Value), (∀ p ∈ ps, Nat.blt p N = true) → Sat N [] E { tmps := tmps, defers := [] } →
  Sat N [] (envPs ps vs E) { tmps := (ps.zip vs).foldl (fun t (p, v) => t.setIfInBounds p v) tmps, defers := [] }
 | [], _, E, tmps, _, h => by simpa [envPs] using h
 | p :: ps, [], E, tmps, _, h => by simpa [envPs] using h
 | p :: ps, v :: vs, E, tmps, hp, h => by
  have h1 : Sat N [] ((p, v) :: E) { tmps := tmps.setIfInBounds p v, defers := [] } := by
   have := h.put (d := some p) (v := v) (by simpa [okd] using hp p (.head _))
   simpa [putE, Act.put] using this
  simpa [envPs] using sat_ps ps vs ((p, v) :: E) _ (fun q hq => hp q (.tail _ hq)) h1
theorem Chg.putObj {w : World} {l : Nat} (o : Obj) : Chg [l] w (w.putObj l o) := Chg.put
section
variable {P : Program} {N : Nat} {D : List Deferred} {Q : Exit → Act → World → Prop} {E : Env} {w : World} {α : Type}
def EndQ (keep O : List Nat) (I : List Nat → List α → World → Prop) (Ix : Code → List Nat → List α → World → Prop) (pre : List α) (W₂ : World) : Exit → Act → World → Prop
 | .normal, _, W' => W₂.heap.size ≤ W'.heap.size ∧ I O pre W' ∧ Same W₂ W' (keep ++ O)
 | .ret, _, W' => W₂.heap.size ≤ W'.heap.size ∧ Ix .ret O pre W' ∧ Same W₂ W' (keep ++ O)
 | .exit id, _, W' => W₂.heap.size ≤ W'.heap.size ∧ Ix (.exit id) O pre W' ∧ Same W₂ W' (keep ++ O)
 | .goto t, _, W' => W₂.heap.size ≤ W'.heap.size ∧ Ix (.goto t) O pre W' ∧ Same W₂ W' (keep ++ O)
 | .panic _, _, _ => False
 | .outgrown, _, _ => False
def BeginK (P : Program) (l : Nat) (keep O : List Nat) (I : List Nat → List α → World → Prop) (Ix : Code → List Nat → List α → World → Prop) (pre : List α) (x : α) (body : Code) (W : World) (a₁ : Act) (W₁ : World) : Prop :=
 Chg [] W W₁ ∧ ∀ W₂, Chg [l] W₁ W₂ → InO W O W₂ ∨ True → (∃ r, W₁.heap[l]? = some (.loop r)) → I O pre W₂ → body.wpIn (FR (some l)) 0 P (EndQ keep O I Ix (pre ++ [x]) W₂) a₁ W₂
def mk (d : Nat) : Deferred := { target := .collected d, args := #[] }
theorem CW.rangeFunc {g : Operand} {ps : Array Tmp} {assign body : Code} {gf : Nat} {fn : Func} {lb : Array Value} (hg : opd E g = some (.func (.func gf) #[] lb)) (hgf : P.funcs[gf]? = some fn) (hgn : (fn.name == "runtime.NumGoroutine") = false) (hgb : fn.body.isNone = false)
  {enc : α → Array Value} (hps : ∀ x, (enc x).size = ps.size) (hpN : ∀ p ∈ ps.toList, Nat.blt p N = true) {S Sp : List α → Prop} {keep : List Nat} (hseq : Iterates P (.func (.func gf) #[] lb) enc S Sp keep w)
  (I : List Nat → List α → World → Prop) (Ix : Code → List Nat → List α → World → Prop) (hI : ∀ pre, Stab w (fun O => I O pre)) (hIx : ∀ c pre, Stab w (fun O => Ix c O pre))
  (h0 : ∀ O W, Chg [] w W → InO w O W → I O [] W) (hkeep : ∀ i ∈ keep, i < w.heap.size)
  (hround : ∀ (l : Nat) (O : List Nat) (pre : List α) (x : α) (W : World), InO w O W → l ∈ O → Sp (pre ++ [x]) → I O pre W →
   CW (some l) P N [] assign (Exit.then (BeginK P l keep O I Ix pre x body W) (fun _ _ _ => False)) (envPs ps.toList (enc x).toList E) W)
  (hdone : ∀ (d : Nat) (O : List Nat) (xs : List α) (W : World), InO w O W → d ∈ O → W.heap[d]? = some (.deferred (some [])) → S xs → I O xs W → NW N (mk d :: D) Q E W)
  (hstop : ∀ (d : Nat) (c : Code) (O : List Nat) (pre : List α) (W : World), InO w O W → d ∈ O → W.heap[d]? = some (.deferred (some [])) → Sp pre → Ix c O pre W → CW none P N (mk d :: D) c Q E W) :
  CW none P N D (.rangeFunc g ps assign body) Q E w := by
 intro a ha
 refine wpIn_rangeFunc ?_
 intro fnc hfn
 have hro : (FR none).round = none := rfl
 rw [hro]
 obtain ⟨rec, hrec⟩ : ∃ rec : LoopState → Option Code → Loop, rec = fun st pe => { state := st, pending := pe, fn := fnc, tmps := a.tmps, params := ps, assign, body, defers := w.heap.size } := ⟨_, rfl⟩
 obtain ⟨W1, hW1⟩ : ∃ W1, (w.alloc (.deferred (some []))).alloc (.loop (rec .ready none)) = W1 := ⟨_, rfl⟩
 have hL1 : W1.heap[w.heap.size + 1]? = some (.loop (rec .ready none)) := by
  rw [← hW1]; have := World.alloc_heap_new (w.alloc (.deferred (some []))) (.loop (rec .ready none)); rwa [World.size_alloc] at this
 have hK1 : W1.heap[w.heap.size]? = some (.deferred (some [])) := by
  rw [← hW1]; exact (Below.heap_alloc _ _ _ (by simp)).trans (World.alloc_heap_new w _)
 have c1 : Chg [] w W1 := by rw [← hW1]; exact (Chg.alloc _ _).trans0 (Chg.alloc _ _)
 have hs1 : W1.heap.size = w.heap.size + 2 := by rw [← hW1]; simp
 generalize hl : w.heap.size + 1 = l at hL1
 have hsat0 : Sat N [] E { tmps := a.tmps, defers := [] } := ⟨ha.size, rfl, ha.get⟩
 refine ⟨l, [mk w.heap.size], W1, { target := .fn (.func gf) lb, args := #[.func (.yield l) #[] #[]] }, W1, gf, #[.func (.yield l) #[] #[]] ++ lb, W1, ?_, ?_, ?_, ?_, fun h => (by cases h), ?_⟩
 ·rw [← hW1, hrec, ← hl]; exact run_enterLoop_outer _ _ _ _ _
 ·simp only [resolve, ha.eval hg]
  simp [go_sem]
 ·intro f' hf'; trivial
 ·simp [invoke, go_sem, run_call hgf hgn hgb]
 refine FR.callsIn ?_
 have hOK : ∀ (A B : World) (Own Own' : List Nat), InO W1 Own A → InO W1 Own' B → (∀ i ∈ Own', i ∈ Own ∨ A.heap.size ≤ i) → Chg Own A B → W1.heap.size ≤ A.heap.size →
   InO w (Own ++ [l, w.heap.size]) A ∧ InO w (Own' ++ [l, w.heap.size]) B ∧ (∀ i ∈ Own' ++ [l, w.heap.size], i ∈ Own ++ [l, w.heap.size] ∨ A.heap.size ≤ i) ∧ Chg (Own ++ [l, w.heap.size]) A B ∧ l ∉ Own ∧ w.heap.size ∉ Own := by
  intro A B Own Own' h1 h2 h3 h4 h5
  have h6 := h4.size
  refine ⟨fun i hi => ?_, fun i hi => ?_, fun i hi => ?_, h4.mono (fun i hi _ => List.mem_append_left _ hi), fun hm => ?_, fun hm => ?_⟩
  ·rcases List.mem_append.1 hi with hi | hi
   ·have := h1 i hi; omega
   ·simp at hi; omega
  ·rcases List.mem_append.1 hi with hi | hi
   ·have := h2 i hi; omega
   ·simp at hi; omega
  ·rcases List.mem_append.1 hi with hi | hi
   ·exact (h3 i hi).imp (List.mem_append_left _) id
   ·exact .inl (List.mem_append_right _ hi)
  ·have := h1 _ hm; omega
  ·have := h1 _ hm; omega
 have hit := hseq W1 (.func (.yield l) #[] #[])
  (fun Own pre W => I (Own ++ [l, w.heap.size]) pre W ∧ W1.heap.size ≤ W.heap.size ∧ W.heap[l]? = some (.loop (rec .ready none)) ∧ W.heap[w.heap.size]? = some (.deferred (some [])))
  (fun Own pre W => ∃ c, Ix c (Own ++ [l, w.heap.size]) pre W ∧ W1.heap.size ≤ W.heap.size ∧ W.heap[l]? = some (.loop (rec .done (some c))) ∧ W.heap[w.heap.size]? = some (.deferred (some [])))
  c1
  (fun pre Own Own' A B h hO hc hO' hg => by
   obtain ⟨k1, k2, k3, k4, k5, k6⟩ := hOK A B Own Own' hO hO' hg hc h.2.1
   exact ⟨hI pre _ _ A B h.1 k1 k4 k2 k3, by have := hc.size; have := h.2.1; omega, hc.obj k5 h.2.2.1, hc.obj k6 h.2.2.2⟩)
  (fun pre Own Own' A B h hO hc hO' hg => by
   obtain ⟨c, h1, h2, h3, h4⟩ := h
   obtain ⟨k1, k2, k3, k4, k5, k6⟩ := hOK A B Own Own' hO hO' hg hc h2
   exact ⟨c, hIx c pre _ _ A B h1 k1 k4 k2 k3, by have := hc.size; omega, hc.obj k5 h3, hc.obj k6 h4⟩)
  ⟨h0 _ W1 c1 (fun i hi => by simp at hi; omega), Nat.le_refl _, hL1, hK1⟩ ?_
 ·obtain ⟨f', cap', fn', he, hf', hn', hb', hcalls⟩ := hit
  cases he
  refine hcalls.mono ?_
  rintro e W' ⟨⟨v, rfl⟩, Own, hOwn, hres⟩
  have hsz : ∀ {A : World} (o : Obj), (A.putObj l o).heap.size = A.heap.size := fun o => by simp [World.putObj]
  have hInO : ∀ {A : World}, W1.heap.size ≤ A.heap.size → InO W1 Own A → InO w (Own ++ [l, w.heap.size]) A := fun h1 h2 i hi => by
   rcases List.mem_append.1 hi with hi | hi
   ·have := h2 i hi; omega
   ·simp at hi; omega
  have hput : ∀ {A : World} (o : Obj) (J : List Nat → World → Prop), Stab w J → W1.heap.size ≤ A.heap.size → InO W1 Own A → J (Own ++ [l, w.heap.size]) A → J (Own ++ [l, w.heap.size]) (A.putObj l o) := fun o J hJ h1 h2 hj =>
   hJ _ _ _ _ hj (hInO h1 h2) ((Chg.putObj o).mono (fun i hi _ => by simp at hi; simp [hi])) (by
    have := hInO h1 h2
    intro i hi; rw [hsz]; exact this i hi) (fun i hi => .inl hi)
  rcases hres with ⟨xs, hS, hi, hle, hlp, hk⟩ | ⟨pre, hSp, c, hi, hle, hlp, hk⟩
  ·refine ⟨none, _, by have := run_endLoop (P := P) hlp (by rw [hrec]; simp); rw [hrec] at this; exact this, ?_⟩
   have hA : Sat N (mk w.heap.size :: D) E { a with defers := [mk w.heap.size] ++ a.defers } := ⟨ha.size, by simp [ha.defers], ha.get⟩
   exact hdone w.heap.size (Own ++ [l, w.heap.size]) xs _ (fun i hi' => by rw [hsz]; exact hInO hle hOwn i hi') (by simp) ((World.putObj_heap_other (by omega)).trans hk) hS (hput _ (fun O => I O xs) (hI xs) hle hOwn hi) _ hA
  ·refine ⟨some c, _, by have := run_endLoop (P := P) hlp (by rw [hrec]; simp); rw [hrec] at this; exact this, ?_⟩
   have hA : Sat N (mk w.heap.size :: D) E { a with defers := [mk w.heap.size] ++ a.defers } := ⟨ha.size, by simp [ha.defers], ha.get⟩
   exact hstop w.heap.size c (Own ++ [l, w.heap.size]) pre _ (fun i hi' => by rw [hsz]; exact hInO hle hOwn i hi') (by simp) ((World.putObj_heap_other (by omega)).trans hk) hSp (hput _ (fun O => Ix c O pre) (hIx c pre) hle hOwn hi) _ hA
 ·rintro Own pre x W hOwn hSp ⟨hI0, hle, hlp, hk⟩
  have hlt : l < W.heap.size := lt_of_heap hlp
  have hy := run_yield (P := P) (args := enc x) hlp (by rw [hrec]; exact hps x)
  rw [hrec] at hy
  have hInO : InO w (Own ++ [l, w.heap.size]) W := fun i hi => by
   rcases List.mem_append.1 hi with hi | hi
   ·have := hOwn i hi; omega
   ·simp at hi; omega
  have hrd := hround l (Own ++ [l, w.heap.size]) pre x W hInO (by simp) hSp hI0
  have hsat := sat_ps ps.toList (enc x).toList E a.tmps hpN hsat0
  have hr2 := hrd _ hsat
  have htm : (ps.zip (enc x)).foldl (fun t (p, v) => t.setIfInBounds p v) a.tmps = (ps.toList.zip (enc x).toList).foldl (fun t (p, v) => t.setIfInBounds p v) a.tmps := by
   rw [← Array.foldl_toList, Array.toList_zip]
  refine .inr ⟨l, rfl, fnc, _, assign, body, hy, ?_⟩
  rw [htm]
  refine roundIn_of_wpIn (F := Fence.wide) trivial ?_
  refine wpIn_mono hr2 ?_
  intro e a₁ W₁ hq
  cases e with
  | normal =>
   obtain ⟨hc1, hbody⟩ := hq
   have hl1 := hc1.obj (by simp) hlp
   have hk1 := hc1.obj (by simp) hk
   have hW2 := run_beginRound (P := P) hl1 (by rw [hrec])
   refine ⟨_, hW2, ?_⟩
   generalize hW2e : W₁.putObj l (.loop { rec .ready none with state := .busy }) = W₂ at hW2
   have c2 : Chg [l] W₁ W₂ := by rw [← hW2e]; exact Chg.putObj _
   have hl2 : W₂.heap[l]? = some (.loop { rec .ready none with state := .busy }) := by rw [← hW2e]; exact World.putObj_heap_same (lt_of_heap hl1)
   have hk2 : W₂.heap[w.heap.size]? = some (.deferred (some [])) := by rw [← hW2e]; exact (World.putObj_heap_other (by omega)).trans hk1
   have hs12 := hc1.size
   have hs22 := c2.size
   have hInO2 : InO w (Own ++ [l, w.heap.size]) W₂ := fun i hi => by have := hInO i hi; omega
   have hI2 : I (Own ++ [l, w.heap.size]) pre W₂ := by
    have h1 := hI pre _ (Own ++ [l, w.heap.size]) W W₁ hI0 hInO (hc1.mono (by simp)) (fun i hi => by have := hInO i hi; omega) (fun i hi => .inl hi)
    exact hI pre _ (Own ++ [l, w.heap.size]) W₁ W₂ h1 (fun i hi => by have := hInO i hi; omega) (c2.mono (fun i hi _ => by simp at hi; simp [hi])) hInO2 (fun i hi => .inl hi)
   have hb := hbody W₂ c2 (.inr trivial) ⟨_, hl1⟩ hI2
   refine wpIn_mono hb ?_
   have hsz : ∀ {A : World} (o : Obj), (A.putObj l o).heap.size = A.heap.size := fun o => by simp [World.putObj]
   have hput : ∀ {A : World} (o : Obj) (J : List Nat → World → Prop), Stab w J → W₂.heap.size ≤ A.heap.size → J (Own ++ [l, w.heap.size]) A → J (Own ++ [l, w.heap.size]) (A.putObj l o) := fun {A} o J hJ hle hj => by
    have hin : InO w (Own ++ [l, w.heap.size]) A := fun i hi => by have := hInO2 i hi; omega
    exact hJ _ _ _ _ hj hin ((Chg.putObj o).mono (fun i hi _ => by simp at hi; simp [hi])) (fun i hi => by rw [hsz]; exact hin i hi) (fun i hi => .inl hi)
   have hsame : ∀ {A : World} (o : Obj), Same W₂ A (keep ++ (Own ++ [l, w.heap.size])) → Same W (A.putObj l o) (keep ++ Own) := fun {A} o hs i hi => by
    have hne : i ≠ l := fun e => by
     subst e
     rcases List.mem_append.1 hi with h | h
     ·have := hkeep _ h; omega
     ·have := hOwn _ h; omega
    have hiW : i < W.heap.size := by
     rcases List.mem_append.1 hi with h | h
     ·have := hkeep _ h; have := c1.size; omega
     ·exact (hOwn _ h).2
    rw [World.putObj_heap_other hne, hs i (by
     rcases List.mem_append.1 hi with h | h
     ·exact List.mem_append_left _ h
     ·exact List.mem_append_right _ (List.mem_append_left _ h)), c2.block i (by omega) (by simpa using hne), hc1.block i hiW (by simp)]
   have fin : ∀ (jump : Option Code) (A : World), Same W₂ A (keep ++ (Own ++ [l, w.heap.size])) →
     (Instr.endRound l jump).run P A = .ok (.bool jump.isNone) (A.putObj l (.loop (rec (if jump.isNone then .ready else .done) jump))) ∧ (A.putObj l (.loop (rec (if jump.isNone then .ready else .done) jump))).heap[l]? = some (.loop (rec (if jump.isNone then .ready else .done) jump)) ∧
     (A.putObj l (.loop (rec (if jump.isNone then .ready else .done) jump))).heap[w.heap.size]? = some (.deferred (some [])) := fun jump A hs => by
    have hlA : A.heap[l]? = some (.loop { rec .ready none with state := .busy }) := (hs l (by simp)).trans hl2
    have hkA : A.heap[w.heap.size]? = some (.deferred (some [])) := (hs w.heap.size (by simp)).trans hk2
    have := run_endRound (P := P) jump hlA
    rw [hrec] at this ⊢
    exact ⟨this, World.putObj_heap_same (lt_of_heap hlA), (World.putObj_heap_other (by omega)).trans hkA⟩
   intro e a₃ A hp
   cases e with
   | normal =>
    obtain ⟨hle3, hi3, hs3⟩ := hp
    obtain ⟨f1, f2, f3⟩ := fin none A hs3
    exact ⟨_, _, f1, by rw [hsz]; omega, .inl ⟨rfl, ⟨hput _ (fun O => I O (pre ++ [x])) (hI _) hle3 hi3, by rw [hsz]; omega, f2, f3⟩, hsame _ hs3⟩⟩
   | ret =>
    obtain ⟨hle3, hi3, hs3⟩ := hp
    obtain ⟨f1, f2, f3⟩ := fin (some .ret) A hs3
    exact ⟨_, _, f1, by rw [hsz]; omega, .inr ⟨rfl, .ret, hput _ (fun O => Ix .ret O (pre ++ [x])) (hIx _ _) hle3 hi3, by rw [hsz]; omega, f2, f3⟩⟩
   | exit id =>
    obtain ⟨hle3, hi3, hs3⟩ := hp
    obtain ⟨f1, f2, f3⟩ := fin (some (.exit id)) A hs3
    exact ⟨_, _, f1, by rw [hsz]; omega, .inr ⟨rfl, .exit id, hput _ (fun O => Ix (.exit id) O (pre ++ [x])) (hIx _ _) hle3 hi3, by rw [hsz]; omega, f2, f3⟩⟩
   | goto t =>
    obtain ⟨hle3, hi3, hs3⟩ := hp
    obtain ⟨f1, f2, f3⟩ := fin (some (.goto t)) A hs3
    exact ⟨_, _, f1, by rw [hsz]; omega, .inr ⟨rfl, .goto t, hput _ (fun O => Ix (.goto t) O (pre ++ [x])) (hIx _ _) hle3 hi3, by rw [hsz]; omega, f2, f3⟩⟩
   | panic ch => exact hp.elim
   | outgrown => exact hp.elim
  | exit id => exact hq.elim
  | goto t => exact hq.elim
  | ret => exact hq.elim
  | panic ch => exact hq.elim
  | outgrown => exact hq.elim
theorem NW.begin {l : Nat} {keep O : List Nat} {I : List Nat → List α → World → Prop} {Ix : Code → List Nat → List α → World → Prop} {pre : List α} {x : α} {body : Code} {W W₁ : World} {Q' : Exit → Act → World → Prop}
  (hc : Chg [] W W₁) (h : ∀ W₂, Chg [l] W₁ W₂ → (∃ r, W₁.heap[l]? = some (.loop r)) → I O pre W₂ → CW (some l) P N [] body (EndQ keep O I Ix (pre ++ [x]) W₂) E W₂) :
  NW N [] (Exit.then (BeginK P l keep O I Ix pre x body W) Q') E W₁ := fun a ha => ⟨hc, fun W₂ c _ hl hi => h W₂ c hl hi a ha⟩
def IsFn (P : Program) (fv : Value) : Prop := ∃ gf fn lb, fv = .func (.func gf) #[] lb ∧ P.funcs[gf]? = some fn ∧ (fn.name == "runtime.NumGoroutine") = false ∧ fn.body.isNone = false
theorem CW.rangeV {g : Operand} {ps : Array Tmp} {assign body : Code} {fv : Value} (hg : opd E g = some fv) (hf : IsFn P fv)
  {enc : α → Array Value} (hps : ∀ x, (enc x).size = ps.size) (hpN : ∀ p ∈ ps.toList, Nat.blt p N = true) {S Sp : List α → Prop} {keep : List Nat} (hseq : Iterates P fv enc S Sp keep w)
  (I : List Nat → List α → World → Prop) (Ix : Code → List Nat → List α → World → Prop) (hI : ∀ pre, Stab w (fun O => I O pre)) (hIx : ∀ c pre, Stab w (fun O => Ix c O pre))
  (h0 : ∀ O W, Chg [] w W → InO w O W → I O [] W) (hkeep : ∀ i ∈ keep, i < w.heap.size)
  (hround : ∀ (l : Nat) (O : List Nat) (pre : List α) (x : α) (W : World), InO w O W → l ∈ O → Sp (pre ++ [x]) → I O pre W →
   CW (some l) P N [] assign (Exit.then (BeginK P l keep O I Ix pre x body W) (fun _ _ _ => False)) (envPs ps.toList (enc x).toList E) W)
  (hdone : ∀ (d : Nat) (O : List Nat) (xs : List α) (W : World), InO w O W → d ∈ O → W.heap[d]? = some (.deferred (some [])) → S xs → I O xs W → NW N (mk d :: D) Q E W)
  (hstop : ∀ (d : Nat) (c : Code) (O : List Nat) (pre : List α) (W : World), InO w O W → d ∈ O → W.heap[d]? = some (.deferred (some [])) → Sp pre → Ix c O pre W → X.CW P N (mk d :: D) c Q E W) :
  X.CW P N D (.rangeFunc g ps assign body) Q E w := by
 obtain ⟨gf, fn, lb, rfl, h1, h2, h3⟩ := hf
 exact (CW.rangeFunc hg h1 h2 h3 hps hpN hseq I Ix hI hIx h0 hkeep hround hdone (fun d c O pre W a b e f g' => (hstop d c O pre W a b e f g').plain')).un
theorem _root_.Go.X.Boxes.stab {w A B : World} {l l0 : List (Nat × List Value × TypeId)} {O : List Nat} (h : Boxes A l) (h0 : Boxes w l0) (hn : l.map (·.1) = l0.map (·.1)) (hO : InO w O A) (hc : Chg O A B) : Boxes B l :=
 h.chg hc fun x hx hm => by
  have h1 := (hO _ hm).1
  have : x.1 ∈ l0.map (·.1) := hn ▸ List.mem_map.2 ⟨x, hx, rfl⟩
  obtain ⟨y, hy, e⟩ := List.mem_map.1 this
  have := lt_of_heap (h0.heap y hy)
  omega
theorem _root_.Go.X.Boxes.notloop {A B : World} {l : Nat} {bs : List (Nat × List Value × TypeId)} (h : Boxes A bs) (hl : ∃ r, A.heap[l]? = some (.loop r)) (hc : Chg [l] A B) : Boxes B bs :=
 h.chg hc fun x hx hm => by
  simp at hm
  obtain ⟨r, hr⟩ := hl
  have := h.heap x hx
  rw [hm, hr] at this; cases this
theorem _root_.Go.X.Boxes.sameS {w w1 : World} {l : List (Nat × List Value × TypeId)} {ns : List Nat} (h : Boxes w l) (hs : Same w w1 ns) (hl : ∀ x ∈ l, x.1 ∈ ns) : Boxes w1 l := ⟨fun x hx => (hs _ (hl x hx)).trans (h.heap x hx), h.nodup⟩
/-! ### A function with such a statement -/
def Marks (w : World) (ms : List Nat) : Prop := ms.Nodup ∧ ∀ m ∈ ms, w.heap[m]? = some (.deferred (some []))
theorem enterM {f : Nat} {fn : Func} {c : Code} {args : Array Value} {R : Ending → World → Prop} (hf : P.funcs[f]? = some fn) (hb : fn.body = some c) (hN : fn.ntmps = N)
  (h : X.CW P N [] c (bodyPostM Fence.wide 0 P fn R) (envOf 0 args.toList) w) : Calls P f args w R := by
 refine callsIn_wide.1 (callsIn_of_wp_marks (n := 0) hf hb trivial (wpIn_wide.2 (h _ ⟨?_, rfl, fun t v hg => ?_⟩)))
 ·rw [← hN]; simp; omega
 ·obtain ⟨_, h2⟩ := envOf_get _ _ _ _ hg
  have h3 : args[t]? = some v := by simpa using h2
  obtain ⟨hlt, h4⟩ := Array.getElem?_eq_some_iff.1 h3
  show (args ++ _).getD t undef = v
  simp [Array.getElem?_append_left hlt, h3]
theorem leavesM {fn : Func} {tmps : Array Value} {R : Ending → World → Prop} : ∀ (ms : List Nat) (w : World), Marks w ms → (∀ w', Chg ms w w' → ∃ v, (results fn tmps).run P w' = .ok v w' ∧ R (.returned v) w') →
  LeavesInM Fence.wide 0 P fn tmps R (ms.map mk) .returning w
 | [], w, _, h => by
  obtain ⟨v, h1, h2⟩ := h w (Chg.refl _ _)
  exact ⟨v, h1, h2⟩
 | m :: ms, w, hm, h => by
  obtain ⟨hnd, hall⟩ := hm
  have h1 := hall m (.head _)
  refine ⟨by simp, .inl ⟨m, _, rfl, run_takeDeferred h1, leavesM ms _ ⟨(List.nodup_cons.1 hnd).2, fun k hk => ?_⟩ fun w' hc => h w' ?_⟩⟩
  ·have hne : k ≠ m := fun e => (List.nodup_cons.1 hnd).1 (e ▸ hk)
   exact (World.putObj_heap_other hne).trans (hall k (.tail _ hk))
  ·exact ((Chg.putObj _).mono (fun i hi _ => by simp at hi; simp [hi])).trans hc (fun i hi _ => List.mem_cons_of_mem _ hi)
theorem resM {fn : Func} {R : Ending → World → Prop} {ms : List Nat} {vs : List Value} {x : Value} (hm : Marks w ms) (hx : x = match vs with | [v] => v | _ => .tuple vs.toArray) (h : ∀ w', Chg ms w w' → ResOK P E w' fn.results.toList vs ∧ R (.returned x) w')
  (a : Act) (ha : Sat N (ms.map mk) E a) : bodyPostM Fence.wide 0 P fn R .ret a w := by
 show LeavesInM Fence.wide 0 P fn a.tmps R a.defers .returning w
 rw [ha.defers]
 refine leavesM ms w hm fun w' hc => ?_
 obtain ⟨h1, hR⟩ := h w' hc
 refine ⟨x, ?_, hR⟩
 have h2 := ResOK.run ha _ _ h1
 change (do let vs ← fn.results.mapM (resF a); pure (if h : vs.size = 1 then vs[0] else .tuple vs) : Sem Value).run P w' = .ok x w'
 rw [Array.mapM_eq_mapM_toList]
 simp only [Sem.run_bind, Sem.run_map, h2, Result.andThen_ok, Sem.run_pure]
 subst hx
 match vs with
 | [] => simp
 | [v] => simp
 | v :: u :: r => simp
theorem res0M {fn : Func} {R : Ending → World → Prop} {vs : List Value} {x : Value} (h : ResOK P E w fn.results.toList vs) (hx : x = match vs with | [v] => v | _ => .tuple vs.toArray) (hR : R (.returned x) w)
  (a : Act) (ha : Sat N [] E a) : bodyPostM Fence.wide 0 P fn R .ret a w := by
 have h0 : bodyPost P fn R .ret a w := resN h hx hR a ha
 obtain ⟨hd, v, h1, h2⟩ := h0
 show LeavesInM Fence.wide 0 P fn a.tmps R a.defers .returning w
 rw [hd]
 exact ⟨v, h1, h2⟩
theorem Marks.stab {w A B : World} {ms O : List Nat} (h : Marks A ms) (h0 : Marks w ms) (hO : InO w O A) (hc : Chg O A B) : Marks B ms :=
 ⟨h.1, fun m hm => hc.obj (fun hm' => by have := (hO _ hm').1; have := lt_of_heap (h0.2 m hm); omega) (h.2 m hm)⟩
theorem Marks.notloop {A B : World} {l : Nat} {ms : List Nat} (h : Marks A ms) (hl : ∃ r, A.heap[l]? = some (.loop r)) (hc : Chg [l] A B) : Marks B ms :=
 ⟨h.1, fun m hm => hc.obj (fun hm' => by
  simp at hm'
  obtain ⟨r, hr⟩ := hl
  have := h.2 m hm
  rw [hm', hr] at this; cases this) (h.2 m hm)⟩
theorem _root_.Go.X.Boxes.marks {w w' : World} {ms : List Nat} {l : List (Nat × List Value × TypeId)} (h : Boxes w l) (hK : Marks w ms) (hc : Chg ms w w') : Boxes w' l :=
 h.chg hc fun x hx hm => by
  have h1 := hK.2 _ hm
  rw [h.heap x hx] at h1; cases h1
theorem Marks.nil (w : World) : Marks w [] := ⟨by simp, by simp⟩
theorem Marks.chg {f ms : List Nat} {w w' : World} (h : Marks w ms) (hc : Chg f w w') (hf : ∀ m ∈ ms, m ∉ f) : Marks w' ms := ⟨h.1, fun m hm => hc.obj (hf m hm) (h.2 m hm)⟩
theorem Marks.same {ms l : List Nat} {w w' : World} (h : Marks w ms) (hs : Same w w' l) (hl : ∀ m ∈ ms, m ∈ l) : Marks w' ms := ⟨h.1, fun m hm => (hs m (hl m hm)).trans (h.2 m hm)⟩
theorem Marks.grow {ms : List Nat} {w w' : World} {o : Obj} (h : Marks w ms) (hw : w' = World.alloc w o) : Marks w' ms := h.chg (f := []) (by subst hw; exact Chg.alloc _ _) (by simp)
theorem Marks.drew {ms : List Nat} {w w' : World} (h : Marks w ms) (hw : w' = World.drew w) : Marks w' ms := h.chg (f := []) (by subst hw; exact Chg.drew _) (by simp)
theorem Marks.set {ms : List Nat} {w w' : World} {b : Nat} {cs : Array Value} {T : TypeId} {fr : Nat × Nat} (h : Marks w ms) (hb : w.heap[b]? = some (.cells cs T fr)) (hc : Chg [b] w w') : Marks w' ms := h.chg hc fun m hm hm' => by
 simp at hm'; subst hm'
 have := h.2 _ hm
 rw [hb] at this; cases this
theorem Marks.cons {ms : List Nat} {w : World} {d : Nat} (h : Marks w ms) (hd : w.heap[d]? = some (.deferred (some []))) (hn : d ∉ ms) : Marks w (d :: ms) := ⟨List.nodup_cons.2 ⟨hn, h.1⟩, fun m hm => by
 rcases List.mem_cons.1 hm with rfl | hm
 ·exact hd
 ·exact h.2 m hm⟩
theorem Marks.cons2 {ms : List Nat} {w W : World} {d : Nat} (h : Marks W ms) (h0 : Marks w ms) (hd : w.heap.size ≤ d) (hdh : W.heap[d]? = some (.deferred (some []))) : Marks W (d :: ms) :=
 h.cons hdh fun hm => by have := lt_of_heap (h0.2 _ hm); omega
end
end Go.XR
/-! ### Ways that meet, and loops, where ranges over functions were begun: the frame's deferred ones are of the state -/
namespace Go.X
open Go
section
variable {P : Program} {N : Nat} {D : List Deferred} {Q : Exit → Act → World → Prop} {E : Env} {w : World}
end
end Go.X
end
section
namespace Go.Proofs.YtfcfkhbkkfpehaaGreat
open Go Go.X
/- (pomander/pomanderref12.Flow).Get -/
def W_pomanderref12_Flow_Get (f1 : Int) (f2 : Int) (f3 : Int) (f4 : Option Addr) (f4n : Nat) (f4c : Nat) (f5 : Option Addr) (f5n : Nat) (f5c : Nat) (p1 : Int) (p2 : Int) (w : World) (R : Int → World → Prop) : Prop :=
 ∀ (b2 b1 : Nat) (w2 : World), (w.heap.size ≤ b2 ∧ b2 < w2.heap.size) → (w.heap.size ≤ b1 ∧ b1 < w2.heap.size) → Chg [] w w2 → (∃ (I1 : Int → Int → World → Prop) (m1 : Int → Int → World → Nat), I1 0 0 w2 ∧ ∀ (x1 : Int) (i1 : Int) (w3 : World), I1 x1 i1 w3 → ((decide (i1 < (f5n : Int))) = true → ∃ a1 : Addr, f5 = some a1 ∧ (0 : Int) ≤ i1 ∧ i1 < (f5n : Int) ∧ (∀ (w4 : World), Chg [] w3 w4 → (∃ (t1 : Int) (t2 : Int), CellsAt w4 (a1.add (Int.toNat i1 * 3)) 0 [.int .i64 t1, .int .i64 t2] ∧ ((((t1 == p1) && (t2 == p2)) = true → ∃ (t3 : Int), w4.cell? ((a1.add (Int.toNat i1 * 3)).add 2) = some (.int .u32 t3) ∧ (R t3 w4)) ∧ (((t1 == p1) && (t2 == p2)) = false → (I1 x1 (IntKind.wrap .i64 (i1 + 1)) w4 ∧ m1 x1 (IntKind.wrap .i64 (i1 + 1)) w4 < m1 x1 i1 w3)))))) ∧ ((decide (i1 < (f5n : Int))) = false → R 0 w3))
set_option maxRecDepth 100000 in
theorem go_pomanderref12_Flow_Get (f1 : Int) (f2 : Int) (f3 : Int) (f4 : Option Addr) (f4n : Nat) (f4c : Nat) (f5 : Option Addr) (f5n : Nat) (f5c : Nat) (p1 : Int) (p2 : Int) (w : World) (R : Int → World → Prop) (h : W_pomanderref12_Flow_Get f1 f2 f3 f4 f4n f4c f5 f5n f5c p1 p2 w R) : Calls Tryz.prog 86 #[.agg #[.int .i64 f1, .int .i64 f2, .int .i64 f3, .slice f4 f4n f4c, .slice f5 f5n f5c], .agg #[.int .i64 p1, .int .i64 p2]] w (fun e w' => ∃ (r1 : Int), e = .returned (.int .u32 r1) ∧ R r1 w') := by
 unfold W_pomanderref12_Flow_Get at h
 refine enter (N := 27) Tryz.func86 rfl rfl ?_
 refine CW.seq ?_
 refine CW.region fun L hL => ?_
 obtain ⟨b1, hb_b1⟩ : ∃ b1, b1 = World.size w := ⟨_, rfl⟩
 obtain ⟨w1, hw_w1⟩ : ∃ w1, w1 = World.alloc w (.cells #[.int .i64 f1, .int .i64 f2, .int .i64 f3, .slice f4 f4n f4c, .slice f5 f5n f5c] 43) := ⟨_, rfl⟩
 refine LW.val hL rfl (Wants.free rfl) rfl (boxE hb_b1 hw_w1 (Vl.box (v := .agg #[.int .i64 f1, .int .i64 f2, .int .i64 f3, .slice f4 f4n f4c, .slice f5 f5n f5c]) rfl)) ?_
 have hB := Boxes.alloc (cs := [.int .i64 f1, .int .i64 f2, .int .i64 f3, .slice f4 f4n f4c, .slice f5 f5n f5c]) (T := 43) (Boxes.nil w) hb_b1 hw_w1
 have hlo_b1 := sil_lo (Chg.refl [] w) hb_b1
 have hc_w1 := sil_alloc (Chg.refl [] w) hw_w1
 obtain ⟨b2, hb_b2⟩ : ∃ b2, b2 = World.size w1 := ⟨_, rfl⟩
 obtain ⟨w2, hw_w2⟩ : ∃ w2, w2 = World.alloc w1 (.cells #[.int .i64 p1, .int .i64 p2] 62) := ⟨_, rfl⟩
 refine LW.val hL rfl (Wants.free rfl) rfl (boxE hb_b2 hw_w2 (Vl.box (v := .agg #[.int .i64 p1, .int .i64 p2]) rfl)) ?_
 replace hB := Boxes.alloc (cs := [.int .i64 p1, .int .i64 p2]) (T := 62) hB hb_b2 hw_w2
 have hlo_b2 := sil_lo hc_w1 hb_b2
 have hc_w2 := sil_alloc hc_w1 hw_w2
 refine LW.rd hL rfl (Wants.free rfl) rfl (Rd.assign (v := .int .u32 0) rfl) ?_
 refine LW.nil hL rfl ?_
 refine NW.then ?_
 refine CW.seq ?_
 refine CW.seq ?_
 refine CW.region fun L hL => ?_
 refine LW.rd hL rfl (Wants.free rfl) rfl (Rd.assign (v := .int .i64 0) rfl) ?_
 refine LW.nil hL rfl ?_
 refine NW.then ?_
 refine CW.block ?_
 replace h := h b2 b1 w2 ⟨hlo_b2, lt_of_heap (hB.at (i := 0) rfl)⟩ ⟨hlo_b1, lt_of_heap (hB.at (i := 1) rfl)⟩ hc_w2
 obtain ⟨I1, m1, hI1, h⟩ := h
 refine CW.loop (S := Int × Int) (fun s1 => [(2, .pointer (some (⟨b1, 0, none⟩ : Addr))), (3, .pointer (some (⟨b2, 0, none⟩ : Addr))), (4, .int .u32 s1.1), (5, .int .i64 s1.2)]) (fun s1 w3 => I1 s1.1 s1.2 w3 ∧ Boxes w3 [(b1, [.int .i64 f1, .int .i64 f2, .int .i64 f3, .slice f4 f4n f4c, .slice f5 f5n f5c], 43), (b2, [.int .i64 p1, .int .i64 p2], 62)]) (fun s1 w3 => m1 s1.1 s1.2 w3) (0, 0) (by exact ⟨rfl, rfl, rfl, rfl, trivial⟩) ⟨hI1, (hB.sel [1, 0] (by decide) rfl)⟩ (fun s1 w3 hI1 => ?_)
 obtain ⟨hI1, hB⟩ := hI1
 obtain ⟨x1, i1⟩ := s1; replace h := h x1 i1 w3 hI1
 refine CW.seq ?_
 refine CW.seq ?_
 refine CW.region fun L hL => ?_
 refine LW.rd hL rfl (Wants.free rfl) rfl (Rd.move (v := .int .i64 i1) rfl) ?_
 refine LW.rd hL rfl (Wants.free rfl) rfl (Rd.fa (v := .pointer (some (⟨b1, 4, none⟩ : Addr))) rfl (fun _ => by kernel_rfl)) ?_
 refine LW.rd hL rfl (Wants.free rfl) rfl (Rd.ld (v := .slice f5 f5n f5c) rfl (by kernel_rfl) (eqs (box_cell (hB.at (i := 0) rfl) rfl))) ?_
 refine LW.rd hL rfl (Wants.free rfl) rfl (Rd.builtin (v := .int .i64 (f5n : Int)) rfl (fun _ _ => by kernel_rfl)) ?_
 refine LW.rd hL rfl (Wants.free rfl) rfl (Rd.bin (v := .bool (decide (i1 < (f5n : Int)))) rfl rfl (fun w => by kernel_rfl)) ?_
 refine LW.nil hL rfl ?_
 refine NW.then ?_
 refine CW.cond rfl (fun hb1 => ?_) (fun hb1 => ?_)
 ·replace h := h.1 hb1
  refine CW.skip ?_
  refine NW.then ?_
  refine CW.seq ?_
  refine CW.block ?_
  refine CW.seq ?_
  obtain ⟨w4, hw_w4⟩ : ∃ x, x = World.drew w3 := ⟨_, rfl⟩
  have hc_w4 := sil_drew (Chg.refl [] w3) hw_w4
  replace hB := hB.drew hw_w4
  refine CW.drawn (fun w => w = w4) 8 (by kernel_rfl) fun H hH => ?_
  rw [← hw_w4]
  refine HW.pure (i := 0) hH rfl (by kernel_rfl) (Wants.free rfl) rfl (fun _ => rfl) (Rd.fa (v := .pointer (some (⟨b1, 4, none⟩ : Addr))) rfl (fun _ => by kernel_rfl)) ?_
  refine HW.take (i := 1) hH rfl (by kernel_rfl) (by kernel_rfl) (Wants.free rfl) rfl (fun _ => rfl) (Rd.ld (v := .slice f5 f5n f5c) rfl (by kernel_rfl) (eqs (box_cell (hB.at (i := 0) rfl) rfl))) ?_
  refine HW.pure (i := 2) hH rfl (by kernel_rfl) (Wants.free rfl) rfl (fun _ => rfl) (Rd.move (v := .int .i64 i1) rfl) ?_
  obtain ⟨a1, he1, hi1, hi2, h⟩ := h
  refine HW.pure (i := 3) hH rfl (by kernel_rfl) (Wants.free rfl) rfl (fun _ => rfl) (Rd.iaS (q := a1) (sz := 3) (by rw [← he1]; rfl) rfl Tryz.underlying41 (by kernel_rfl) hi1 hi2) ?_
  refine HW.pure (i := 4) hH rfl (by kernel_rfl) (Wants.free rfl) rfl (fun _ => rfl) (Rd.fa (v := .pointer (some (a1.add (Int.toNat i1 * 3)))) rfl (fun _ => by kernel_rfl)) ?_
  replace h := h  w4  hc_w4
  obtain ⟨t1, t2, hc1, h⟩ := h
  refine HW.take (i := 5) hH rfl (by kernel_rfl) (by kernel_rfl) (Wants.free rfl) rfl (fun _ => rfl) (Rd.ldN (cs := [.int .i64 t1, .int .i64 t2]) rfl (by kernel_rfl) (by kernel_rfl) (cellsS hc1)) ?_
  refine HW.take (i := 6) hH rfl (by kernel_rfl) (by kernel_rfl) (Wants.free rfl) rfl (fun _ => rfl) (Rd.ldN (cs := [.int .i64 p1, .int .i64 p2]) rfl (by kernel_rfl) (by kernel_rfl) (cellsS (box_cells (hB.at (i := 1) rfl) rfl))) ?_
  refine HW.pure (i := 7) hH rfl (by kernel_rfl) (Wants.free rfl) rfl (fun _ => rfl) (Rd.bin (v := .bool ((t1 == p1) && (t2 == p2))) rfl rfl (fun w => eqS_62 _ _ _ _ w)) ?_
  refine HW.done hH (by kernel_rfl) ?_
  refine NW.then ?_
  refine CW.cond rfl (fun hb2 => ?_) (fun hb2 => ?_)
  ·replace h := h.1 hb2
   refine CW.seq ?_
   refine CW.region fun L hL => ?_
   refine LW.rd hL rfl (Wants.free rfl) rfl (Rd.fa (v := .pointer (some (⟨b1, 4, none⟩ : Addr))) rfl (fun _ => by kernel_rfl)) ?_
   refine LW.rd hL rfl (Wants.free rfl) rfl (Rd.ld (v := .slice f5 f5n f5c) rfl (by kernel_rfl) (eqs (box_cell (hB.at (i := 0) rfl) rfl))) ?_
   refine LW.rd hL rfl (Wants.free rfl) rfl (Rd.move (v := .int .i64 i1) rfl) ?_
   refine LW.rd hL rfl (Wants.free rfl) rfl (Rd.iaS (q := a1) (sz := 3) (by rw [← he1]; rfl) rfl Tryz.underlying41 (by kernel_rfl) hi1 hi2) ?_
   refine LW.rd hL rfl (Wants.free rfl) rfl (Rd.fa (v := .pointer (some ((a1.add (Int.toNat i1 * 3)).add 2))) rfl (fun _ => by kernel_rfl)) ?_
   obtain ⟨t3, hc2, h⟩ := h
   refine LW.rd hL rfl (Wants.free rfl) rfl (Rd.ld (v := .int .u32 t3) rfl (by kernel_rfl) (eqs hc2)) ?_
   refine LW.rd hL rfl (Wants.free rfl) rfl (Rd.assign (v := .int .u32 t3) rfl) ?_
   refine LW.nil hL rfl ?_
   refine NW.then ?_
   refine CW.ret ?_
   refine RW.block ?_
   refine RW.then ?_
   refine RW.then ?_
   refine RW.block ?_
   refine RW.then ?_
   exact res1 rfl rfl ⟨t3, rfl, h⟩
  ·replace h := h.2 hb2
   refine CW.skip ?_
   refine NW.block ?_
   refine NW.then ?_
   refine CW.region fun L hL => ?_
   refine LW.rd hL rfl (Wants.free rfl) rfl (Rd.move (v := .int .i64 i1) rfl) ?_
   refine LW.rd hL rfl (Wants.free rfl) rfl (Rd.bin (v := .int .i64 (IntKind.wrap .i64 (i1 + 1))) rfl rfl (fun w => by kernel_rfl)) ?_
   refine LW.rd hL rfl (Wants.free rfl) rfl (Rd.assign (v := .int .i64 (IntKind.wrap .i64 (i1 + 1))) rfl) ?_
   refine LW.nil hL rfl ?_
   exact NW.loop (S := Int × Int) (Ek := fun s1 => [(2, .pointer (some (⟨b1, 0, none⟩ : Addr))), (3, .pointer (some (⟨b2, 0, none⟩ : Addr))), (4, .int .u32 s1.1), (5, .int .i64 s1.2)]) (x1, IntKind.wrap .i64 (i1 + 1)) (by exact ⟨rfl, rfl, rfl, rfl, trivial⟩) ⟨⟨h.1, hB⟩, h.2⟩
 ·replace h := h.2 hb1
  refine CW.exit ?_
  refine XW.then ?_
  refine XW.then ?_
  refine XW.hit ?_
  refine NW.then ?_
  refine CW.seq ?_
  refine CW.region fun L hL => ?_
  refine LW.rd hL rfl (Wants.free rfl) rfl (Rd.assign (v := .int .u32 0) rfl) ?_
  refine LW.nil hL rfl ?_
  refine NW.then ?_
  refine CW.ret ?_
  exact res1 rfl rfl ⟨0, rfl, h⟩
/- (pomander/pomanderref12.Flow).MayAll -/
def W_pomanderref12_Flow_MayAll (f1 : Int) (f2 : Int) (f3 : Int) (f4 : Option Addr) (f4n : Nat) (f4c : Nat) (f5 : Option Addr) (f5n : Nat) (f5c : Nat) (l1 : Option Addr) (l1n : Nat) (l1c : Nat) (w : World) (R : Bool → World → Prop) : Prop :=
 ∀ (b1 : Nat) (w1 : World), (w.heap.size ≤ b1 ∧ b1 < w1.heap.size) → Chg [] w w1 → (∃ (I1 : Bool → Int → World → Prop) (m1 : Bool → Int → World → Nat), I1 false 0 w1 ∧ ∀ (x1 : Bool) (i1 : Int) (w2 : World), I1 x1 i1 w2 → ((decide (i1 < (l1n : Int))) = true → ∃ a1 : Addr, l1 = some a1 ∧ (0 : Int) ≤ i1 ∧ i1 < (l1n : Int) ∧ (∀ (w3 : World), Chg [] w2 w3 → (∃ (t1 : Int) (t2 : Int), CellsAt w3 (a1.add (Int.toNat i1 * 3)) 0 [.int .i64 t1, .int .i64 t2] ∧ (∃ J1 : Bool → World → Prop, (∀ (b2 : Bool) (w4 : World), J1 b2 w4 → (b2 = true → R false w4) ∧ (b2 = false → ∃ (I2 : Bool → Int → World → Prop) (m2 : Bool → Int → World → Nat), I2 x1 0 w4 ∧ ∀ (x2 : Bool) (k1 : Int) (w6 : World), I2 x2 k1 w6 → ∃ (t5 : Option Addr) (t5n : Nat) (t5c : Nat), w6.cell? ((a1.add (Int.toNat i1 * 3)).add 2) = some (.slice t5 t5n t5c) ∧ (((decide (k1 < (t5n : Int))) = true → ∀ (w7 : World), Chg [] w6 w7 → (∃ (t6 : Option Addr) (t6n : Nat) (t6c : Nat), w7.cell? ((a1.add (Int.toNat i1 * 3)).add 2) = some (.slice t6 t6n t6c) ∧ (∃ a2 : Addr, t6 = some a2 ∧ (0 : Int) ≤ k1 ∧ k1 < (t6n : Int) ∧ (∃ (t7 : Int) (t8 : Int), CellsAt w7 (a2.add (Int.toNat k1 * 2)) 0 [.int .i64 t7, .int .i64 t8] ∧ (Calls Tryz.prog 49 #[.agg #[.int .i64 f1, .int .i64 f2, .int .i64 f3, .slice f4 f4n f4c, .slice f5 f5n f5c], .agg #[.int .i64 t7, .int .i64 t8]] w7 fun e w8 => ∃ (r3 : Bool), e = .returned (.bool r3) ∧ (Same w7 w8 [b1] ∧ (((!r3) = true → R false w8) ∧ ((!r3) = false → (I2 x2 (IntKind.wrap .i64 (k1 + 1)) w8 ∧ m2 x2 (IntKind.wrap .i64 (k1 + 1)) w8 < m2 x2 k1 w6))))))))) ∧ ((decide (k1 < (t5n : Int))) = false → (I1 x2 (IntKind.wrap .i64 (i1 + 1)) w6 ∧ m1 x2 (IntKind.wrap .i64 (i1 + 1)) w6 < m1 x1 i1 w2))))) ∧ (((!((t1 == 0) && (t2 == 0))) = true → ∃ (t3 : Int) (t4 : Int), CellsAt w3 (a1.add (Int.toNat i1 * 3)) 0 [.int .i64 t3, .int .i64 t4] ∧ (Calls Tryz.prog 49 #[.agg #[.int .i64 f1, .int .i64 f2, .int .i64 f3, .slice f4 f4n f4c, .slice f5 f5n f5c], .agg #[.int .i64 t3, .int .i64 t4]] w3 fun e w5 => ∃ (r2 : Bool), e = .returned (.bool r2) ∧ (Same w3 w5 [b1] ∧ (J1 (!r2) w5)))) ∧ ((!((t1 == 0) && (t2 == 0))) = false → J1 false w3)))))) ∧ ((decide (i1 < (l1n : Int))) = false → R true w2))
set_option maxRecDepth 100000 in
theorem go_pomanderref12_Flow_MayAll (f1 : Int) (f2 : Int) (f3 : Int) (f4 : Option Addr) (f4n : Nat) (f4c : Nat) (f5 : Option Addr) (f5n : Nat) (f5c : Nat) (l1 : Option Addr) (l1n : Nat) (l1c : Nat) (w : World) (R : Bool → World → Prop) (h : W_pomanderref12_Flow_MayAll f1 f2 f3 f4 f4n f4c f5 f5n f5c l1 l1n l1c w R) : Calls Tryz.prog 18 #[.agg #[.int .i64 f1, .int .i64 f2, .int .i64 f3, .slice f4 f4n f4c, .slice f5 f5n f5c], .slice l1 l1n l1c] w (fun e w' => ∃ (r1 : Bool), e = .returned (.bool r1) ∧ R r1 w') := by
 unfold W_pomanderref12_Flow_MayAll at h
 refine enter (N := 51) Tryz.func18 rfl rfl ?_
 refine CW.seq ?_
 refine CW.region fun L hL => ?_
 obtain ⟨b1, hb_b1⟩ : ∃ b1, b1 = World.size w := ⟨_, rfl⟩
 obtain ⟨w1, hw_w1⟩ : ∃ w1, w1 = World.alloc w (.cells #[.int .i64 f1, .int .i64 f2, .int .i64 f3, .slice f4 f4n f4c, .slice f5 f5n f5c] 43) := ⟨_, rfl⟩
 refine LW.val hL rfl (Wants.free rfl) rfl (boxE hb_b1 hw_w1 (Vl.box (v := .agg #[.int .i64 f1, .int .i64 f2, .int .i64 f3, .slice f4 f4n f4c, .slice f5 f5n f5c]) rfl)) ?_
 have hB := Boxes.alloc (cs := [.int .i64 f1, .int .i64 f2, .int .i64 f3, .slice f4 f4n f4c, .slice f5 f5n f5c]) (T := 43) (Boxes.nil w) hb_b1 hw_w1
 have hlo_b1 := sil_lo (Chg.refl [] w) hb_b1
 have hc_w1 := sil_alloc (Chg.refl [] w) hw_w1
 refine LW.rd hL rfl (Wants.free rfl) rfl (Rd.assign (v := .bool false) rfl) ?_
 refine LW.nil hL rfl ?_
 refine NW.then ?_
 refine CW.seq ?_
 refine CW.seq ?_
 refine CW.region fun L hL => ?_
 refine LW.rd hL rfl (Wants.free rfl) rfl (Rd.assign (v := .int .i64 0) rfl) ?_
 refine LW.nil hL rfl ?_
 refine NW.then ?_
 refine CW.block ?_
 replace h := h b1 w1 ⟨hlo_b1, lt_of_heap (hB.at (i := 0) rfl)⟩ hc_w1
 obtain ⟨I1, m1, hI1, h⟩ := h
 refine CW.loop (S := Bool × Int) (fun s1 => [(1, .slice l1 l1n l1c), (2, .pointer (some (⟨b1, 0, none⟩ : Addr))), (4, .bool s1.1), (5, .int .i64 s1.2)]) (fun s1 w2 => I1 s1.1 s1.2 w2 ∧ Boxes w2 [(b1, [.int .i64 f1, .int .i64 f2, .int .i64 f3, .slice f4 f4n f4c, .slice f5 f5n f5c], 43)]) (fun s1 w2 => m1 s1.1 s1.2 w2) (false, 0) (by exact ⟨rfl, rfl, rfl, rfl, trivial⟩) ⟨hI1, hB⟩ (fun s1 w2 hI1 => ?_)
 obtain ⟨hI1, hB⟩ := hI1
 obtain ⟨x1, i1⟩ := s1; replace h := h x1 i1 w2 hI1
 refine CW.seq ?_
 refine CW.seq ?_
 refine CW.region fun L hL => ?_
 refine LW.rd hL rfl (Wants.free rfl) rfl (Rd.move (v := .int .i64 i1) rfl) ?_
 refine LW.rd hL rfl (Wants.free rfl) rfl (Rd.move (v := .slice l1 l1n l1c) rfl) ?_
 refine LW.rd hL rfl (Wants.free rfl) rfl (Rd.builtin (v := .int .i64 (l1n : Int)) rfl (fun _ _ => by kernel_rfl)) ?_
 refine LW.rd hL rfl (Wants.free rfl) rfl (Rd.bin (v := .bool (decide (i1 < (l1n : Int)))) rfl rfl (fun w => by kernel_rfl)) ?_
 refine LW.nil hL rfl ?_
 refine NW.then ?_
 refine CW.cond rfl (fun hb1 => ?_) (fun hb1 => ?_)
 ·replace h := h.1 hb1
  refine CW.skip ?_
  refine NW.then ?_
  refine CW.seq ?_
  refine CW.block ?_
  refine CW.seq ?_
  refine CW.seq ?_
  obtain ⟨w3, hw_w3⟩ : ∃ x, x = World.drew w2 := ⟨_, rfl⟩
  have hc_w3 := sil_drew (Chg.refl [] w2) hw_w3
  replace hB := hB.drew hw_w3
  refine CW.drawn (fun w => w = w3) 14 (by kernel_rfl) fun H hH => ?_
  rw [← hw_w3]
  refine HW.pure (i := 0) hH rfl (by kernel_rfl) (Wants.free rfl) rfl (fun _ => rfl) (Rd.move (v := .slice l1 l1n l1c) rfl) ?_
  refine HW.pure (i := 1) hH rfl (by kernel_rfl) (Wants.free rfl) rfl (fun _ => rfl) (Rd.move (v := .int .i64 i1) rfl) ?_
  obtain ⟨a1, he1, hi1, hi2, h⟩ := h
  refine HW.pure (i := 2) hH rfl (by kernel_rfl) (Wants.free rfl) rfl (fun _ => rfl) (Rd.iaS (q := a1) (sz := 3) (by rw [← he1]; rfl) rfl Tryz.underlying27 (by kernel_rfl) hi1 hi2) ?_
  refine HW.pure (i := 3) hH rfl (by kernel_rfl) (Wants.free rfl) rfl (fun _ => rfl) (Rd.fa (v := .pointer (some (a1.add (Int.toNat i1 * 3)))) rfl (fun _ => by kernel_rfl)) ?_
  replace h := h  w3  hc_w3
  obtain ⟨t1, t2, hc1, h⟩ := h
  refine HW.take (i := 4) hH rfl (by kernel_rfl) (by kernel_rfl) (Wants.free rfl) rfl (fun _ => rfl) (Rd.ldN (cs := [.int .i64 t1, .int .i64 t2]) rfl (by kernel_rfl) (by kernel_rfl) (cellsS hc1)) ?_
  refine HW.pure (i := 5) hH rfl (by kernel_rfl) (Wants.free rfl) rfl (fun _ => rfl) (Rd.build (v := .agg #[.int .i64 0, .int .i64 0]) rfl (fun _ => by kernel_rfl)) ?_
  refine HW.pure (i := 6) hH rfl (by kernel_rfl) (Wants.free rfl) rfl (fun _ => rfl) (Rd.bin (v := .bool (!((t1 == 0) && (t2 == 0)))) rfl rfl (fun w => neS_62 _ _ _ _ w)) ?_
  refine HW.pure (i := 7) hH rfl (by kernel_rfl) (Wants.free rfl) rfl (fun _ => rfl) (Rd.move (v := .bool (!((t1 == 0) && (t2 == 0)))) rfl) ?_
  obtain ⟨J1, hJ1, h1_J1, h0_J1⟩ := h
  suffices K1 : ∀ (b2 : Bool) (w4 : World), Boxes w4 [(b1, [.int .i64 f1, .int .i64 f2, .int .i64 f3, .slice f4 f4n f4c, .slice f5 f5n f5c], 43)] → J1 b2 w4 → H 0 #[true, true, true, true, true, true, true, true, true, true, true, true, true, true, true, true, true] [(1, .slice l1 l1n l1c), (2, .pointer (some (⟨b1, 0, none⟩ : Addr))), (4, .bool x1), (5, .int .i64 i1), (29, .bool b2)] w4 by
   rcases Bool.eq_false_or_eq_true (!((t1 == 0) && (t2 == 0))) with hb2 | hb2
   ·have h := h1_J1 hb2
    refine HW.take (i := 8) hH rfl (by kernel_rfl) (by kernel_rfl) (Wants.on rfl rfl rfl rfl rfl hb2) rfl (fun _ => rfl) (Rd.ldN (cs := [.int .i64 f1, .int .i64 f2, .int .i64 f3, .slice f4 f4n f4c, .slice f5 f5n f5c]) rfl (by kernel_rfl) (by kernel_rfl) (cellsS (box_cells (hB.at (i := 0) rfl) rfl))) ?_
    refine HW.pure (i := 9) hH rfl (by kernel_rfl) (Wants.on rfl rfl rfl rfl rfl hb2) rfl (fun _ => rfl) (Rd.move (v := .slice l1 l1n l1c) rfl) ?_
    refine HW.pure (i := 10) hH rfl (by kernel_rfl) (Wants.on rfl rfl rfl rfl rfl hb2) rfl (fun _ => rfl) (Rd.move (v := .int .i64 i1) rfl) ?_
    refine HW.pure (i := 11) hH rfl (by kernel_rfl) (Wants.on rfl rfl rfl rfl rfl hb2) rfl (fun _ => rfl) (Rd.iaS (q := a1) (sz := 3) (by rw [← he1]; rfl) rfl Tryz.underlying27 (by kernel_rfl) hi1 hi2) ?_
    refine HW.pure (i := 12) hH rfl (by kernel_rfl) (Wants.on rfl rfl rfl rfl rfl hb2) rfl (fun _ => rfl) (Rd.fa (v := .pointer (some (a1.add (Int.toNat i1 * 3)))) rfl (fun _ => by kernel_rfl)) ?_
    obtain ⟨t3, t4, hc2, h⟩ := h
    refine HW.take (i := 13) hH rfl (by kernel_rfl) (by kernel_rfl) (Wants.on rfl rfl rfl rfl rfl hb2) rfl (fun _ => rfl) (Rd.ldN (cs := [.int .i64 t3, .int .i64 t4]) rfl (by kernel_rfl) (by kernel_rfl) (cellsS hc2)) ?_
    refine HW.call (i := 14) hH (by kernel_rfl) rfl (Wants.on rfl rfl rfl rfl rfl hb2) rfl (Cl.fn (f := 49) rfl Tryz.func49 (by kernel_rfl) rfl) h (fun e w5 h_ => ?_)
    clear h
    obtain ⟨r2, rfl, h⟩ := h_
    obtain ⟨hsm1, h⟩ := h
    replace hB := Boxes.sameS hB hsm1 (by simp)
    refine ⟨_, rfl, (fun hc => by cases hc), ?_⟩
    refine HW.pure (i := 15) hH rfl (by kernel_rfl) (Wants.on rfl rfl rfl rfl rfl hb2) rfl (fun hc => by cases hc) (Rd.un (v := .bool (!r2)) rfl (fun _ => by kernel_rfl)) ?_
    refine HW.pure (i := 16) hH rfl (by kernel_rfl) (Wants.free rfl) rfl (fun hc => by cases hc) (Rd.pickT rfl hb2 rfl) ?_
    exact HW.sub hH (by exact ⟨rfl, rfl, rfl, rfl, rfl, trivial⟩) (K1 (!r2) w5 (by exact hB) h)
   ·have h := h0_J1 hb2
    refine HW.skip (i := 8) hH rfl (by kernel_rfl) (Skips.on rfl rfl rfl rfl rfl hb2) rfl (fun _ => rfl) ?_
    refine HW.skip (i := 9) hH rfl (by kernel_rfl) (Skips.on rfl rfl rfl rfl rfl hb2) rfl (fun _ => rfl) ?_
    refine HW.skip (i := 10) hH rfl (by kernel_rfl) (Skips.on rfl rfl rfl rfl rfl hb2) rfl (fun _ => rfl) ?_
    refine HW.skip (i := 11) hH rfl (by kernel_rfl) (Skips.on rfl rfl rfl rfl rfl hb2) rfl (fun _ => rfl) ?_
    refine HW.skip (i := 12) hH rfl (by kernel_rfl) (Skips.on rfl rfl rfl rfl rfl hb2) rfl (fun _ => rfl) ?_
    refine HW.skip (i := 13) hH rfl (by kernel_rfl) (Skips.on rfl rfl rfl rfl rfl hb2) rfl (fun _ => rfl) ?_
    refine HW.skip1 (i := 14) hH (by kernel_rfl) rfl (Skips.on rfl rfl rfl rfl rfl hb2) rfl (fun hc => by cases hc) ?_
    refine HW.skip (i := 15) hH rfl (by kernel_rfl) (Skips.on rfl rfl rfl rfl rfl hb2) rfl (fun hc => by cases hc) ?_
    refine HW.pure (i := 16) hH rfl (by kernel_rfl) (Wants.free rfl) rfl (fun hc => by cases hc) (Rd.pickF rfl hb2 rfl) ?_
    exact HW.sub hH (by exact ⟨rfl, rfl, rfl, rfl, rfl, trivial⟩) (K1 false w3 (by exact hB) h)
  intro b2 w4 hB h_
  have h := hJ1 b2 w4 h_; clear h_
  refine HW.done hH (by kernel_rfl) ?_
  refine NW.then ?_
  refine CW.cond rfl (fun hb3 => ?_) (fun hb3 => ?_)
  ·replace h := h.1 hb3
   refine CW.seq ?_
   refine CW.region fun L hL => ?_
   refine LW.rd hL rfl (Wants.free rfl) rfl (Rd.assign (v := .bool false) rfl) ?_
   refine LW.nil hL rfl ?_
   refine NW.then ?_
   refine CW.ret ?_
   refine RW.then ?_
   refine RW.block ?_
   refine RW.then ?_
   refine RW.then ?_
   refine RW.block ?_
   refine RW.then ?_
   exact res1 rfl rfl ⟨false, rfl, h⟩
  ·replace h := h.2 hb3
   refine CW.skip ?_
   refine NW.then ?_
   refine CW.seq ?_
   refine CW.region fun L hL => ?_
   refine LW.rd hL rfl (Wants.free rfl) rfl (Rd.assign (v := .int .i64 0) rfl) ?_
   refine LW.nil hL rfl ?_
   refine NW.then ?_
   refine CW.block ?_
   obtain ⟨I2, m2, hI2, h⟩ := h
   refine CW.loop (S := Bool × Int) (fun s2 => [(1, .slice l1 l1n l1c), (2, .pointer (some (⟨b1, 0, none⟩ : Addr))), (5, .int .i64 i1), (4, .bool s2.1), (6, .int .i64 s2.2)]) (fun s2 w6 => I2 s2.1 s2.2 w6 ∧ Boxes w6 [(b1, [.int .i64 f1, .int .i64 f2, .int .i64 f3, .slice f4 f4n f4c, .slice f5 f5n f5c], 43)]) (fun s2 w6 => m2 s2.1 s2.2 w6) (x1, 0) (by exact ⟨rfl, rfl, rfl, rfl, rfl, trivial⟩) ⟨hI2, hB⟩ (fun s2 w6 hI2 => ?_)
   obtain ⟨hI2, hB⟩ := hI2
   obtain ⟨x2, k1⟩ := s2; replace h := h x2 k1 w6 hI2
   refine CW.seq ?_
   refine CW.seq ?_
   refine CW.region fun L hL => ?_
   refine LW.rd hL rfl (Wants.free rfl) rfl (Rd.move (v := .int .i64 k1) rfl) ?_
   refine LW.rd hL rfl (Wants.free rfl) rfl (Rd.move (v := .slice l1 l1n l1c) rfl) ?_
   refine LW.rd hL rfl (Wants.free rfl) rfl (Rd.move (v := .int .i64 i1) rfl) ?_
   refine LW.rd hL rfl (Wants.free rfl) rfl (Rd.iaS (q := a1) (sz := 3) (by rw [← he1]; rfl) rfl Tryz.underlying27 (by kernel_rfl) hi1 hi2) ?_
   refine LW.rd hL rfl (Wants.free rfl) rfl (Rd.fa (v := .pointer (some ((a1.add (Int.toNat i1 * 3)).add 2))) rfl (fun _ => by kernel_rfl)) ?_
   obtain ⟨t5, t5n, t5c, hc3, h⟩ := h
   refine LW.rd hL rfl (Wants.free rfl) rfl (Rd.ld (v := .slice t5 t5n t5c) rfl (by kernel_rfl) (eqs hc3)) ?_
   refine LW.rd hL rfl (Wants.free rfl) rfl (Rd.builtin (v := .int .i64 (t5n : Int)) rfl (fun _ _ => by kernel_rfl)) ?_
   refine LW.rd hL rfl (Wants.free rfl) rfl (Rd.bin (v := .bool (decide (k1 < (t5n : Int)))) rfl rfl (fun w => by kernel_rfl)) ?_
   refine LW.nil hL rfl ?_
   refine NW.then ?_
   refine CW.cond rfl (fun hb4 => ?_) (fun hb4 => ?_)
   ·replace h := h.1 hb4
    refine CW.skip ?_
    refine NW.then ?_
    refine CW.seq ?_
    refine CW.block ?_
    refine CW.seq ?_
    obtain ⟨w7, hw_w7⟩ : ∃ x, x = World.drew w6 := ⟨_, rfl⟩
    have hc_w7 := sil_drew (Chg.refl [] w6) hw_w7
    replace hB := hB.drew hw_w7
    refine CW.drawn (fun w => w = w7) 9 (by kernel_rfl) fun H hH => ?_
    rw [← hw_w7]
    refine HW.take (i := 0) hH rfl (by kernel_rfl) (by kernel_rfl) (Wants.free rfl) rfl (fun _ => rfl) (Rd.ldN (cs := [.int .i64 f1, .int .i64 f2, .int .i64 f3, .slice f4 f4n f4c, .slice f5 f5n f5c]) rfl (by kernel_rfl) (by kernel_rfl) (cellsS (box_cells (hB.at (i := 0) rfl) rfl))) ?_
    refine HW.pure (i := 1) hH rfl (by kernel_rfl) (Wants.free rfl) rfl (fun _ => rfl) (Rd.move (v := .slice l1 l1n l1c) rfl) ?_
    refine HW.pure (i := 2) hH rfl (by kernel_rfl) (Wants.free rfl) rfl (fun _ => rfl) (Rd.move (v := .int .i64 i1) rfl) ?_
    refine HW.pure (i := 3) hH rfl (by kernel_rfl) (Wants.free rfl) rfl (fun _ => rfl) (Rd.iaS (q := a1) (sz := 3) (by rw [← he1]; rfl) rfl Tryz.underlying27 (by kernel_rfl) hi1 hi2) ?_
    refine HW.pure (i := 4) hH rfl (by kernel_rfl) (Wants.free rfl) rfl (fun _ => rfl) (Rd.fa (v := .pointer (some ((a1.add (Int.toNat i1 * 3)).add 2))) rfl (fun _ => by kernel_rfl)) ?_
    replace h := h  w7  hc_w7
    obtain ⟨t6, t6n, t6c, hc4, h⟩ := h
    refine HW.take (i := 5) hH rfl (by kernel_rfl) (by kernel_rfl) (Wants.free rfl) rfl (fun _ => rfl) (Rd.ld (v := .slice t6 t6n t6c) rfl (by kernel_rfl) (eqs hc4)) ?_
    refine HW.pure (i := 6) hH rfl (by kernel_rfl) (Wants.free rfl) rfl (fun _ => rfl) (Rd.move (v := .int .i64 k1) rfl) ?_
    obtain ⟨a2, he2, hi9, hi10, h⟩ := h
    refine HW.pure (i := 7) hH rfl (by kernel_rfl) (Wants.free rfl) rfl (fun _ => rfl) (Rd.iaS (q := a2) (sz := 2) (by rw [← he2]; rfl) rfl Tryz.underlying63 (by kernel_rfl) hi9 hi10) ?_
    obtain ⟨t7, t8, hc5, h⟩ := h
    refine HW.take (i := 8) hH rfl (by kernel_rfl) (by kernel_rfl) (Wants.free rfl) rfl (fun _ => rfl) (Rd.ldN (cs := [.int .i64 t7, .int .i64 t8]) rfl (by kernel_rfl) (by kernel_rfl) (cellsS hc5)) ?_
    refine HW.call (i := 9) hH (by kernel_rfl) rfl (Wants.free rfl) rfl (Cl.fn (f := 49) rfl Tryz.func49 (by kernel_rfl) rfl) h (fun e w8 h_ => ?_)
    clear h
    obtain ⟨r3, rfl, h⟩ := h_
    obtain ⟨hsm2, h⟩ := h
    replace hB := Boxes.sameS hB hsm2 (by simp)
    refine ⟨_, rfl, (fun hc => by cases hc), ?_⟩
    refine HW.pure (i := 10) hH rfl (by kernel_rfl) (Wants.free rfl) rfl (fun hc => by cases hc) (Rd.un (v := .bool (!r3)) rfl (fun _ => by kernel_rfl)) ?_
    refine HW.done hH (by kernel_rfl) ?_
    refine NW.then ?_
    refine CW.cond rfl (fun hb5 => ?_) (fun hb5 => ?_)
    ·replace h := h.1 hb5
     refine CW.seq ?_
     refine CW.region fun L hL => ?_
     refine LW.rd hL rfl (Wants.free rfl) rfl (Rd.assign (v := .bool false) rfl) ?_
     refine LW.nil hL rfl ?_
     refine NW.then ?_
     refine CW.ret ?_
     refine RW.block ?_
     refine RW.then ?_
     refine RW.then ?_
     refine RW.block ?_
     refine RW.block ?_
     refine RW.then ?_
     refine RW.then ?_
     refine RW.block ?_
     refine RW.then ?_
     exact res1 rfl rfl ⟨false, rfl, h⟩
    ·replace h := h.2 hb5
     refine CW.skip ?_
     refine NW.block ?_
     refine NW.then ?_
     refine CW.region fun L hL => ?_
     refine LW.rd hL rfl (Wants.free rfl) rfl (Rd.move (v := .int .i64 k1) rfl) ?_
     refine LW.rd hL rfl (Wants.free rfl) rfl (Rd.bin (v := .int .i64 (IntKind.wrap .i64 (k1 + 1))) rfl rfl (fun w => by kernel_rfl)) ?_
     refine LW.rd hL rfl (Wants.free rfl) rfl (Rd.assign (v := .int .i64 (IntKind.wrap .i64 (k1 + 1))) rfl) ?_
     refine LW.nil hL rfl ?_
     exact NW.loop (S := Bool × Int) (Ek := fun s2 => [(1, .slice l1 l1n l1c), (2, .pointer (some (⟨b1, 0, none⟩ : Addr))), (5, .int .i64 i1), (4, .bool s2.1), (6, .int .i64 s2.2)]) (x2, IntKind.wrap .i64 (k1 + 1)) (by exact ⟨rfl, rfl, rfl, rfl, rfl, trivial⟩) ⟨⟨h.1, hB⟩, h.2⟩
   ·replace h := h.2 hb4
    refine CW.exit ?_
    refine XW.then ?_
    refine XW.then ?_
    refine XW.hit ?_
    refine NW.block ?_
    refine NW.then ?_
    refine CW.region fun L hL => ?_
    refine LW.rd hL rfl (Wants.free rfl) rfl (Rd.move (v := .int .i64 i1) rfl) ?_
    refine LW.rd hL rfl (Wants.free rfl) rfl (Rd.bin (v := .int .i64 (IntKind.wrap .i64 (i1 + 1))) rfl rfl (fun w => by kernel_rfl)) ?_
    refine LW.rd hL rfl (Wants.free rfl) rfl (Rd.assign (v := .int .i64 (IntKind.wrap .i64 (i1 + 1))) rfl) ?_
    refine LW.nil hL rfl ?_
    exact NW.loop (S := Bool × Int) (Ek := fun s1 => [(1, .slice l1 l1n l1c), (2, .pointer (some (⟨b1, 0, none⟩ : Addr))), (4, .bool s1.1), (5, .int .i64 s1.2)]) (x2, IntKind.wrap .i64 (i1 + 1)) (by exact ⟨rfl, rfl, rfl, rfl, trivial⟩) ⟨⟨h.1, hB⟩, h.2⟩
 ·replace h := h.2 hb1
  refine CW.exit ?_
  refine XW.then ?_
  refine XW.then ?_
  refine XW.hit ?_
  refine NW.then ?_
  refine CW.seq ?_
  refine CW.region fun L hL => ?_
  refine LW.rd hL rfl (Wants.free rfl) rfl (Rd.assign (v := .bool true) rfl) ?_
  refine LW.nil hL rfl ?_
  refine NW.then ?_
  refine CW.ret ?_
  exact res1 rfl rfl ⟨true, rfl, h⟩
/- (pomander/pomanderref12.Flow).together -/
def W_pomanderref12_Flow_together (f1 : Int) (f2 : Int) (f3 : Int) (f4 : Option Addr) (f4n : Nat) (f4c : Nat) (f5 : Option Addr) (f5n : Nat) (f5c : Nat) (l1 : Option Addr) (l1n : Nat) (l1c : Nat) (w : World) (R : Int → World → Prop) : Prop :=
 ∀ (b1 : Nat) (w1 : World), (w.heap.size ≤ b1 ∧ b1 < w1.heap.size) → Chg [] w w1 → (∃ (I1 : Int → Int → World → Prop) (m1 : Int → Int → World → Nat), I1 0 0 w1 ∧ ∀ (set1 : Int) (i1 : Int) (w2 : World), I1 set1 i1 w2 → ((decide (i1 < (l1n : Int))) = true → ∀ (w3 : World), Chg [] w2 w3 → (∃ a1 : Addr, l1 = some a1 ∧ (0 : Int) ≤ i1 ∧ i1 < (l1n : Int) ∧ (∃ (t1 : Int) (t2 : Int), CellsAt w3 (a1.add (Int.toNat i1 * 2)) 0 [.int .i64 t1, .int .i64 t2] ∧ (Calls Tryz.prog 86 #[.agg #[.int .i64 f1, .int .i64 f2, .int .i64 f3, .slice f4 f4n f4c, .slice f5 f5n f5c], .agg #[.int .i64 t1, .int .i64 t2]] w3 fun e w4 => ∃ (r2 : Int), e = .returned (.int .u32 r2) ∧ ((CellsAt w4 (a1.add (Int.toNat i1 * 2)) 0 [.int .i64 t1, .int .i64 t2]) ∧ (Same w3 w4 [b1] ∧ (Calls Tryz.prog 85 #[.int .u32 set1, .int .u32 r2] w4 fun e w5 => ∃ (r3 : Int), e = .returned (.int .u32 r3) ∧ (Same w4 w5 [b1] ∧ ((I1 r3 (IntKind.wrap .i64 (i1 + 1)) w5 ∧ m1 r3 (IntKind.wrap .i64 (i1 + 1)) w5 < m1 set1 i1 w2)))))))))) ∧ ((decide (i1 < (l1n : Int))) = false → R set1 w2))
set_option maxRecDepth 100000 in
theorem go_pomanderref12_Flow_together (f1 : Int) (f2 : Int) (f3 : Int) (f4 : Option Addr) (f4n : Nat) (f4c : Nat) (f5 : Option Addr) (f5n : Nat) (f5c : Nat) (l1 : Option Addr) (l1n : Nat) (l1c : Nat) (w : World) (R : Int → World → Prop) (h : W_pomanderref12_Flow_together f1 f2 f3 f4 f4n f4c f5 f5n f5c l1 l1n l1c w R) : Calls Tryz.prog 52 #[.agg #[.int .i64 f1, .int .i64 f2, .int .i64 f3, .slice f4 f4n f4c, .slice f5 f5n f5c], .slice l1 l1n l1c] w (fun e w' => ∃ (r1 : Int), e = .returned (.int .u32 r1) ∧ R r1 w') := by
 unfold W_pomanderref12_Flow_together at h
 refine enter (N := 22) Tryz.func52 rfl rfl ?_
 refine CW.seq ?_
 refine CW.region fun L hL => ?_
 obtain ⟨b1, hb_b1⟩ : ∃ b1, b1 = World.size w := ⟨_, rfl⟩
 obtain ⟨w1, hw_w1⟩ : ∃ w1, w1 = World.alloc w (.cells #[.int .i64 f1, .int .i64 f2, .int .i64 f3, .slice f4 f4n f4c, .slice f5 f5n f5c] 43) := ⟨_, rfl⟩
 refine LW.val hL rfl (Wants.free rfl) rfl (boxE hb_b1 hw_w1 (Vl.box (v := .agg #[.int .i64 f1, .int .i64 f2, .int .i64 f3, .slice f4 f4n f4c, .slice f5 f5n f5c]) rfl)) ?_
 have hB := Boxes.alloc (cs := [.int .i64 f1, .int .i64 f2, .int .i64 f3, .slice f4 f4n f4c, .slice f5 f5n f5c]) (T := 43) (Boxes.nil w) hb_b1 hw_w1
 have hlo_b1 := sil_lo (Chg.refl [] w) hb_b1
 have hc_w1 := sil_alloc (Chg.refl [] w) hw_w1
 refine LW.rd hL rfl (Wants.free rfl) rfl (Rd.assign (v := .int .u32 0) rfl) ?_
 refine LW.nil hL rfl ?_
 refine NW.then ?_
 refine CW.seq ?_
 refine CW.region fun L hL => ?_
 refine LW.rd hL rfl (Wants.free rfl) rfl (Rd.assign (v := .int .u32 0) rfl) ?_
 refine LW.nil hL rfl ?_
 refine NW.then ?_
 refine CW.seq ?_
 refine CW.seq ?_
 refine CW.region fun L hL => ?_
 refine LW.rd hL rfl (Wants.free rfl) rfl (Rd.assign (v := .int .i64 0) rfl) ?_
 refine LW.nil hL rfl ?_
 refine NW.then ?_
 refine CW.block ?_
 replace h := h b1 w1 ⟨hlo_b1, lt_of_heap (hB.at (i := 0) rfl)⟩ hc_w1
 obtain ⟨I1, m1, hI1, h⟩ := h
 refine CW.loop (S := Int × Int) (fun s1 => [(1, .slice l1 l1n l1c), (2, .pointer (some (⟨b1, 0, none⟩ : Addr))), (4, .int .u32 0), (5, .int .u32 s1.1), (6, .int .i64 s1.2)]) (fun s1 w2 => I1 s1.1 s1.2 w2 ∧ Boxes w2 [(b1, [.int .i64 f1, .int .i64 f2, .int .i64 f3, .slice f4 f4n f4c, .slice f5 f5n f5c], 43)]) (fun s1 w2 => m1 s1.1 s1.2 w2) (0, 0) (by exact ⟨rfl, rfl, rfl, rfl, rfl, trivial⟩) ⟨hI1, hB⟩ (fun s1 w2 hI1 => ?_)
 obtain ⟨hI1, hB⟩ := hI1
 obtain ⟨set1, i1⟩ := s1; replace h := h set1 i1 w2 hI1
 refine CW.seq ?_
 refine CW.seq ?_
 refine CW.region fun L hL => ?_
 refine LW.rd hL rfl (Wants.free rfl) rfl (Rd.move (v := .int .i64 i1) rfl) ?_
 refine LW.rd hL rfl (Wants.free rfl) rfl (Rd.move (v := .slice l1 l1n l1c) rfl) ?_
 refine LW.rd hL rfl (Wants.free rfl) rfl (Rd.builtin (v := .int .i64 (l1n : Int)) rfl (fun _ _ => by kernel_rfl)) ?_
 refine LW.rd hL rfl (Wants.free rfl) rfl (Rd.bin (v := .bool (decide (i1 < (l1n : Int)))) rfl rfl (fun w => by kernel_rfl)) ?_
 refine LW.nil hL rfl ?_
 refine NW.then ?_
 refine CW.cond rfl (fun hb1 => ?_) (fun hb1 => ?_)
 ·replace h := h.1 hb1
  refine CW.skip ?_
  refine NW.then ?_
  refine CW.seq ?_
  refine CW.block ?_
  obtain ⟨w3, hw_w3⟩ : ∃ x, x = World.drew w2 := ⟨_, rfl⟩
  have hc_w3 := sil_drew (Chg.refl [] w2) hw_w3
  replace hB := hB.drew hw_w3
  replace h := h  w3  hc_w3
  obtain ⟨a1, he1, hi1, hi2, h⟩ := h
  obtain ⟨t1, t2, hc1, h⟩ := h
  refine CW.drawn (fun w => CellsAt w (a1.add (Int.toNat i1 * 2)) 0 [.int .i64 t1, .int .i64 t2] ∧ Boxes w [(b1, [.int .i64 f1, .int .i64 f2, .int .i64 f3, .slice f4 f4n f4c, .slice f5 f5n f5c], 43)]) 7 (by kernel_rfl) fun H hH => ?_
  rw [← hw_w3]
  have hS1 : CellsAt w3 (a1.add (Int.toNat i1 * 2)) 0 [.int .i64 t1, .int .i64 t2] ∧ Boxes w3 [(b1, [.int .i64 f1, .int .i64 f2, .int .i64 f3, .slice f4 f4n f4c, .slice f5 f5n f5c], 43)] := ⟨hc1, hB⟩
  refine HW.pure (i := 0) hH rfl (by kernel_rfl) (Wants.free rfl) rfl (fun _ => hS1) (Rd.move (v := .int .u32 set1) rfl) ?_
  refine HW.take (i := 1) hH rfl (by kernel_rfl) (by kernel_rfl) (Wants.free rfl) rfl (fun _ => hS1) (Rd.ldN (cs := [.int .i64 f1, .int .i64 f2, .int .i64 f3, .slice f4 f4n f4c, .slice f5 f5n f5c]) rfl (by kernel_rfl) (by kernel_rfl) (fun w h => cellsAt_get (box_cells (Boxes.at (i := 0) h.2 rfl) rfl))) ?_
  refine HW.pure (i := 2) hH rfl (by kernel_rfl) (Wants.free rfl) rfl (fun _ => hS1) (Rd.move (v := .slice l1 l1n l1c) rfl) ?_
  refine HW.pure (i := 3) hH rfl (by kernel_rfl) (Wants.free rfl) rfl (fun _ => hS1) (Rd.move (v := .int .i64 i1) rfl) ?_
  refine HW.pure (i := 4) hH rfl (by kernel_rfl) (Wants.free rfl) rfl (fun _ => hS1) (Rd.iaS (q := a1) (sz := 2) (by rw [← he1]; rfl) rfl Tryz.underlying63 (by kernel_rfl) hi1 hi2) ?_
  refine HW.take (i := 5) hH rfl (by kernel_rfl) (by kernel_rfl) (Wants.free rfl) rfl (fun _ => hS1) (Rd.ldN (cs := [.int .i64 t1, .int .i64 t2]) rfl (by kernel_rfl) (by kernel_rfl) (fun w h => cellsAt_get h.1)) ?_
  refine HW.call (i := 6) hH (by kernel_rfl) rfl (Wants.free rfl) rfl (Cl.fn (f := 86) rfl Tryz.func86 (by kernel_rfl) rfl) h (fun e w4 h_ => ?_)
  clear h
  obtain ⟨r2, rfl, hS2, h⟩ := h_
  obtain ⟨hsm1, h⟩ := h
  replace hB := Boxes.sameS hB hsm1 (by simp)
  have hS3 := (⟨hS2, hB⟩ : CellsAt w4 (a1.add (Int.toNat i1 * 2)) 0 [.int .i64 t1, .int .i64 t2] ∧ Boxes w4 [(b1, [.int .i64 f1, .int .i64 f2, .int .i64 f3, .slice f4 f4n f4c, .slice f5 f5n f5c], 43)])
  refine ⟨_, rfl, (fun _ => hS3), ?_⟩
  refine HW.call (i := 7) hH (by kernel_rfl) rfl (Wants.free rfl) rfl (Cl.fn (f := 85) rfl Tryz.func85 (by kernel_rfl) rfl) h (fun e w5 h_ => ?_)
  clear h
  obtain ⟨r3, rfl, h⟩ := h_
  obtain ⟨hsm2, h⟩ := h
  replace hB := Boxes.sameS hB hsm2 (by simp)
  refine ⟨_, rfl, (fun hc => by cases hc), ?_⟩
  refine HW.pure (i := 8) hH rfl (by kernel_rfl) (Wants.free rfl) rfl (fun hc => by cases hc) (Rd.assign (v := .int .u32 r3) rfl) ?_
  refine HW.done hH (by kernel_rfl) ?_
  refine NW.block ?_
  refine NW.then ?_
  refine CW.region fun L hL => ?_
  refine LW.rd hL rfl (Wants.free rfl) rfl (Rd.move (v := .int .i64 i1) rfl) ?_
  refine LW.rd hL rfl (Wants.free rfl) rfl (Rd.bin (v := .int .i64 (IntKind.wrap .i64 (i1 + 1))) rfl rfl (fun w => by kernel_rfl)) ?_
  refine LW.rd hL rfl (Wants.free rfl) rfl (Rd.assign (v := .int .i64 (IntKind.wrap .i64 (i1 + 1))) rfl) ?_
  refine LW.nil hL rfl ?_
  exact NW.loop (S := Int × Int) (Ek := fun s1 => [(1, .slice l1 l1n l1c), (2, .pointer (some (⟨b1, 0, none⟩ : Addr))), (4, .int .u32 0), (5, .int .u32 s1.1), (6, .int .i64 s1.2)]) (r3, IntKind.wrap .i64 (i1 + 1)) (by exact ⟨rfl, rfl, rfl, rfl, rfl, trivial⟩) ⟨⟨h.1, hB⟩, h.2⟩
 ·replace h := h.2 hb1
  refine CW.exit ?_
  refine XW.then ?_
  refine XW.then ?_
  refine XW.hit ?_
  refine NW.then ?_
  refine CW.seq ?_
  refine CW.region fun L hL => ?_
  refine LW.rd hL rfl (Wants.free rfl) rfl (Rd.move (v := .int .u32 set1) rfl) ?_
  refine LW.rd hL rfl (Wants.free rfl) rfl (Rd.assign (v := .int .u32 set1) rfl) ?_
  refine LW.nil hL rfl ?_
  refine NW.then ?_
  refine CW.ret ?_
  exact res1 rfl rfl ⟨set1, rfl, h⟩
/- (pomander/pomanderref12.Flow).Decides -/
def W_pomanderref12_Flow_Decides (f1 : Int) (f2 : Int) (f3 : Int) (f4 : Option Addr) (f4n : Nat) (f4c : Nat) (f5 : Option Addr) (f5n : Nat) (f5c : Nat) (l1 : Option Addr) (l1n : Nat) (l1c : Nat) (w : World) (R : Int → World → Prop) : Prop :=
 ∀ (b1 : Nat) (w1 : World), (w.heap.size ≤ b1 ∧ b1 < w1.heap.size) → Chg [] w w1 → (∃ (I1 : Int → Int → World → Prop) (m1 : Int → Int → World → Nat), I1 0 0 w1 ∧ ∀ (set1 : Int) (i1 : Int) (w2 : World), I1 set1 i1 w2 → ((decide (i1 < (l1n : Int))) = true → ∃ J1 : Int → World → Prop, (∀ (set2 : Int) (w3 : World), J1 set2 w3 → (I1 set2 (IntKind.wrap .i64 (i1 + 1)) w3 ∧ m1 set2 (IntKind.wrap .i64 (i1 + 1)) w3 < m1 set1 i1 w2)) ∧ (∃ a1 : Addr, l1 = some a1 ∧ (0 : Int) ≤ i1 ∧ i1 < (l1n : Int) ∧ (∃ (t1 : Int) (t2 : Int), CellsAt w2 (a1.add (Int.toNat i1 * 3)) 0 [.int .i64 t1, .int .i64 t2] ∧ ((((t1 == 0) && (t2 == 0)) = true → ∀ (w4 : World), Chg [] w2 w4 → (∃ (t3 : Option Addr) (t3n : Nat) (t3c : Nat), w4.cell? ((a1.add (Int.toNat i1 * 3)).add 2) = some (.slice t3 t3n t3c) ∧ (Calls Tryz.prog 52 #[.agg #[.int .i64 f1, .int .i64 f2, .int .i64 f3, .slice f4 f4n f4c, .slice f5 f5n f5c], .slice t3 t3n t3c] w4 fun e w5 => ∃ (r2 : Int), e = .returned (.int .u32 r2) ∧ ((w5.cell? ((a1.add (Int.toNat i1 * 3)).add 2) = some (.slice t3 t3n t3c)) ∧ (Same w4 w5 [b1] ∧ (Calls Tryz.prog 85 #[.int .u32 set1, .int .u32 r2] w5 fun e w6 => ∃ (r3 : Int), e = .returned (.int .u32 r3) ∧ (Same w5 w6 [b1] ∧ (J1 r3 w6)))))))) ∧ (((t1 == 0) && (t2 == 0)) = false → J1 set1 w2))))) ∧ ((decide (i1 < (l1n : Int))) = false → R set1 w2))
set_option maxRecDepth 100000 in
theorem go_pomanderref12_Flow_Decides (f1 : Int) (f2 : Int) (f3 : Int) (f4 : Option Addr) (f4n : Nat) (f4c : Nat) (f5 : Option Addr) (f5n : Nat) (f5c : Nat) (l1 : Option Addr) (l1n : Nat) (l1c : Nat) (w : World) (R : Int → World → Prop) (h : W_pomanderref12_Flow_Decides f1 f2 f3 f4 f4n f4c f5 f5n f5c l1 l1n l1c w R) : Calls Tryz.prog 51 #[.agg #[.int .i64 f1, .int .i64 f2, .int .i64 f3, .slice f4 f4n f4c, .slice f5 f5n f5c], .slice l1 l1n l1c] w (fun e w' => ∃ (r1 : Int), e = .returned (.int .u32 r1) ∧ R r1 w') := by
 unfold W_pomanderref12_Flow_Decides at h
 refine enter (N := 30) Tryz.func51 rfl rfl ?_
 refine CW.seq ?_
 refine CW.region fun L hL => ?_
 obtain ⟨b1, hb_b1⟩ : ∃ b1, b1 = World.size w := ⟨_, rfl⟩
 obtain ⟨w1, hw_w1⟩ : ∃ w1, w1 = World.alloc w (.cells #[.int .i64 f1, .int .i64 f2, .int .i64 f3, .slice f4 f4n f4c, .slice f5 f5n f5c] 43) := ⟨_, rfl⟩
 refine LW.val hL rfl (Wants.free rfl) rfl (boxE hb_b1 hw_w1 (Vl.box (v := .agg #[.int .i64 f1, .int .i64 f2, .int .i64 f3, .slice f4 f4n f4c, .slice f5 f5n f5c]) rfl)) ?_
 have hB := Boxes.alloc (cs := [.int .i64 f1, .int .i64 f2, .int .i64 f3, .slice f4 f4n f4c, .slice f5 f5n f5c]) (T := 43) (Boxes.nil w) hb_b1 hw_w1
 have hlo_b1 := sil_lo (Chg.refl [] w) hb_b1
 have hc_w1 := sil_alloc (Chg.refl [] w) hw_w1
 refine LW.rd hL rfl (Wants.free rfl) rfl (Rd.assign (v := .int .u32 0) rfl) ?_
 refine LW.nil hL rfl ?_
 refine NW.then ?_
 refine CW.seq ?_
 refine CW.region fun L hL => ?_
 refine LW.rd hL rfl (Wants.free rfl) rfl (Rd.assign (v := .int .u32 0) rfl) ?_
 refine LW.nil hL rfl ?_
 refine NW.then ?_
 refine CW.seq ?_
 refine CW.seq ?_
 refine CW.region fun L hL => ?_
 refine LW.rd hL rfl (Wants.free rfl) rfl (Rd.assign (v := .int .i64 0) rfl) ?_
 refine LW.nil hL rfl ?_
 refine NW.then ?_
 refine CW.block ?_
 replace h := h b1 w1 ⟨hlo_b1, lt_of_heap (hB.at (i := 0) rfl)⟩ hc_w1
 obtain ⟨I1, m1, hI1, h⟩ := h
 refine CW.loop (S := Int × Int) (fun s1 => [(1, .slice l1 l1n l1c), (2, .pointer (some (⟨b1, 0, none⟩ : Addr))), (4, .int .u32 0), (5, .int .u32 s1.1), (6, .int .i64 s1.2)]) (fun s1 w2 => I1 s1.1 s1.2 w2 ∧ Boxes w2 [(b1, [.int .i64 f1, .int .i64 f2, .int .i64 f3, .slice f4 f4n f4c, .slice f5 f5n f5c], 43)]) (fun s1 w2 => m1 s1.1 s1.2 w2) (0, 0) (by exact ⟨rfl, rfl, rfl, rfl, rfl, trivial⟩) ⟨hI1, hB⟩ (fun s1 w2 hI1 => ?_)
 obtain ⟨hI1, hB⟩ := hI1
 obtain ⟨set1, i1⟩ := s1; replace h := h set1 i1 w2 hI1
 refine CW.seq ?_
 refine CW.seq ?_
 refine CW.region fun L hL => ?_
 refine LW.rd hL rfl (Wants.free rfl) rfl (Rd.move (v := .int .i64 i1) rfl) ?_
 refine LW.rd hL rfl (Wants.free rfl) rfl (Rd.move (v := .slice l1 l1n l1c) rfl) ?_
 refine LW.rd hL rfl (Wants.free rfl) rfl (Rd.builtin (v := .int .i64 (l1n : Int)) rfl (fun _ _ => by kernel_rfl)) ?_
 refine LW.rd hL rfl (Wants.free rfl) rfl (Rd.bin (v := .bool (decide (i1 < (l1n : Int)))) rfl rfl (fun w => by kernel_rfl)) ?_
 refine LW.nil hL rfl ?_
 refine NW.then ?_
 refine CW.cond rfl (fun hb1 => ?_) (fun hb1 => ?_)
 ·replace h := h.1 hb1
  refine CW.skip ?_
  refine NW.then ?_
  obtain ⟨J1, hJ1, h⟩ := h
  refine CW.cut (S := Int) (fun set2 => [(1, .slice l1 l1n l1c), (2, .pointer (some (⟨b1, 0, none⟩ : Addr))), (4, .int .u32 0), (6, .int .i64 i1), (5, .int .u32 set2)]) (fun set2 w3 => J1 set2 w3 ∧ Boxes w3 [(b1, [.int .i64 f1, .int .i64 f2, .int .i64 f3, .slice f4 f4n f4c, .slice f5 f5n f5c], 43)]) (fun set2 w3 h_ => ?_) ?_
  ·obtain ⟨h_, hB⟩ := h_; replace h := hJ1 set2 w3 h_; clear h_
   refine CW.region fun L hL => ?_
   refine LW.rd hL rfl (Wants.free rfl) rfl (Rd.move (v := .int .i64 i1) rfl) ?_
   refine LW.rd hL rfl (Wants.free rfl) rfl (Rd.bin (v := .int .i64 (IntKind.wrap .i64 (i1 + 1))) rfl rfl (fun w => by kernel_rfl)) ?_
   refine LW.rd hL rfl (Wants.free rfl) rfl (Rd.assign (v := .int .i64 (IntKind.wrap .i64 (i1 + 1))) rfl) ?_
   refine LW.nil hL rfl ?_
   exact NW.loop (S := Int × Int) (Ek := fun s1 => [(1, .slice l1 l1n l1c), (2, .pointer (some (⟨b1, 0, none⟩ : Addr))), (4, .int .u32 0), (5, .int .u32 s1.1), (6, .int .i64 s1.2)]) (set2, IntKind.wrap .i64 (i1 + 1)) (by exact ⟨rfl, rfl, rfl, rfl, rfl, trivial⟩) ⟨⟨h.1, hB⟩, h.2⟩
  ·skip
   refine CW.block ?_
   refine CW.seq ?_
   refine CW.region fun L hL => ?_
   refine LW.rd hL rfl (Wants.free rfl) rfl (Rd.move (v := .slice l1 l1n l1c) rfl) ?_
   refine LW.rd hL rfl (Wants.free rfl) rfl (Rd.move (v := .int .i64 i1) rfl) ?_
   obtain ⟨a1, he1, hi1, hi2, h⟩ := h
   refine LW.rd hL rfl (Wants.free rfl) rfl (Rd.iaS (q := a1) (sz := 3) (by rw [← he1]; rfl) rfl Tryz.underlying27 (by kernel_rfl) hi1 hi2) ?_
   refine LW.rd hL rfl (Wants.free rfl) rfl (Rd.fa (v := .pointer (some (a1.add (Int.toNat i1 * 3)))) rfl (fun _ => by kernel_rfl)) ?_
   obtain ⟨t1, t2, hc1, h⟩ := h
   refine LW.rd hL rfl (Wants.free rfl) rfl (Rd.ldN (cs := [.int .i64 t1, .int .i64 t2]) rfl (by kernel_rfl) (by kernel_rfl) (cellsS hc1)) ?_
   refine LW.rd hL rfl (Wants.free rfl) rfl (Rd.build (v := .agg #[.int .i64 0, .int .i64 0]) rfl (fun _ => by kernel_rfl)) ?_
   refine LW.rd hL rfl (Wants.free rfl) rfl (Rd.bin (v := .bool ((t1 == 0) && (t2 == 0))) rfl rfl (fun w => eqS_62 _ _ _ _ w)) ?_
   refine LW.nil hL rfl ?_
   refine NW.then ?_
   refine CW.cond rfl (fun hb2 => ?_) (fun hb2 => ?_)
   ·replace h := h.1 hb2
    obtain ⟨w4, hw_w4⟩ : ∃ x, x = World.drew w2 := ⟨_, rfl⟩
    have hc_w4 := sil_drew (Chg.refl [] w2) hw_w4
    replace hB := hB.drew hw_w4
    replace h := h  w4  hc_w4
    obtain ⟨t3, t3n, t3c, hc2, h⟩ := h
    refine CW.drawn (fun w => w.cell? ((a1.add (Int.toNat i1 * 3)).add 2) = some (.slice t3 t3n t3c) ∧ Boxes w [(b1, [.int .i64 f1, .int .i64 f2, .int .i64 f3, .slice f4 f4n f4c, .slice f5 f5n f5c], 43)]) 8 (by kernel_rfl) fun H hH => ?_
    rw [← hw_w4]
    have hS1 : w4.cell? ((a1.add (Int.toNat i1 * 3)).add 2) = some (.slice t3 t3n t3c) ∧ Boxes w4 [(b1, [.int .i64 f1, .int .i64 f2, .int .i64 f3, .slice f4 f4n f4c, .slice f5 f5n f5c], 43)] := ⟨hc2, hB⟩
    refine HW.pure (i := 0) hH rfl (by kernel_rfl) (Wants.free rfl) rfl (fun _ => hS1) (Rd.move (v := .int .u32 set1) rfl) ?_
    refine HW.take (i := 1) hH rfl (by kernel_rfl) (by kernel_rfl) (Wants.free rfl) rfl (fun _ => hS1) (Rd.ldN (cs := [.int .i64 f1, .int .i64 f2, .int .i64 f3, .slice f4 f4n f4c, .slice f5 f5n f5c]) rfl (by kernel_rfl) (by kernel_rfl) (fun w h => cellsAt_get (box_cells (Boxes.at (i := 0) h.2 rfl) rfl))) ?_
    refine HW.pure (i := 2) hH rfl (by kernel_rfl) (Wants.free rfl) rfl (fun _ => hS1) (Rd.move (v := .slice l1 l1n l1c) rfl) ?_
    refine HW.pure (i := 3) hH rfl (by kernel_rfl) (Wants.free rfl) rfl (fun _ => hS1) (Rd.move (v := .int .i64 i1) rfl) ?_
    refine HW.pure (i := 4) hH rfl (by kernel_rfl) (Wants.free rfl) rfl (fun _ => hS1) (Rd.iaS (q := a1) (sz := 3) (by rw [← he1]; rfl) rfl Tryz.underlying27 (by kernel_rfl) hi1 hi2) ?_
    refine HW.pure (i := 5) hH rfl (by kernel_rfl) (Wants.free rfl) rfl (fun _ => hS1) (Rd.fa (v := .pointer (some ((a1.add (Int.toNat i1 * 3)).add 2))) rfl (fun _ => by kernel_rfl)) ?_
    refine HW.take (i := 6) hH rfl (by kernel_rfl) (by kernel_rfl) (Wants.free rfl) rfl (fun _ => hS1) (Rd.ld (v := .slice t3 t3n t3c) rfl (by kernel_rfl) (fun w h => h.1)) ?_
    refine HW.call (i := 7) hH (by kernel_rfl) rfl (Wants.free rfl) rfl (Cl.fn (f := 52) rfl Tryz.func52 (by kernel_rfl) rfl) h (fun e w5 h_ => ?_)
    clear h
    obtain ⟨r2, rfl, hS2, h⟩ := h_
    obtain ⟨hsm1, h⟩ := h
    replace hB := Boxes.sameS hB hsm1 (by simp)
    have hS3 := (⟨hS2, hB⟩ : w5.cell? ((a1.add (Int.toNat i1 * 3)).add 2) = some (.slice t3 t3n t3c) ∧ Boxes w5 [(b1, [.int .i64 f1, .int .i64 f2, .int .i64 f3, .slice f4 f4n f4c, .slice f5 f5n f5c], 43)])
    refine ⟨_, rfl, (fun _ => hS3), ?_⟩
    refine HW.call (i := 8) hH (by kernel_rfl) rfl (Wants.free rfl) rfl (Cl.fn (f := 85) rfl Tryz.func85 (by kernel_rfl) rfl) h (fun e w6 h_ => ?_)
    clear h
    obtain ⟨r3, rfl, h⟩ := h_
    obtain ⟨hsm2, h⟩ := h
    replace hB := Boxes.sameS hB hsm2 (by simp)
    refine ⟨_, rfl, (fun hc => by cases hc), ?_⟩
    refine HW.pure (i := 9) hH rfl (by kernel_rfl) (Wants.free rfl) rfl (fun hc => by cases hc) (Rd.assign (v := .int .u32 r3) rfl) ?_
    refine HW.done hH (by kernel_rfl) ?_
    refine NW.block ?_
    exact NW.cut (S := Int) (Ek := fun set2 => [(1, .slice l1 l1n l1c), (2, .pointer (some (⟨b1, 0, none⟩ : Addr))), (4, .int .u32 0), (6, .int .i64 i1), (5, .int .u32 set2)]) r3 (by exact ⟨rfl, rfl, rfl, rfl, rfl, trivial⟩) ⟨h, hB⟩
   ·replace h := h.2 hb2
    refine CW.skip ?_
    refine NW.block ?_
    exact NW.cut (S := Int) (Ek := fun set2 => [(1, .slice l1 l1n l1c), (2, .pointer (some (⟨b1, 0, none⟩ : Addr))), (4, .int .u32 0), (6, .int .i64 i1), (5, .int .u32 set2)]) set1 (by exact ⟨rfl, rfl, rfl, rfl, rfl, trivial⟩) ⟨h, hB⟩
 ·replace h := h.2 hb1
  refine CW.exit ?_
  refine XW.then ?_
  refine XW.then ?_
  refine XW.hit ?_
  refine NW.then ?_
  refine CW.seq ?_
  refine CW.region fun L hL => ?_
  refine LW.rd hL rfl (Wants.free rfl) rfl (Rd.move (v := .int .u32 set1) rfl) ?_
  refine LW.rd hL rfl (Wants.free rfl) rfl (Rd.assign (v := .int .u32 set1) rfl) ?_
  refine LW.nil hL rfl ?_
  refine NW.then ?_
  refine CW.ret ?_
  exact res1 rfl rfl ⟨set1, rfl, h⟩
/- pomander/pomanderref02.Join -/
def W_pomanderref02_Join (a1 : Int) (b1 : Int) (w : World) (R : Int → World → Prop) : Prop :=
 ∃ (I1 : Int → Int → Int → World → Prop) (m1 : Int → Int → Int → World → Nat), I1 0 1 0 w ∧ ∀ (out1 : Int) (p1 : Int) (i1 : Int) (w1 : World), I1 out1 p1 i1 w1 → ((decide (i1 < 16)) = true → ∃ J1 : Int → World → Prop, (∀ (out2 : Int) (w2 : World), J1 out2 w2 → (I1 out2 (IntKind.wrap .u32 (p1 * 2)) (IntKind.wrap .i64 (i1 + 1)) w2 ∧ m1 out2 (IntKind.wrap .u32 (p1 * 2)) (IntKind.wrap .i64 (i1 + 1)) w2 < m1 out1 p1 i1 w1)) ∧ (Calls Tryz.prog 84 #[.int .u32 a1, .int .i64 i1] w1 fun e w3 => ∃ (r2 : Bool), e = .returned (.bool r2) ∧ (∃ J2 : Bool → World → Prop, (∀ (b2 : Bool) (w4 : World), J2 b2 w4 → (b2 = true → J1 (IntKind.wrap .u32 (out1 + p1)) w4) ∧ (b2 = false → J1 out1 w4)) ∧ ((r2 = false → Calls Tryz.prog 84 #[.int .u32 b1, .int .i64 i1] w3 fun e w5 => ∃ (r3 : Bool), e = .returned (.bool r3) ∧ (J2 r3 w5)) ∧ (r2 = true → J2 true w3))))) ∧ ((decide (i1 < 16)) = false → R out1 w1)
set_option maxRecDepth 100000 in
theorem go_pomanderref02_Join (a1 : Int) (b1 : Int) (w : World) (R : Int → World → Prop) (h : W_pomanderref02_Join a1 b1 w R) : Calls Tryz.prog 85 #[.int .u32 a1, .int .u32 b1] w (fun e w' => ∃ (r1 : Int), e = .returned (.int .u32 r1) ∧ R r1 w') := by
 unfold W_pomanderref02_Join at h
 refine enter (N := 26) Tryz.func85 rfl rfl ?_
 refine CW.seq ?_
 refine CW.region fun L hL => ?_
 refine LW.rd hL rfl (Wants.free rfl) rfl (Rd.assign (v := .int .u32 0) rfl) ?_
 refine LW.nil hL rfl ?_
 refine NW.then ?_
 refine CW.seq ?_
 refine CW.region fun L hL => ?_
 refine LW.rd hL rfl (Wants.free rfl) rfl (Rd.assign (v := .int .u32 0) rfl) ?_
 refine LW.rd hL rfl (Wants.free rfl) rfl (Rd.assign (v := .int .u32 1) rfl) ?_
 refine LW.nil hL rfl ?_
 refine NW.then ?_
 refine CW.seq ?_
 refine CW.seq ?_
 refine CW.region fun L hL => ?_
 refine LW.rd hL rfl (Wants.free rfl) rfl (Rd.assign (v := .int .i64 0) rfl) ?_
 refine LW.nil hL rfl ?_
 refine NW.then ?_
 refine CW.block ?_
 obtain ⟨I1, m1, hI1, h⟩ := h
 refine CW.loop (S := Int × Int × Int) (fun s1 => [(0, .int .u32 a1), (1, .int .u32 b1), (4, .int .u32 0), (5, .int .u32 s1.1), (6, .int .u32 s1.2.1), (7, .int .i64 s1.2.2)]) (fun s1 w1 => I1 s1.1 s1.2.1 s1.2.2 w1) (fun s1 w1 => m1 s1.1 s1.2.1 s1.2.2 w1) (0, 1, 0) (by exact ⟨rfl, rfl, rfl, rfl, rfl, rfl, trivial⟩) hI1 (fun s1 w1 hI1 => ?_)
 obtain ⟨out1, p1, i1⟩ := s1; replace h := h out1 p1 i1 w1 hI1
 refine CW.seq ?_
 refine CW.seq ?_
 refine CW.region fun L hL => ?_
 refine LW.rd hL rfl (Wants.free rfl) rfl (Rd.move (v := .int .i64 i1) rfl) ?_
 refine LW.rd hL rfl (Wants.free rfl) rfl (Rd.bin (v := .bool (decide (i1 < 16))) rfl rfl (fun w => by kernel_rfl)) ?_
 refine LW.nil hL rfl ?_
 refine NW.then ?_
 refine CW.cond rfl (fun hb1 => ?_) (fun hb1 => ?_)
 ·replace h := h.1 hb1
  refine CW.skip ?_
  refine NW.then ?_
  refine CW.seq ?_
  refine CW.block ?_
  obtain ⟨J1, hJ1, h⟩ := h
  refine CW.cut (S := Int) (fun out2 => [(0, .int .u32 a1), (1, .int .u32 b1), (4, .int .u32 0), (6, .int .u32 p1), (7, .int .i64 i1), (5, .int .u32 out2)]) (fun out2 w2 => J1 out2 w2) (fun out2 w2 h_ => ?_) ?_
  ·replace h := hJ1 out2 w2 h_; clear h_
   refine CW.region fun L hL => ?_
   refine LW.rd hL rfl (Wants.free rfl) rfl (Rd.move (v := .int .u32 p1) rfl) ?_
   refine LW.rd hL rfl (Wants.free rfl) rfl (Rd.bin (v := .int .u32 (IntKind.wrap .u32 (p1 * 2))) rfl rfl (fun w => by kernel_rfl)) ?_
   refine LW.rd hL rfl (Wants.free rfl) rfl (Rd.assign (v := .int .u32 (IntKind.wrap .u32 (p1 * 2))) rfl) ?_
   refine LW.nil hL rfl ?_
   refine NW.block ?_
   refine NW.then ?_
   refine CW.region fun L hL => ?_
   refine LW.rd hL rfl (Wants.free rfl) rfl (Rd.move (v := .int .i64 i1) rfl) ?_
   refine LW.rd hL rfl (Wants.free rfl) rfl (Rd.bin (v := .int .i64 (IntKind.wrap .i64 (i1 + 1))) rfl rfl (fun w => by kernel_rfl)) ?_
   refine LW.rd hL rfl (Wants.free rfl) rfl (Rd.assign (v := .int .i64 (IntKind.wrap .i64 (i1 + 1))) rfl) ?_
   refine LW.nil hL rfl ?_
   exact NW.loop (S := Int × Int × Int) (Ek := fun s1 => [(0, .int .u32 a1), (1, .int .u32 b1), (4, .int .u32 0), (5, .int .u32 s1.1), (6, .int .u32 s1.2.1), (7, .int .i64 s1.2.2)]) (out2, IntKind.wrap .u32 (p1 * 2), IntKind.wrap .i64 (i1 + 1)) (by exact ⟨rfl, rfl, rfl, rfl, rfl, rfl, trivial⟩) h
  ·skip
   refine CW.seq ?_
   refine CW.region fun L hL => ?_
   refine LW.rd hL rfl (Wants.free rfl) rfl (Rd.move (v := .int .u32 a1) rfl) ?_
   refine LW.rd hL rfl (Wants.free rfl) rfl (Rd.move (v := .int .i64 i1) rfl) ?_
   refine LW.call hL rfl (Wants.free rfl) rfl (Cl.fn (f := 84) rfl Tryz.func84 (by kernel_rfl) rfl) h (fun e w3 h_ => ?_)
   clear h
   obtain ⟨r2, rfl, h⟩ := h_
   refine ⟨_, rfl, ?_⟩
   refine LW.rd hL rfl (Wants.free rfl) rfl (Rd.move (v := .bool r2) rfl) ?_
   obtain ⟨J2, hJ2, h1_J2, h0_J2⟩ := h
   suffices K1 : ∀ (b2 : Bool) (w4 : World), J2 b2 w4 → L 8 [(0, .int .u32 a1), (1, .int .u32 b1), (4, .int .u32 0), (5, .int .u32 out1), (6, .int .u32 p1), (7, .int .i64 i1), (19, .bool b2)] w4 by
    rcases Bool.eq_false_or_eq_true r2 with hb2 | hb2
    ·have h := h0_J2 hb2
     refine LW.skip hL rfl (Skips.on rfl rfl rfl rfl rfl hb2) rfl ?_
     refine LW.skip hL rfl (Skips.on rfl rfl rfl rfl rfl hb2) rfl ?_
     refine LW.skip hL rfl (Skips.on rfl rfl rfl rfl rfl hb2) rfl ?_
     refine LW.rd hL rfl (Wants.free rfl) rfl (Rd.pickT rfl hb2 rfl) ?_
     exact LW.sub hL (by exact ⟨rfl, rfl, rfl, rfl, rfl, rfl, rfl, trivial⟩) (K1 true w3 h)
    ·have h := h1_J2 hb2
     refine LW.rd hL rfl (Wants.on rfl rfl rfl rfl rfl hb2) rfl (Rd.move (v := .int .u32 b1) rfl) ?_
     refine LW.rd hL rfl (Wants.on rfl rfl rfl rfl rfl hb2) rfl (Rd.move (v := .int .i64 i1) rfl) ?_
     refine LW.call hL rfl (Wants.on rfl rfl rfl rfl rfl hb2) rfl (Cl.fn (f := 84) rfl Tryz.func84 (by kernel_rfl) rfl) h (fun e w5 h_ => ?_)
     clear h
     obtain ⟨r3, rfl, h⟩ := h_
     refine ⟨_, rfl, ?_⟩
     refine LW.rd hL rfl (Wants.free rfl) rfl (Rd.pickF rfl hb2 rfl) ?_
     exact LW.sub hL (by exact ⟨rfl, rfl, rfl, rfl, rfl, rfl, rfl, trivial⟩) (K1 r3 w5 h)
   intro b2 w4 h_
   have h := hJ2 b2 w4 h_; clear h_
   refine LW.nil hL rfl ?_
   refine NW.then ?_
   refine CW.cond rfl (fun hb3 => ?_) (fun hb3 => ?_)
   ·replace h := h.1 hb3
    refine CW.region fun L hL => ?_
    refine LW.rd hL rfl (Wants.free rfl) rfl (Rd.move (v := .int .u32 out1) rfl) ?_
    refine LW.rd hL rfl (Wants.free rfl) rfl (Rd.move (v := .int .u32 p1) rfl) ?_
    refine LW.rd hL rfl (Wants.free rfl) rfl (Rd.bin (v := .int .u32 (IntKind.wrap .u32 (out1 + p1))) rfl rfl (fun w => by kernel_rfl)) ?_
    refine LW.rd hL rfl (Wants.free rfl) rfl (Rd.assign (v := .int .u32 (IntKind.wrap .u32 (out1 + p1))) rfl) ?_
    refine LW.nil hL rfl ?_
    exact NW.cut (S := Int) (Ek := fun out2 => [(0, .int .u32 a1), (1, .int .u32 b1), (4, .int .u32 0), (6, .int .u32 p1), (7, .int .i64 i1), (5, .int .u32 out2)]) (IntKind.wrap .u32 (out1 + p1)) (by exact ⟨rfl, rfl, rfl, rfl, rfl, rfl, trivial⟩) h
   ·replace h := h.2 hb3
    refine CW.skip ?_
    exact NW.cut (S := Int) (Ek := fun out2 => [(0, .int .u32 a1), (1, .int .u32 b1), (4, .int .u32 0), (6, .int .u32 p1), (7, .int .i64 i1), (5, .int .u32 out2)]) out1 (by exact ⟨rfl, rfl, rfl, rfl, rfl, rfl, trivial⟩) h
 ·replace h := h.2 hb1
  refine CW.exit ?_
  refine XW.then ?_
  refine XW.then ?_
  refine XW.hit ?_
  refine NW.then ?_
  refine CW.seq ?_
  refine CW.region fun L hL => ?_
  refine LW.rd hL rfl (Wants.free rfl) rfl (Rd.move (v := .int .u32 out1) rfl) ?_
  refine LW.rd hL rfl (Wants.free rfl) rfl (Rd.assign (v := .int .u32 out1) rfl) ?_
  refine LW.nil hL rfl ?_
  refine NW.then ?_
  refine CW.ret ?_
  exact res1 rfl rfl ⟨out1, rfl, h⟩
/- pomander/pomanderref02.Bit -/
def W_pomanderref02_Bit (set1 : Int) (n1 : Int) (w : World) (R : Bool → World → Prop) : Prop :=
 ∃ (I1 : Int → Int → World → Prop) (m1 : Int → Int → World → Nat), I1 set1 0 w ∧ ∀ (set2 : Int) (i1 : Int) (w1 : World), I1 set2 i1 w1 → ((decide (i1 < n1)) = true → (I1 (IntKind.wrap .u32 (Int.tdiv set2 2)) (IntKind.wrap .i64 (i1 + 1)) w1 ∧ m1 (IntKind.wrap .u32 (Int.tdiv set2 2)) (IntKind.wrap .i64 (i1 + 1)) w1 < m1 set2 i1 w1)) ∧ ((decide (i1 < n1)) = false → R ((Int.tmod set2 2) == 1) w1)
set_option maxRecDepth 100000 in
theorem go_pomanderref02_Bit (set1 : Int) (n1 : Int) (w : World) (R : Bool → World → Prop) (h : W_pomanderref02_Bit set1 n1 w R) : Calls Tryz.prog 84 #[.int .u32 set1, .int .i64 n1] w (fun e w' => ∃ (r1 : Bool), e = .returned (.bool r1) ∧ R r1 w') := by
 unfold W_pomanderref02_Bit at h
 refine enter (N := 16) Tryz.func84 rfl rfl ?_
 refine CW.seq ?_
 refine CW.region fun L hL => ?_
 refine LW.rd hL rfl (Wants.free rfl) rfl (Rd.assign (v := .bool false) rfl) ?_
 refine LW.nil hL rfl ?_
 refine NW.then ?_
 refine CW.seq ?_
 refine CW.seq ?_
 refine CW.region fun L hL => ?_
 refine LW.rd hL rfl (Wants.free rfl) rfl (Rd.assign (v := .int .i64 0) rfl) ?_
 refine LW.nil hL rfl ?_
 refine NW.then ?_
 refine CW.block ?_
 obtain ⟨I1, m1, hI1, h⟩ := h
 refine CW.loop (S := Int × Int) (fun s1 => [(1, .int .i64 n1), (4, .bool false), (0, .int .u32 s1.1), (5, .int .i64 s1.2)]) (fun s1 w1 => I1 s1.1 s1.2 w1) (fun s1 w1 => m1 s1.1 s1.2 w1) (set1, 0) (by exact ⟨rfl, rfl, rfl, rfl, trivial⟩) hI1 (fun s1 w1 hI1 => ?_)
 obtain ⟨set2, i1⟩ := s1; replace h := h set2 i1 w1 hI1
 refine CW.seq ?_
 refine CW.seq ?_
 refine CW.region fun L hL => ?_
 refine LW.rd hL rfl (Wants.free rfl) rfl (Rd.move (v := .int .i64 i1) rfl) ?_
 refine LW.rd hL rfl (Wants.free rfl) rfl (Rd.move (v := .int .i64 n1) rfl) ?_
 refine LW.rd hL rfl (Wants.free rfl) rfl (Rd.bin (v := .bool (decide (i1 < n1))) rfl rfl (fun w => by kernel_rfl)) ?_
 refine LW.nil hL rfl ?_
 refine NW.then ?_
 refine CW.cond rfl (fun hb1 => ?_) (fun hb1 => ?_)
 ·replace h := h.1 hb1
  refine CW.skip ?_
  refine NW.then ?_
  refine CW.seq ?_
  refine CW.block ?_
  refine CW.region fun L hL => ?_
  refine LW.rd hL rfl (Wants.free rfl) rfl (Rd.move (v := .int .u32 set2) rfl) ?_
  refine LW.rd hL rfl (Wants.free rfl) rfl (Rd.bin (v := .int .u32 (IntKind.wrap .u32 (Int.tdiv set2 2))) rfl rfl (fun w => by kernel_rfl)) ?_
  refine LW.rd hL rfl (Wants.free rfl) rfl (Rd.assign (v := .int .u32 (IntKind.wrap .u32 (Int.tdiv set2 2))) rfl) ?_
  refine LW.nil hL rfl ?_
  refine NW.block ?_
  refine NW.then ?_
  refine CW.region fun L hL => ?_
  refine LW.rd hL rfl (Wants.free rfl) rfl (Rd.move (v := .int .i64 i1) rfl) ?_
  refine LW.rd hL rfl (Wants.free rfl) rfl (Rd.bin (v := .int .i64 (IntKind.wrap .i64 (i1 + 1))) rfl rfl (fun w => by kernel_rfl)) ?_
  refine LW.rd hL rfl (Wants.free rfl) rfl (Rd.assign (v := .int .i64 (IntKind.wrap .i64 (i1 + 1))) rfl) ?_
  refine LW.nil hL rfl ?_
  exact NW.loop (S := Int × Int) (Ek := fun s1 => [(1, .int .i64 n1), (4, .bool false), (0, .int .u32 s1.1), (5, .int .i64 s1.2)]) (IntKind.wrap .u32 (Int.tdiv set2 2), IntKind.wrap .i64 (i1 + 1)) (by exact ⟨rfl, rfl, rfl, rfl, trivial⟩) h
 ·replace h := h.2 hb1
  refine CW.exit ?_
  refine XW.then ?_
  refine XW.then ?_
  refine XW.hit ?_
  refine NW.then ?_
  refine CW.seq ?_
  refine CW.region fun L hL => ?_
  refine LW.rd hL rfl (Wants.free rfl) rfl (Rd.move (v := .int .u32 set2) rfl) ?_
  refine LW.rd hL rfl (Wants.free rfl) rfl (Rd.bin (v := .int .u32 (Int.tmod set2 2)) rfl rfl (fun w => by kernel_rfl)) ?_
  refine LW.rd hL rfl (Wants.free rfl) rfl (Rd.bin (v := .bool ((Int.tmod set2 2) == 1)) rfl rfl (fun w => by kernel_rfl)) ?_
  refine LW.rd hL rfl (Wants.free rfl) rfl (Rd.assign (v := .bool ((Int.tmod set2 2) == 1)) rfl) ?_
  refine LW.nil hL rfl ?_
  refine NW.then ?_
  refine CW.ret ?_
  exact res1 rfl rfl ⟨(Int.tmod set2 2) == 1, rfl, h⟩
end Go.Proofs.YtfcfkhbkkfpehaaGreat
end
section
/- Flows: Apply. -/
namespace Go.Proofs.YtfcfkhbkkfpehaaGreat
open Go Go.RowKit Go.X
theorem _root_.Go.X.CellsAt.third {w : World} {q : Addr} {a b c : Value} (h : CellsAt w q 0 [a, b, c]) : w.cell? (q.add 2) = some c := h.2.2.1
end Go.Proofs.YtfcfkhbkkfpehaaGreat
end
section
/- The document's sets: Bit, Join. -/
namespace Go.Proofs.YtfcfkhbkkfpehaaGreat
open Go Go.RowKit Go.X
theorem wru {n : Int} (h1 : 0 ≤ n) (h2 : n < 4294967296) : IntKind.wrap .u32 n = n := by rw [IntKind.wrap_u32']; omega
theorem ref_bit {w : World} {set n : Int} (h0 : 0 ≤ set) (h1 : set < 4294967296) (hn : 0 ≤ n) (hn1 : n ≤ 1000) :
  Calls Tryz.prog 84 #[.int .u32 set, .int .i64 n] w fun e w' => ∃ r : Bool, e = .returned (.bool r) ∧ (r = set.toNat.testBit n.toNat ∧ w' = w) := by
 refine go_pomanderref02_Bit _ _ _ _ ?_
 unfold W_pomanderref02_Bit
 refine ⟨fun s i w' => ∃ j : Nat, i = (j : Int) ∧ (j : Int) ≤ n ∧ s = ((set.toNat / 2 ^ j : Nat) : Int) ∧ w' = w, fun _ i _ => (n - i).toNat, ⟨0, rfl, by omega, by simp; omega, rfl⟩, ?_⟩
 rintro s _ w1 ⟨j, rfl, hj, rfl, hw⟩
 subst w1
 have hle : set.toNat / 2 ^ j ≤ set.toNat := Nat.div_le_self _ _
 refine ⟨fun hlt => ?_, fun hge => ?_⟩
 ·have hlt' : (j : Int) < n := by simpa using hlt
  rw [wr (by omega) (by omega)]
  have e1 : IntKind.wrap .u32 (Int.tdiv ((set.toNat / 2 ^ j : Nat) : Int) 2) = ((set.toNat / 2 ^ (j + 1) : Nat) : Int) := by
   rw [Nat.pow_succ, ← Nat.div_div_eq_div_mul]
   generalize set.toNat / 2 ^ j = X at hle
   rw [Int.tdiv_eq_ediv_of_nonneg (by omega)]
   rw [wru (by omega) (by omega)]
   omega
  rw [e1]
  exact ⟨⟨j + 1, by omega, by omega, rfl, rfl⟩, by simp only []; omega⟩
 ·have hge' : ¬ (j : Int) < n := by simpa using hge
  have hnj : n.toNat = j := by omega
  refine ⟨?_, rfl⟩
  rw [hnj, Nat.testBit_eq_decide_div_mod_eq]
  have : Int.tmod ((set.toNat / 2 ^ j : Nat) : Int) 2 = ((set.toNat / 2 ^ j % 2 : Nat) : Int) := by
   generalize set.toNat / 2 ^ j = X
   rw [Int.tmod_eq_emod_of_nonneg (by omega)]; omega
  rw [this]
  by_cases hb : set.toNat / 2 ^ j % 2 = 1
  ·simp [hb]
  ·have hb0 : set.toNat / 2 ^ j % 2 = 0 := by omega
   simp [hb0]
theorem mod_succ (x j : Nat) : x % 2 ^ (j + 1) = x % 2 ^ j + 2 ^ j * (x.testBit j).toNat := by
 rw [Nat.testBit_eq_decide_div_mod_eq, Nat.pow_succ, Nat.mod_mul]
 by_cases hb : x / 2 ^ j % 2 = 1
 ·simp [hb]
 ·have hb0 : x / 2 ^ j % 2 = 0 := by omega
  simp [hb0]
theorem ref_join {w : World} {a b : Int} (ha : u16 a) (hb : u16 b) :
  Calls Tryz.prog 85 #[.int .u32 a, .int .u32 b] w fun e w' => ∃ r : Int, e = .returned (.int .u32 r) ∧ (r = bits .or .u32 a b ∧ w' = w) := by
 obtain ⟨ha0, ha1⟩ := ha
 obtain ⟨hb0, hb1⟩ := hb
 refine go_pomanderref02_Join _ _ _ _ ?_
 unfold W_pomanderref02_Join
 have hx : a.toNat ||| b.toNat < 2 ^ 16 := Nat.or_lt_two_pow (by omega) (by omega)
 generalize hX : a.toNat ||| b.toNat = X at hx
 have hR : bits .or .u32 a b = (X : Int) := by rw [u32_or a b ha0 (by omega) hb0 (by omega), hX]
 have hbit : ∀ j, X.testBit j = (a.toNat.testBit j || b.toNat.testBit j) := fun j => by rw [← hX, Nat.testBit_or]
 refine ⟨fun out p i w' => ∃ j : Nat, i = (j : Int) ∧ j ≤ 16 ∧ out = ((X % 2 ^ j : Nat) : Int) ∧ p = ((2 ^ j : Nat) : Int) ∧ w' = w, fun _ _ i _ => (16 - i).toNat, ⟨0, rfl, by omega, by simp [Nat.mod_one], rfl, rfl⟩, ?_⟩
 rintro _ _ _ w1 ⟨j, rfl, hj, rfl, rfl, hw⟩
 subst w1
 have hp : 2 ^ j ≤ 2 ^ 16 := Nat.pow_le_pow_right (by omega) hj
 have hm : X % 2 ^ (j + 1) ≤ X := Nat.mod_le _ _
 refine ⟨fun hlt => ?_, fun hge => ?_⟩
 ·have hlt' : j < 16 := by
   have : (j : Int) < 16 := by simpa using hlt
   omega
  have hm' := mod_succ X j
  refine ⟨fun out w' => out = ((X % 2 ^ (j + 1) : Nat) : Int) ∧ w' = w, ?_, ?_⟩
  ·rintro _ w2 ⟨rfl, hw⟩
   subst w2
   rw [wr (by omega) (by omega)]
   refine ⟨⟨j + 1, by omega, by omega, rfl, ?_, rfl⟩, by simp only []; omega⟩
   rw [wru (by omega) (by omega), Nat.pow_succ]; omega
  refine (ref_bit ha0 (by omega) (by omega) (by omega)).mono ?_
  rintro _ w3 ⟨_, rfl, rfl, hw⟩
  subst w3
  refine ⟨_, rfl, fun b2 w' => b2 = X.testBit j ∧ w' = w, ?_, fun hA => ?_, fun hA => ?_⟩
  ·rintro b2 w4 ⟨rfl, hw⟩
   subst w4
   refine ⟨fun ht => ⟨?_, rfl⟩, fun hf => ⟨?_, rfl⟩⟩
   ·rw [ht] at hm'
    simp at hm'
    rw [wru (by omega) (by omega), hm']; omega
   ·rw [hf] at hm'
    simp at hm'
    rw [hm']
  ·refine (ref_bit hb0 (by omega) (by omega) (by omega)).mono ?_
   rintro _ w5 ⟨_, rfl, rfl, hw⟩
   subst w5
   refine ⟨_, rfl, ?_, rfl⟩
   simp at hA
   simp [hbit, hA]
  ·simp at hA
   exact ⟨by simp [hbit, hA], rfl⟩
 ·have hge' : ¬ (j : Int) < 16 := by simpa using hge
  have : j = 16 := by omega
  subst this
  exact ⟨by rw [hR, Nat.mod_eq_of_lt hx], rfl⟩
end Go.Proofs.YtfcfkhbkkfpehaaGreat
end
section
/- The document's flows: Get, together, MayAll, Decides, Apply. -/
namespace Go.Proofs.YtfcfkhbkkfpehaaGreat
open Go Go.RowKit Go.X
theorem CellsAt.two {w : World} {q : Addr} {a b c : Value} (h : CellsAt w q 0 [a, b, c]) : CellsAt w q 0 [a, b] := ⟨h.1, h.2.1, trivial⟩
theorem ref_get {w : World} {R : Rf} {p4 p5 : Option Addr} {n4 c4 n5 c5 : Nat} (h : RefAt w R p4 n4 c4 p5 n5 c5) (hn : n5 ≤ 100000000) (p1 p2 : Int) :
  Calls Tryz.prog 86 #[.agg #[.int .i64 R.fr, .int .i64 R.se, .int .i64 R.most, .slice p4 n4 c4, .slice p5 n5 c5], .agg #[.int .i64 p1, .int .i64 p2]] w fun e w' => ∃ r : Int, e = .returned (.int .u32 r) ∧ (r = lookPr R.pairs (p1, p2) ∧ Chg [] w w') := by
 have hn5 := h.n5
 refine go_pomanderref12_Flow_Get _ _ _ _ _ _ _ _ _ _ _ _ _ ?_
 unfold W_pomanderref12_Flow_Get
 intro b2 b1 w2 l2 l1 c2
 refine ⟨fun _ i w' => ∃ j : Nat, i = (j : Int) ∧ j ≤ n5 ∧ lookK (p1, p2) (R.pairs.take j) = none ∧ Chg [] w w', fun _ i _ => (n5 - i).toNat, ⟨0, rfl, by omega, rfl, c2⟩, ?_⟩
 rintro x1 _ w3 ⟨j, rfl, hj, hl, c3⟩
 refine ⟨fun hlt => ?_, fun hge => ?_⟩
 ·have hlt' : j < n5 := by simpa using hlt
  obtain ⟨x, hx⟩ := get_of (l := R.pairs) (j := j) (by omega)
  have hrow := h.pairs.chg c3 (by simp)
  obtain ⟨a, rfl, _⟩ := RowAt.elem (size := 3) (fun _ => rfl) hrow hx (by omega)
  refine ⟨a, rfl, by omega, by omega, fun w4 c4' => ?_⟩
  obtain ⟨a', ha', hc⟩ := RowAt.elem (size := 3) (fun _ => rfl) (hrow.chg c4' (by simp)) hx (by omega)
  obtain rfl : a = a' := by simpa using ha'
  refine ⟨x.1.1, x.1.2, by simpa [encPr] using CellsAt.two hc, fun he => ?_, fun hne => ?_⟩
  ·have he' : x.1 = (p1, p2) := by
    have : x.1.1 = p1 ∧ x.1.2 = p2 := by simpa using he
    exact Prod.ext this.1 this.2
   refine ⟨x.2, by simpa using CellsAt.third hc, ?_, c3.trans0 c4'⟩
   have h1 : lookK (p1, p2) R.pairs = some x.2 := by
    rw [← List.take_append_drop j R.pairs, lookK_append, hl, List.drop_eq_getElem_cons (by omega), lookK_cons]
    have : R.pairs[j] = x := by rw [List.getElem?_eq_getElem (by omega)] at hx; simpa using hx
    rw [this, if_pos he']; rfl
   unfold lookPr; rw [h1]; rfl
  ·have hne' : x.1 ≠ (p1, p2) := by
    intro e; rw [e] at hne; simp at hne
   rw [wr (by omega) (by omega)]
   refine ⟨⟨j + 1, by omega, by omega, ?_, c3.trans0 c4'⟩, by simp only []; omega⟩
   rw [take_snoc hx, lookK_append, hl, lookK_cons, if_neg hne']; rfl
 ·have hge' : ¬ j < n5 := by simpa using hge
  rw [List.take_of_length_le (by omega)] at hl
  exact ⟨by unfold lookPr; rw [hl]; rfl, c3⟩
theorem ref_together {w : World} {R : Rf} {p4 p5 : Option Addr} {n4 c4 n5 c5 : Nat} (h : RefAt w R p4 n4 c4 p5 n5 c5) (hn5 : n5 ≤ 100000000) (hu : ∀ q, u16 (lookPr R.pairs q)) {S : Nat → Prop} {p : Option Addr} {n c : Nat} {ps : List (Int × Int)} (hp : PlacesAt w S p n ps) (hn : n ≤ 9223372036854775807) :
  Calls Tryz.prog 52 #[.agg #[.int .i64 R.fr, .int .i64 R.se, .int .i64 R.most, .slice p4 n4 c4, .slice p5 n5 c5], .slice p n c] w fun e w' => ∃ r : Int, e = .returned (.int .u32 r) ∧ (r = joinP (lookPr R.pairs) ps ∧ Chg [] w w') := by
 refine go_pomanderref12_Flow_together _ _ _ _ _ _ _ _ _ _ _ _ _ _ ?_
 unfold W_pomanderref12_Flow_together
 intro b1 w1 l1 c1
 refine ⟨fun set i w' => ∃ j : Nat, i = (j : Int) ∧ j ≤ n ∧ set = joinP (lookPr R.pairs) (ps.take j) ∧ Chg [] w w' ∧ w1.heap.size ≤ w'.heap.size, fun _ i _ => (n - i).toNat, ⟨0, rfl, by omega, rfl, c1, Nat.le_refl _⟩, ?_⟩
 rintro _ _ w2 ⟨j, rfl, hj, rfl, c2, s2⟩
 refine ⟨fun hlt => ?_, fun hge => ?_⟩
 ·have hlt' : j < n := by simpa using hlt
  obtain ⟨x, hx⟩ := get_of (l := ps) (j := j) (by rw [hp.length]; exact hlt')
  intro w3 c3
  have c03 := c2.trans0 c3
  obtain ⟨k1, k2, a, rfl, ha, hc⟩ := (hp.chg c03 (by simp)).each j _ hx
  refine ⟨a, rfl, by omega, by omega, x.1, x.2, by simpa using hc, ?_⟩
  refine (ref_get (h.chg c03 (by simp) (by simp)) hn5 x.1 x.2).mono ?_
  rintro _ w4 ⟨_, rfl, rfl, c4⟩
  have s3 := c3.size
  have s4 := c4.size
  refine ⟨_, rfl, by simpa using c4.cells (by simp) hc, Same.chg c4 (by simp; omega), ?_⟩
  refine (ref_join (joinP_u16 hu _) (hu _)).mono ?_
  rintro _ w5 ⟨_, rfl, rfl, hw⟩
  subst w5
  refine ⟨_, rfl, Same.refl _ _, ?_⟩
  rw [wr (by omega) (by omega)]
  refine ⟨⟨j + 1, by omega, by omega, ?_, c03.trans0 c4, by omega⟩, by simp only []; omega⟩
  rw [take_snoc hx, joinP_snoc]
 ·have hge' : ¬ j < n := by simpa using hge
  exact ⟨by rw [List.take_of_length_le (by rw [hp.length]; omega)], c2⟩
theorem ref_decides {w : World} {R : Rf} {p4 p5 : Option Addr} {n4 c4 n5 c5 : Nat} (h : RefAt w R p4 n4 c4 p5 n5 c5) (hn5 : n5 ≤ 100000000) (hu : ∀ q, u16 (lookPr R.pairs q)) {S : Nat → Prop} {p : Option Addr} {n c : Nat} {ts : List Tch} (hp : TouchesAt w S p n ts) (hn : n ≤ 9223372036854775807) (hin : ∀ t ∈ ts, t.2.length ≤ 9223372036854775807) :
  Calls Tryz.prog 51 #[.agg #[.int .i64 R.fr, .int .i64 R.se, .int .i64 R.most, .slice p4 n4 c4, .slice p5 n5 c5], .slice p n c] w fun e w' => ∃ r : Int, e = .returned (.int .u32 r) ∧ (r = decidesP (lookPr R.pairs) ts ∧ Chg [] w w') := by
 refine go_pomanderref12_Flow_Decides _ _ _ _ _ _ _ _ _ _ _ _ _ _ ?_
 unfold W_pomanderref12_Flow_Decides
 intro b1 w1 l1 c1
 refine ⟨fun set i w' => ∃ j : Nat, i = (j : Int) ∧ j ≤ n ∧ set = decidesP (lookPr R.pairs) (ts.take j) ∧ Chg [] w w' ∧ w1.heap.size ≤ w'.heap.size, fun _ i _ => (n - i).toNat, ⟨0, rfl, by omega, rfl, c1, Nat.le_refl _⟩, ?_⟩
 rintro _ _ w2 ⟨j, rfl, hj, rfl, c2, s2⟩
 refine ⟨fun hlt => ?_, fun hge => ?_⟩
 ·have hlt' : j < n := by simpa using hlt
  obtain ⟨t, hx⟩ := get_of (l := ts) (j := j) (by rw [hp.length]; exact hlt')
  have hmem : t ∈ ts := List.mem_of_getElem? hx
  obtain ⟨k1, k2, a, q, qn, qc, rfl, ha, hc, hps⟩ := (hp.chg c2 (by simp)).each j _ hx
  refine ⟨fun set w' => set = decidesP (lookPr R.pairs) (ts.take (j + 1)) ∧ Chg [] w w' ∧ w1.heap.size ≤ w'.heap.size, ?_, a, rfl, by omega, by omega, t.1.1, t.1.2, by simpa using CellsAt.two hc, fun he w4 c4 => ?_, fun hne => ?_⟩
  ·rintro _ w3 ⟨rfl, c3, s3⟩
   rw [wr (by omega) (by omega)]
   exact ⟨⟨j + 1, by omega, by omega, rfl, c3, s3⟩, by simp only []; omega⟩
  ·have he' : t.1 = (0, 0) := by
    have : t.1.1 = 0 ∧ t.1.2 = 0 := by simpa using he
    exact Prod.ext this.1 this.2
   have c04 := c2.trans0 c4
   have s4 := c4.size
   refine ⟨q, qn, qc, by simpa using CellsAt.third (c4.cells (by simp) hc), ?_⟩
   refine (ref_together (c := qc) (h.chg c04 (by simp) (by simp)) hn5 hu (hps.chg c4 (by simp)) (by rw [← hps.length]; exact hin t hmem)).mono ?_
   rintro _ w5 ⟨_, rfl, rfl, c5⟩
   have s5 := c5.size
   refine ⟨_, rfl, by simpa using CellsAt.third (c5.cells (by simp) (c4.cells (by simp) hc)), Same.chg c5 (by simp; omega), ?_⟩
   refine (ref_join (decidesP_u16 hu _) (joinP_u16 hu _)).mono ?_
   rintro _ w6 ⟨_, rfl, rfl, hw⟩
   subst w6
   refine ⟨_, rfl, Same.refl _ _, ?_, c04.trans0 c5, by omega⟩
   rw [take_snoc hx, decidesP_snoc, if_pos he']
  ·have hne' : t.1 ≠ (0, 0) := by
    intro e; rw [e] at hne; simp at hne
   refine ⟨?_, c2, s2⟩
   rw [take_snoc hx, decidesP_snoc, if_neg hne']
 ·have hge' : ¬ j < n := by simpa using hge
  exact ⟨by rw [List.take_of_length_le (by rw [hp.length]; omega)], c2⟩
theorem ref_mayAll {w : World} {R : Rf} {p4 p5 : Option Addr} {n4 c4 n5 c5 : Nat} (hw : i64s (64 * R.fr) ∧ i64s (64 * R.se)) {S : Nat → Prop} {p : Option Addr} {n c : Nat} {ts : List Tch} (hp : TouchesAt w S p n ts) (hn : n ≤ 9223372036854775807) (hin : ∀ t ∈ ts, t.2.length ≤ 9223372036854775807) :
    Calls Tryz.prog 18 #[.agg #[.int .i64 R.fr, .int .i64 R.se, .int .i64 R.most, .slice p4 n4 c4, .slice p5 n5 c5], .slice p n c] w fun e w' => ∃ r : Bool, e = .returned (.bool r) ∧ (r = decide (rightAll R.fr R.se ts) ∧ Chg [] w w') := by
  refine go_pomanderref12_Flow_MayAll _ _ _ _ _ _ _ _ _ _ _ _ _ _ ?_
  unfold W_pomanderref12_Flow_MayAll
  intro b1 w1 l1 c1
  refine ⟨fun _ i w' => ∃ j : Nat, i = (j : Int) ∧ j ≤ n ∧ (∀ t ∈ ts.take j, rightT R.fr R.se t) ∧ Chg [] w w' ∧ w1.heap.size ≤ w'.heap.size, fun _ i _ => (n - i).toNat, ⟨0, rfl, by omega, by simp, c1, Nat.le_refl _⟩, ?_⟩
  rintro x1 _ w2 ⟨j, rfl, hj, hr, c2, s2⟩
  refine ⟨fun hlt => ?_, fun hge => ?_⟩
  · have hlt' : j < n := by simpa using hlt
    obtain ⟨t, hx⟩ := get_of (l := ts) (j := j) (by rw [hp.length]; exact hlt')
    have hmem : t ∈ ts := List.mem_of_getElem? hx
    obtain ⟨k1, k2, a, q, qn, qc, rfl, ha, hc, hps⟩ := (hp.chg c2 (by simp)).each j _ hx
    refine ⟨a, rfl, by omega, by omega, fun w3 c3 => ?_⟩
    have hc3 := c3.cells (by simp) hc
    have c03 := c2.trans0 c3
    have s3 := c3.size
    have hbad : ∀ w', Chg [] w w' → ¬ rightT R.fr R.se t → false = decide (rightAll R.fr R.se ts) ∧ Chg [] w w' := fun w' c hb => ⟨by symm; rw [decide_eq_false_iff_not]; exact fun h => hb (h t hmem), c⟩
    refine ⟨t.1.1, t.1.2, by simpa using CellsAt.two hc3, fun b w' => b = decide (t.1 ≠ (0, 0) ∧ ¬ mayP R.fr R.se t.1) ∧ Chg [] w w' ∧ w3.heap.size ≤ w'.heap.size, ?_, fun hne => ?_, fun he => ?_⟩
    · rintro _ w4 ⟨rfl, d4, s4⟩
      refine ⟨fun ht => ?_, fun hf => ?_⟩
      · rw [decide_eq_true_eq] at ht
        exact hbad w4 d4 (fun h => h.1.elim ht.1 ht.2)
      rw [decide_eq_false_iff_not] at hf
      have hto : t.1 = (0, 0) ∨ mayP R.fr R.se t.1 := by
        by_cases h0 : t.1 = (0, 0)
        · exact .inl h0
        · by_cases h1 : mayP R.fr R.se t.1
          · exact .inr h1
          · exact absurd ⟨h0, h1⟩ hf
      refine ⟨fun _ k w' => ∃ i : Nat, k = (i : Int) ∧ i ≤ qn ∧ (∀ p ∈ t.2.take i, mayP R.fr R.se p) ∧ Chg [] w w' ∧ w3.heap.size ≤ w'.heap.size, fun _ k _ => (qn - k).toNat, ⟨0, rfl, by omega, by simp, d4, s4⟩, ?_⟩
      rintro x2 _ w6 ⟨i, rfl, hi, hpr, c6, s6⟩
      obtain ⟨_, _, a', q', qn', qc', ea, _, hc6, hps6⟩ := (hp.chg c6 (by simp)).each j _ hx
      obtain rfl : a = a' := by simpa using ea
      have hql : qn' = t.2.length := hps6.length.symm
      have hql' : qn = t.2.length := hps.length.symm
      have hqn := hin t hmem
      refine ⟨q', qn', qc', by simpa using CellsAt.third hc6, fun hk => ?_, fun hk => ?_⟩
      · have hk' : i < qn := by have : (i : Int) < qn' := by simpa using hk
                                omega
        obtain ⟨y, hy⟩ := get_of (l := t.2) (j := i) (by omega)
        intro w7 c7
        have c07 := c6.trans0 c7
        have s7 := c7.size
        obtain ⟨_, _, a2, rfl, _, hcy⟩ := (hps6.chg c7 (by simp)).each i _ hy
        refine ⟨_, qn', qc', by simpa using CellsAt.third (c7.cells (by simp) hc6), a2, rfl, by omega, by omega, y.1, y.2, by simpa using hcy, ?_⟩
        refine (ref_may R.fr R.se R.most p4 p5 n4 c4 n5 c5 y.1 y.2 hw).mono ?_
        rintro _ w8 ⟨_, rfl, rfl, c8⟩
        have s8 := c8.size
        refine ⟨_, rfl, Same.chg c8 (by simp; omega), fun hb => ?_, fun hb => ?_⟩
        · have hb' : ¬ mayP R.fr R.se (y.1, y.2) := by simpa using hb
          exact hbad w8 (c07.trans0 c8) (fun h => hb' (h.2 y (List.mem_of_getElem? hy)))
        · have hb' : mayP R.fr R.se (y.1, y.2) := by simpa using hb
          rw [wr (by omega) (by omega)]
          refine ⟨⟨i + 1, by omega, by omega, ?_, c07.trans0 c8, by omega⟩, by simp only []; omega⟩
          rw [take_snoc hy]
          intro z hz
          rcases List.mem_append.1 hz with hz | hz
          · exact hpr z hz
          · simp at hz; subst hz; exact hb'
      · have hk' : ¬ (i : Int) < qn' := by simpa using hk
        rw [wr (by omega) (by omega)]
        refine ⟨⟨j + 1, by omega, by omega, ?_, c6, by omega⟩, by simp only []; omega⟩
        rw [take_snoc hx]
        intro z hz
        rcases List.mem_append.1 hz with hz | hz
        · exact hr z hz
        · simp at hz; subst hz
          rw [List.take_of_length_le (by omega)] at hpr
          exact ⟨hto, hpr⟩
    · have hne' : t.1 ≠ (0, 0) := by
        intro e; rw [e] at hne; simp at hne
      refine ⟨t.1.1, t.1.2, by simpa using CellsAt.two hc3, ?_⟩
      refine (ref_may R.fr R.se R.most p4 p5 n4 c4 n5 c5 t.1.1 t.1.2 hw).mono ?_
      rintro _ w5 ⟨_, rfl, rfl, d5⟩
      have s5 := d5.size
      refine ⟨_, rfl, Same.chg d5 (by simp; omega), ?_, c03.trans0 d5, by omega⟩
      rw [← decide_not]
      exact decide_eq_decide.2 ⟨fun h => ⟨hne', h⟩, fun h => h.2⟩
    · have he' : t.1 = (0, 0) := by
        have : t.1.1 = 0 ∧ t.1.2 = 0 := by simpa using he
        exact Prod.ext this.1 this.2
      exact ⟨by symm; rw [decide_eq_false_iff_not]; exact fun h => h.1 he', c03, Nat.le_refl _⟩
  · have hge' : ¬ j < n := by simpa using hge
    rw [List.take_of_length_le (by rw [hp.length]; omega)] at hr
    exact ⟨by symm; rw [decide_eq_true_eq]; exact hr, c2⟩
end Go.Proofs.YtfcfkhbkkfpehaaGreat
end
section
/- The document's flows: Apply. -/
namespace Go.Proofs.YtfcfkhbkkfpehaaGreat
open Go Go.RowKit Go.X
end Go.Proofs.YtfcfkhbkkfpehaaGreat
end
section
namespace Go.Proofs.YtfcfkhbkkfpehaaGreat
open Go Go.X
/- (*pomander/policy.Policy).Alerts -/
def W_policy_Policy_Alerts (p1 : Option Addr) (f1 : Option Addr) (l1 : Option Addr) (l1n : Nat) (l1c : Nat) (w : World) (R : (Option Addr) → Nat → Nat → Int → World → Prop) : Prop :=
 Calls Tryz.prog 47 #[.pointer p1] w fun e w1 => ∃ (r3 : Bool), e = .returned (.bool r3) ∧ ((r3 = true → R none 0 0 1 w1) ∧ (r3 = false → Calls Tryz.prog 38 #[.pointer f1, .slice l1 l1n l1c] w1 fun e w2 => ∃ (r4 : Int) (r5 : Int), e = .returned (.tuple #[.int .u32 r4, .int .i64 r5]) ∧ (((!(r5 == 0)) = true → R none 0 0 r5 w2) ∧ ((!(r5 == 0)) = false → ∃ (I1 : (Option Addr) → Nat → Nat → Int → World → Prop) (m1 : (Option Addr) → Nat → Nat → Int → World → Nat), I1 none 0 0 0 w2 ∧ ∀ (out1 : Option Addr) (out1n : Nat) (out1c : Nat) (x1 : Int) (w3 : World), I1 out1 out1n out1c x1 w3 → ((decide (x1 < (l1n : Int))) = true → ∃ J1 : (Option Addr) → Nat → Nat → World → Prop, (∀ (out2 : Option Addr) (out2n : Nat) (out2c : Nat) (w4 : World), J1 out2 out2n out2c w4 → (I1 out2 out2n out2c (IntKind.wrap .i64 (x1 + 1)) w4 ∧ m1 out2 out2n out2c (IntKind.wrap .i64 (x1 + 1)) w4 < m1 out1 out1n out1c x1 w3)) ∧ (∃ a1 : Addr, l1 = some a1 ∧ (0 : Int) ≤ x1 ∧ x1 < (l1n : Int) ∧ (∃ (t1 : Int) (t2 : Int) (t3 : Option Addr) (t3n : Nat) (t3c : Nat), CellsAt w3 (a1.add (Int.toNat x1 * 3)) 0 [.int .i64 t1, .int .i64 t2, .slice t3 t3n t3c] ∧ (∀ (b1 : Nat) (w6 : World), (w3.heap.size ≤ b1 ∧ b1 < w6.heap.size) → Chg [] w3 w6 → (∀ b2 : Nat, b2 = World.size w6 → ∀ w7 : World, w7 = World.alloc w6 (.cells #[.int .i64 0, .int .i64 0, .slice t3 t3n t3c] 65) → (Calls Tryz.prog 38 #[.pointer f1, .slice (some (⟨b2, 0, none⟩ : Addr)) 1 1] w7 fun e w8 => ∃ (r6 : Int) (r7 : Int), e = .returned (.tuple #[.int .u32 r6, .int .i64 r7]) ∧ (Same w7 w8 [b1] ∧ (∀ (w9 : World), Chg [] w8 w9 → (∃ a2 : Addr, p1 = some a2 ∧ (Calls Tryz.prog 48 #[] w9 fun e w10 => ∃ (r8 : Option Nat), e = .returned (.map r8) ∧ (Same w9 w10 [b1] ∧ (∃ (v1 : Int), (Instr.lookup 116 (.map r8) (.int .i64 t1) false).run Tryz.prog w10 = .ok (.int .i64 v1) w10 ∧ ((0 : Int) ≤ v1 ∧ (v1 : Int) < 5 ∧ (∃ (t4 : Int), w10.cell? ((a2.add 5).add (Int.toNat v1 * 1)) = some (.int .u32 t4) ∧ (((!((bits .and .u32 r6 t4) == 0)) = true → ∀ b3 : Nat, b3 = World.size w10 → ∀ w11 : World, w11 = World.alloc w10 (.cells #[.int .i64 t1, .int .i64 t2, .int .u32 (bits .and .u32 r6 t4)] 118) → (∃ (l2 : Option Addr) (l2n : Nat) (l2c : Nat) (w12 : World), (Builtin.append_ #[49, 49] 49 #[.slice out1 out1n out1c, .slice (some (⟨b3, 0, none⟩ : Addr)) 1 1]).run Tryz.prog w11 = .ok (.slice l2 l2n l2c) w12 ∧ (J1 l2 l2n l2c w12))) ∧ ((!((bits .and .u32 r6 t4) == 0)) = false → J1 out1 out1n out1c w10)))))))))))))))) ∧ ((decide (x1 < (l1n : Int))) = false → R out1 out1n out1c 0 w3)))))
set_option maxRecDepth 100000 in
theorem go_policy_Policy_Alerts (p1 : Option Addr) (f1 : Option Addr) (l1 : Option Addr) (l1n : Nat) (l1c : Nat) (w : World) (R : (Option Addr) → Nat → Nat → Int → World → Prop) (h : W_policy_Policy_Alerts p1 f1 l1 l1n l1c w R) : Calls Tryz.prog 17 #[.pointer p1, .pointer f1, .slice l1 l1n l1c] w (fun e w' => ∃ (r1 : Option Addr) (r1n : Nat) (r1c : Nat) (r2 : Int), e = .returned (.tuple #[.slice r1 r1n r1c, .int .i64 r2]) ∧ R r1 r1n r1c r2 w') := by
 unfold W_policy_Policy_Alerts at h
 refine enter (N := 65) Tryz.func17 rfl rfl ?_
 refine CW.seq ?_
 refine CW.region fun L hL => ?_
 refine LW.rd hL rfl (Wants.free rfl) rfl (Rd.assign (v := .slice none 0 0) rfl) ?_
 refine LW.rd hL rfl (Wants.free rfl) rfl (Rd.assign (v := .int .i64 0) rfl) ?_
 refine LW.nil hL rfl ?_
 refine NW.then ?_
 refine CW.seq ?_
 refine CW.seq ?_
 refine CW.region fun L hL => ?_
 refine LW.rd hL rfl (Wants.free rfl) rfl (Rd.move (v := .pointer p1) rfl) ?_
 refine LW.call hL rfl (Wants.free rfl) rfl (Cl.fn (f := 47) rfl Tryz.func47 (by kernel_rfl) rfl) h (fun e w1 h_ => ?_)
 clear h
 obtain ⟨r3, rfl, h⟩ := h_
 refine ⟨_, rfl, ?_⟩
 refine LW.nil hL rfl ?_
 refine NW.then ?_
 refine CW.cond rfl (fun hb1 => ?_) (fun hb1 => ?_)
 ·replace h := h.1 hb1
  refine CW.seq ?_
  refine CW.region fun L hL => ?_
  refine LW.rd hL rfl (Wants.free rfl) rfl (Rd.assign (v := .slice none 0 0) rfl) ?_
  refine LW.rd hL rfl (Wants.free rfl) rfl (Rd.assign (v := .int .i64 1) rfl) ?_
  refine LW.nil hL rfl ?_
  refine NW.then ?_
  refine CW.ret ?_
  refine RW.then ?_
  exact res2 rfl rfl rfl ⟨none, 0, 0, 1, rfl, h⟩
 ·replace h := h.2 hb1
  refine CW.skip ?_
  refine NW.then ?_
  refine CW.seq ?_
  refine CW.seq ?_
  refine CW.region fun L hL => ?_
  refine LW.rd hL rfl (Wants.free rfl) rfl (Rd.move (v := .pointer f1) rfl) ?_
  refine LW.rd hL rfl (Wants.free rfl) rfl (Rd.move (v := .slice l1 l1n l1c) rfl) ?_
  refine LW.call hL rfl (Wants.free rfl) rfl (Cl.fn (f := 38) rfl Tryz.func38 (by kernel_rfl) rfl) h (fun e w2 h_ => ?_)
  clear h
  obtain ⟨r4, r5, rfl, h⟩ := h_
  refine ⟨_, rfl, ?_⟩
  refine LW.rd hL rfl (Wants.free rfl) rfl (Rd.move (v := .tuple #[.int .u32 r4, .int .i64 r5]) rfl) ?_
  refine LW.rd hL rfl (Wants.free rfl) rfl (Rd.extract (v := .int .u32 r4) rfl rfl) ?_
  refine LW.rd hL rfl (Wants.free rfl) rfl (Rd.extract (v := .int .i64 r5) rfl rfl) ?_
  refine LW.rd hL rfl (Wants.free rfl) rfl (Rd.assign (v := .int .u32 r4) rfl) ?_
  refine LW.rd hL rfl (Wants.free rfl) rfl (Rd.assign (v := .int .i64 r5) rfl) ?_
  refine LW.nil hL rfl ?_
  refine NW.then ?_
  refine CW.seq ?_
  refine CW.region fun L hL => ?_
  refine LW.rd hL rfl (Wants.free rfl) rfl (Rd.move (v := .int .i64 r5) rfl) ?_
  refine LW.rd hL rfl (Wants.free rfl) rfl (Rd.bin (v := .bool (!(r5 == 0))) rfl rfl (fun w => by kernel_rfl)) ?_
  refine LW.nil hL rfl ?_
  refine NW.then ?_
  refine CW.cond rfl (fun hb2 => ?_) (fun hb2 => ?_)
  ·replace h := h.1 hb2
   refine CW.seq ?_
   refine CW.region fun L hL => ?_
   refine LW.rd hL rfl (Wants.free rfl) rfl (Rd.move (v := .int .i64 r5) rfl) ?_
   refine LW.rd hL rfl (Wants.free rfl) rfl (Rd.assign (v := .slice none 0 0) rfl) ?_
   refine LW.rd hL rfl (Wants.free rfl) rfl (Rd.assign (v := .int .i64 r5) rfl) ?_
   refine LW.nil hL rfl ?_
   refine NW.then ?_
   refine CW.ret ?_
   refine RW.then ?_
   exact res2 rfl rfl rfl ⟨none, 0, 0, r5, rfl, h⟩
  ·replace h := h.2 hb2
   refine CW.skip ?_
   refine NW.then ?_
   refine CW.seq ?_
   refine CW.region fun L hL => ?_
   refine LW.rd hL rfl (Wants.free rfl) rfl (Rd.assign (v := .slice none 0 0) rfl) ?_
   refine LW.nil hL rfl ?_
   refine NW.then ?_
   refine CW.seq ?_
   refine CW.seq ?_
   refine CW.region fun L hL => ?_
   refine LW.rd hL rfl (Wants.free rfl) rfl (Rd.move (v := .slice l1 l1n l1c) rfl) ?_
   refine LW.rd hL rfl (Wants.free rfl) rfl (Rd.builtin (v := .int .i64 (l1n : Int)) rfl (fun _ _ => by kernel_rfl)) ?_
   refine LW.rd hL rfl (Wants.free rfl) rfl (Rd.move (v := .int .i64 0) rfl) ?_
   refine LW.nil hL rfl ?_
   refine NW.then ?_
   refine CW.block ?_
   obtain ⟨I1, m1, hI1, h⟩ := h
   refine CW.loop (S := (Option Addr) × Nat × Nat × Int) (fun s1 => [(0, .pointer p1), (1, .pointer f1), (6, .slice none 0 0), (7, .int .i64 0), (26, .slice l1 l1n l1c), (27, .int .i64 (l1n : Int)), (10, .slice s1.1 s1.2.1 s1.2.2.1), (28, .int .i64 s1.2.2.2)]) (fun s1 w3 => I1 s1.1 s1.2.1 s1.2.2.1 s1.2.2.2 w3) (fun s1 w3 => m1 s1.1 s1.2.1 s1.2.2.1 s1.2.2.2 w3) (none, 0, 0, 0) (by exact ⟨rfl, rfl, rfl, rfl, rfl, rfl, rfl, rfl, trivial⟩) hI1 (fun s1 w3 hI1 => ?_)
   obtain ⟨out1, out1n, out1c, x1⟩ := s1; replace h := h out1 out1n out1c x1 w3 hI1
   refine CW.seq ?_
   refine CW.region fun L hL => ?_
   refine LW.rd hL rfl (Wants.free rfl) rfl (Rd.bin (v := .bool (decide (x1 < (l1n : Int)))) rfl rfl (fun w => by kernel_rfl)) ?_
   refine LW.nil hL rfl ?_
   refine NW.then ?_
   refine CW.seq ?_
   refine CW.cond rfl (fun hb3 => ?_) (fun hb3 => ?_)
   ·replace h := h.1 hb3
    refine CW.skip ?_
    refine NW.then ?_
    obtain ⟨J1, hJ1, h⟩ := h
    refine CW.cut (S := (Option Addr) × Nat × Nat) (fun s2 => [(0, .pointer p1), (1, .pointer f1), (6, .slice none 0 0), (7, .int .i64 0), (26, .slice l1 l1n l1c), (27, .int .i64 (l1n : Int)), (28, .int .i64 x1), (10, .slice s2.1 s2.2.1 s2.2.2)]) (fun s2 w4 => J1 s2.1 s2.2.1 s2.2.2 w4) (fun s2 w4 h_ => ?_) ?_
    ·obtain ⟨out2, out2n, out2c⟩ := s2; replace h := hJ1 out2 out2n out2c w4 h_; clear h_
     refine CW.region fun L hL => ?_
     refine LW.rd hL rfl (Wants.free rfl) rfl (Rd.bin (v := .int .i64 (IntKind.wrap .i64 (x1 + 1))) rfl rfl (fun w => by kernel_rfl)) ?_
     refine LW.rd hL rfl (Wants.free rfl) rfl (Rd.move (v := .int .i64 (IntKind.wrap .i64 (x1 + 1))) rfl) ?_
     refine LW.nil hL rfl ?_
     exact NW.loop (S := (Option Addr) × Nat × Nat × Int) (Ek := fun s1 => [(0, .pointer p1), (1, .pointer f1), (6, .slice none 0 0), (7, .int .i64 0), (26, .slice l1 l1n l1c), (27, .int .i64 (l1n : Int)), (10, .slice s1.1 s1.2.1 s1.2.2.1), (28, .int .i64 s1.2.2.2)]) (out2, out2n, out2c, IntKind.wrap .i64 (x1 + 1)) (by exact ⟨rfl, rfl, rfl, rfl, rfl, rfl, rfl, rfl, trivial⟩) h
    ·skip
     refine CW.block ?_
     refine CW.seq ?_
     refine CW.region fun L hL => ?_
     obtain ⟨a1, he1, hi1, hi2, h⟩ := h
     refine LW.rd hL rfl (Wants.free rfl) rfl (Rd.iaS (q := a1) (sz := 3) (by rw [← he1]; rfl) rfl Tryz.underlying27 (by kernel_rfl) hi1 hi2) ?_
     obtain ⟨t1, t2, t3, t3n, t3c, hc1, h⟩ := h
     refine LW.rd hL rfl (Wants.free rfl) rfl (Rd.ldN (cs := [.int .i64 t1, .int .i64 t2, .slice t3 t3n t3c]) rfl (by kernel_rfl) (by kernel_rfl) (cellsS hc1)) ?_
     obtain ⟨b1, hb_b1⟩ : ∃ b1, b1 = World.size w3 := ⟨_, rfl⟩
     obtain ⟨w5, hw_w5⟩ : ∃ w5, w5 = World.alloc w3 (.cells #[.int .i64 0, .int .i64 0, .slice none 0 0] 65) := ⟨_, rfl⟩
     refine LW.val hL rfl (Wants.free rfl) rfl (boxE hb_b1 hw_w5 (Vl.alloc (z := .agg #[.int .i64 0, .int .i64 0, .slice none 0 0]) (by kernel_rfl))) ?_
     have hB := Boxes.alloc (cs := [.int .i64 0, .int .i64 0, .slice none 0 0]) (T := 65) (Boxes.nil w3) hb_b1 hw_w5
     have hlo_b1 := sil_lo (Chg.refl [] w3) hb_b1
     have hc_w5 := sil_alloc (Chg.refl [] w3) hw_w5
     obtain ⟨w6, hw_w6⟩ : ∃ x, x = setCells w5 (⟨b1, 0, none⟩ : Addr) 0 [.int .i64 t1, .int .i64 t2, .slice t3 t3n t3c] := ⟨_, rfl⟩
     refine LW.eff hL rfl (Wants.free rfl) rfl (stNE hw_w6 (Ef.stN (cs := [.int .i64 t1, .int .i64 t2, .slice t3 t3n t3c]) rfl rfl (by kernel_rfl) (List.forall_mem_cons.2 ⟨rfl, (List.forall_mem_cons.2 ⟨rfl, (List.forall_mem_cons.2 ⟨rfl, (List.forall_mem_nil _)⟩)⟩)⟩) (has_of (hB.at (i := 0) rfl) (by simp)) (free_of' (hB.at (i := 0) rfl)))) ?_
     replace hB : Boxes w6 [(b1, [.int .i64 t1, .int .i64 t2, .slice t3 t3n t3c], 65)] := Boxes.store (vs := [.int .i64 t1, .int .i64 t2, .slice t3 t3n t3c]) (i := 0) (o := 0) hB rfl rfl rfl rfl hw_w6
     have hc_w6 := sil_new hc_w5 (sil_cN hw_w6) hlo_b1
     refine LW.nil hL rfl ?_
     refine NW.then ?_
     refine CW.seq ?_
     refine CW.region fun L hL => ?_
     refine LW.rd hL rfl (Wants.free rfl) rfl (Rd.move (v := .pointer f1) rfl) ?_
     refine LW.rd hL rfl (Wants.free rfl) rfl (Rd.fa (v := .pointer (some (⟨b1, 2, none⟩ : Addr))) rfl (fun _ => by kernel_rfl)) ?_
     refine LW.rd hL rfl (Wants.free rfl) rfl (Rd.ld (v := .slice t3 t3n t3c) rfl (by kernel_rfl) (eqs (box_cell (hB.at (i := 0) rfl) rfl))) ?_
     refine LW.rd hL rfl (Wants.free rfl) rfl (Rd.build (v := .agg #[.int .i64 0, .int .i64 0, .slice t3 t3n t3c]) rfl (fun _ => by kernel_rfl)) ?_
     replace h := h b1 w6 ⟨hlo_b1, lt_of_heap (hB.at (i := 0) rfl)⟩ hc_w6
     obtain ⟨b2, hb_b2⟩ : ∃ b2, b2 = World.size w6 := ⟨_, rfl⟩
     obtain ⟨w7, hw_w7⟩ : ∃ w7, w7 = World.alloc w6 (.cells #[.int .i64 0, .int .i64 0, .slice t3 t3n t3c] 65) := ⟨_, rfl⟩
     replace h := h b2 hb_b2 w7 hw_w7
     refine LW.val hL rfl (Wants.free rfl) rfl (sliceE (n := 1) hb_b2 hw_w7 (fun w => Vl.buildSlice (vs := [(0, .agg #[.int .i64 0, .int .i64 0, .slice t3 t3n t3c])]) rfl (by kernel_rfl))) ?_
     replace hB := hB.grow hw_w7
     refine LW.call hL rfl (Wants.free rfl) rfl (Cl.fn (f := 38) rfl Tryz.func38 (by kernel_rfl) rfl) h (fun e w8 h_ => ?_)
     clear h
     obtain ⟨r6, r7, rfl, h⟩ := h_
     obtain ⟨hsm1, h⟩ := h
     replace hB := Boxes.sameS hB hsm1 (by simp)
     refine ⟨_, rfl, ?_⟩
     refine LW.rd hL rfl (Wants.free rfl) rfl (Rd.move (v := .tuple #[.int .u32 r6, .int .i64 r7]) rfl) ?_
     refine LW.rd hL rfl (Wants.free rfl) rfl (Rd.extract (v := .int .u32 r6) rfl rfl) ?_
     refine LW.rd hL rfl (Wants.free rfl) rfl (Rd.extract (v := .int .i64 r7) rfl rfl) ?_
     refine LW.rd hL rfl (Wants.free rfl) rfl (Rd.assign (v := .int .u32 r6) rfl) ?_
     refine LW.rd hL rfl (Wants.free rfl) rfl (Rd.assign (v := .int .i64 r7) rfl) ?_
     refine LW.nil hL rfl ?_
     refine NW.then ?_
     refine CW.seq ?_
     obtain ⟨w9, hw_w9⟩ : ∃ x, x = World.drew w8 := ⟨_, rfl⟩
     have hc_w9 := sil_drew (Chg.refl [] w8) hw_w9
     replace hB := hB.drew hw_w9
     replace h := h  w9  hc_w9
     obtain ⟨a2, ha1, h⟩ := h
     refine CW.drawn (fun w => Boxes w [(b1, [.int .i64 t1, .int .i64 t2, .slice t3 t3n t3c], 65)]) 14 (by kernel_rfl) fun H hH => ?_
     rw [← hw_w9]
     have hS1 : Boxes w9 [(b1, [.int .i64 t1, .int .i64 t2, .slice t3 t3n t3c], 65)] := hB
     refine HW.pure (i := 0) hH rfl (by kernel_rfl) (Wants.free rfl) rfl (fun _ => hS1) (Rd.move (v := .int .u32 r6) rfl) ?_
     refine HW.pure (i := 1) hH rfl (by kernel_rfl) (Wants.free rfl) rfl (fun _ => hS1) (Rd.move (v := .pointer p1) rfl) ?_
     refine HW.pure (i := 3) hH rfl (by kernel_rfl) (Wants.free rfl) rfl (fun _ => hS1) (Rd.fa (v := .pointer (some (⟨b1, 0, none⟩ : Addr))) rfl (fun _ => by kernel_rfl)) ?_
     refine HW.pure (i := 4) hH rfl (by kernel_rfl) (Wants.free rfl) rfl (fun _ => hS1) (Rd.fa (v := .pointer (some (⟨b1, 0, none⟩ : Addr))) rfl (fun _ => by kernel_rfl)) ?_
     refine HW.take (i := 5) hH rfl (by kernel_rfl) (by kernel_rfl) (Wants.free rfl) rfl (fun _ => hS1) (Rd.ld (v := .int .i64 t1) rfl (by kernel_rfl) (fun w h => box_cell (Boxes.at (i := 0) h rfl) rfl)) ?_
     refine HW.pure (i := 7) hH rfl (by kernel_rfl) (Wants.free rfl) rfl (fun _ => hS1) (Rd.nil (q := a2) (by rw [← ha1]; rfl)) ?_
     refine HW.pure (i := 8) hH rfl (by kernel_rfl) (Wants.free rfl) rfl (fun _ => hS1) (Rd.fa (v := .pointer (some a2)) rfl (fun _ => by kernel_rfl)) ?_
     refine HW.pure (i := 9) hH rfl (by kernel_rfl) (Wants.free rfl) rfl (fun _ => hS1) (Rd.fa (v := .pointer (some (a2.add 5))) rfl (fun _ => by kernel_rfl)) ?_
     refine HW.call (i := 2) hH (by kernel_rfl) rfl (Wants.free rfl) rfl (Cl.fn (f := 48) rfl Tryz.func48 (by kernel_rfl) rfl) h (fun e w10 h_ => ?_)
     clear h
     obtain ⟨r8, rfl, h⟩ := h_
     obtain ⟨hsm2, h⟩ := h
     replace hB := Boxes.sameS hB hsm2 (by simp)
     have hS2 : Boxes w10 [(b1, [.int .i64 t1, .int .i64 t2, .slice t3 t3n t3c], 65)] := hB
     refine ⟨_, rfl, (fun _ => hS2), ?_⟩
     obtain ⟨v1, hl1, h⟩ := h
     refine HW.val (i := 6) hH (by kernel_rfl) rfl (Wants.free rfl) rfl (fun a ha => (Rd.lookup (v := .int .i64 v1) rfl rfl (fun _ e => e ▸ hl1)) a ha _ rfl) (fun _ => hS2) ?_
     obtain ⟨hi3, hi4, h⟩ := h
     refine HW.pure (i := 10) hH rfl (by kernel_rfl) (Wants.free rfl) rfl (fun _ => hS2) (Rd.iaA (sz := 1) rfl rfl Tryz.underlying23 (by kernel_rfl) hi3 hi4) ?_
     obtain ⟨t4, hc2, h⟩ := h
     refine HW.val (i := 11) hH (by kernel_rfl) rfl (Wants.free rfl) rfl (fun a ha => (Rd.ld (v := .int .u32 t4) rfl (by kernel_rfl) (eqs hc2)) a ha _ rfl) (fun _ => hS2) ?_
     refine HW.pure (i := 12) hH rfl (by kernel_rfl) (Wants.free rfl) rfl (fun _ => hS2) (Rd.bin (v := .int .u32 (bits .and .u32 r6 t4)) rfl rfl (fun w => by kernel_rfl)) ?_
     refine HW.pure (i := 13) hH rfl (by kernel_rfl) (Wants.free rfl) rfl (fun _ => hS2) (Rd.assign (v := .int .u32 (bits .and .u32 r6 t4)) rfl) ?_
     refine HW.done hH (by kernel_rfl) ?_
     refine NW.then ?_
     refine CW.seq ?_
     refine CW.region fun L hL => ?_
     refine LW.rd hL rfl (Wants.free rfl) rfl (Rd.move (v := .int .u32 (bits .and .u32 r6 t4)) rfl) ?_
     refine LW.rd hL rfl (Wants.free rfl) rfl (Rd.bin (v := .bool (!((bits .and .u32 r6 t4) == 0))) rfl rfl (fun w => by kernel_rfl)) ?_
     refine LW.nil hL rfl ?_
     refine NW.then ?_
     refine CW.cond rfl (fun hb4 => ?_) (fun hb4 => ?_)
     ·replace h := h.1 hb4
      refine CW.region fun L hL => ?_
      refine LW.rd hL rfl (Wants.free rfl) rfl (Rd.move (v := .slice out1 out1n out1c) rfl) ?_
      refine LW.rd hL rfl (Wants.free rfl) rfl (Rd.fa (v := .pointer (some (⟨b1, 0, none⟩ : Addr))) rfl (fun _ => by kernel_rfl)) ?_
      refine LW.rd hL rfl (Wants.free rfl) rfl (Rd.ldN (cs := [.int .i64 t1, .int .i64 t2]) rfl (by kernel_rfl) (by kernel_rfl) (cellsS (box_cells (hB.at (i := 0) rfl) rfl))) ?_
      refine LW.rd hL rfl (Wants.free rfl) rfl (Rd.move (v := .int .u32 (bits .and .u32 r6 t4)) rfl) ?_
      refine LW.rd hL rfl (Wants.free rfl) rfl (Rd.build (v := .agg #[.int .i64 t1, .int .i64 t2, .int .u32 (bits .and .u32 r6 t4)]) rfl (fun _ => by kernel_rfl)) ?_
      obtain ⟨b3, hb_b3⟩ : ∃ b3, b3 = World.size w10 := ⟨_, rfl⟩
      obtain ⟨w11, hw_w11⟩ : ∃ w11, w11 = World.alloc w10 (.cells #[.int .i64 t1, .int .i64 t2, .int .u32 (bits .and .u32 r6 t4)] 118) := ⟨_, rfl⟩
      replace h := h b3 hb_b3 w11 hw_w11
      refine LW.val hL rfl (Wants.free rfl) rfl (sliceE (n := 1) hb_b3 hw_w11 (fun w => Vl.buildSlice (vs := [(0, .agg #[.int .i64 t1, .int .i64 t2, .int .u32 (bits .and .u32 r6 t4)])]) rfl (by kernel_rfl))) ?_
      replace hB := hB.grow hw_w11
      obtain ⟨l2, l2n, l2c, w12, ha2, h⟩ := h
      refine LW.val hL rfl (Wants.free rfl) rfl (Vl.builtin (v := .slice l2 l2n l2c) rfl (valB ha2)) ?_
      refine LW.rd hL rfl (Wants.free rfl) rfl (Rd.assign (v := .slice l2 l2n l2c) rfl) ?_
      refine LW.nil hL rfl ?_
      refine NW.block ?_
      exact NW.cut (S := (Option Addr) × Nat × Nat) (Ek := fun s2 => [(0, .pointer p1), (1, .pointer f1), (6, .slice none 0 0), (7, .int .i64 0), (26, .slice l1 l1n l1c), (27, .int .i64 (l1n : Int)), (28, .int .i64 x1), (10, .slice s2.1 s2.2.1 s2.2.2)]) (l2, l2n, l2c) (by exact ⟨rfl, rfl, rfl, rfl, rfl, rfl, rfl, rfl, trivial⟩) h
     ·replace h := h.2 hb4
      refine CW.skip ?_
      refine NW.block ?_
      exact NW.cut (S := (Option Addr) × Nat × Nat) (Ek := fun s2 => [(0, .pointer p1), (1, .pointer f1), (6, .slice none 0 0), (7, .int .i64 0), (26, .slice l1 l1n l1c), (27, .int .i64 (l1n : Int)), (28, .int .i64 x1), (10, .slice s2.1 s2.2.1 s2.2.2)]) (out1, out1n, out1c) (by exact ⟨rfl, rfl, rfl, rfl, rfl, rfl, rfl, rfl, trivial⟩) h
   ·replace h := h.2 hb3
    refine CW.exit ?_
    refine XW.then ?_
    refine XW.then ?_
    refine XW.hit ?_
    refine NW.then ?_
    refine CW.seq ?_
    refine CW.region fun L hL => ?_
    refine LW.rd hL rfl (Wants.free rfl) rfl (Rd.move (v := .slice out1 out1n out1c) rfl) ?_
    refine LW.rd hL rfl (Wants.free rfl) rfl (Rd.assign (v := .slice out1 out1n out1c) rfl) ?_
    refine LW.rd hL rfl (Wants.free rfl) rfl (Rd.assign (v := .int .i64 0) rfl) ?_
    refine LW.nil hL rfl ?_
    refine NW.then ?_
    refine CW.ret ?_
    exact res2 rfl rfl rfl ⟨out1, out1n, out1c, 0, rfl, h⟩
/- pomander/policy.sinks -/
def W_policy_sinks  (w : World) (R : (Option Nat) → World → Prop) : Prop :=
 ∀ b1 : Nat, b1 = World.size w → ∀ w1 : World, w1 = World.alloc w (.map #[] 0) → (∃ w2 : World, (Instr.mapUpdate 116 (.map (some b1)) (.int .i64 14) (.int .i64 1)).run Tryz.prog w1 = .ok () w2 ∧ (∃ w3 : World, (Instr.mapUpdate 116 (.map (some b1)) (.int .i64 16) (.int .i64 2)).run Tryz.prog w2 = .ok () w3 ∧ (∃ w4 : World, (Instr.mapUpdate 116 (.map (some b1)) (.int .i64 12) (.int .i64 3)).run Tryz.prog w3 = .ok () w4 ∧ (∃ w5 : World, (Instr.mapUpdate 116 (.map (some b1)) (.int .i64 2) (.int .i64 4)).run Tryz.prog w4 = .ok () w5 ∧ (R (some b1) w5)))))
set_option maxRecDepth 100000 in
theorem go_policy_sinks  (w : World) (R : (Option Nat) → World → Prop) (h : W_policy_sinks  w R) : Calls Tryz.prog 48 #[] w (fun e w' => ∃ (r1 : Option Nat), e = .returned (.map r1) ∧ R r1 w') := by
 unfold W_policy_sinks at h
 refine enter (N := 3) Tryz.func48 rfl rfl ?_
 refine CW.seq ?_
 refine CW.region fun L hL => ?_
 refine LW.rd hL rfl (Wants.free rfl) rfl (Rd.assign (v := .map none) rfl) ?_
 refine LW.nil hL rfl ?_
 refine NW.then ?_
 refine CW.seq ?_
 refine CW.region fun L hL => ?_
 obtain ⟨b1, hb_b1⟩ : ∃ b1, b1 = World.size w := ⟨_, rfl⟩
 obtain ⟨w1, hw_w1⟩ : ∃ w1, w1 = World.alloc w (.map #[] 0) := ⟨_, rfl⟩
 replace h := h b1 hb_b1 w1 hw_w1
 refine LW.val hL rfl (Wants.free rfl) rfl (mapE hb_b1 hw_w1 Vl.makeMap) ?_
 obtain ⟨w2, hm1, h⟩ := h
 refine LW.eff hL rfl (Wants.free rfl) rfl (Ef.insert rfl rfl rfl hm1) ?_
 obtain ⟨w3, hm2, h⟩ := h
 refine LW.eff hL rfl (Wants.free rfl) rfl (Ef.insert rfl rfl rfl hm2) ?_
 obtain ⟨w4, hm3, h⟩ := h
 refine LW.eff hL rfl (Wants.free rfl) rfl (Ef.insert rfl rfl rfl hm3) ?_
 obtain ⟨w5, hm4, h⟩ := h
 refine LW.eff hL rfl (Wants.free rfl) rfl (Ef.insert rfl rfl rfl hm4) ?_
 refine LW.rd hL rfl (Wants.free rfl) rfl (Rd.move (v := .map (some b1)) rfl) ?_
 refine LW.rd hL rfl (Wants.free rfl) rfl (Rd.assign (v := .map (some b1)) rfl) ?_
 refine LW.nil hL rfl ?_
 refine NW.then ?_
 refine CW.ret ?_
 exact res1 rfl rfl ⟨some b1, rfl, h⟩
/- pomander/pomanderref12.MayRules -/
def W_pomanderref12_MayRules (r1 : Int) (r2 : Int) (r3 : Int) (r4 : Int) (r5 : Int) (r6 : Int) (r7 : Int) (r8 : Int) (r9 : Int) (r10 : Int) (r11 : Int) (w : World) (R : Bool → World → Prop) : Prop :=
 ∀ b1 : Nat, b1 = World.size w → ∀ w1 : World, w1 = World.alloc w (.cells #[.int .u32 r1, .int .u32 r2, .int .u32 r3, .int .u32 r4, .int .u32 r5, .int .u32 r6, .int .u32 r7, .int .u32 r8, .int .u32 r9, .int .u32 r10, .int .u32 r11] 25) → ((0 : Int) ≤ 0 ∧ (0 : Int) < 5 ∧ (∃ (t1 : Int), w1.cell? ((⟨b1, 0, none⟩ : Addr).add (Int.toNat 0 * 1)) = some (.int .u32 t1) ∧ (∃ J1 : Bool → World → Prop, (∀ (b2 : Bool) (w2 : World), J1 b2 w2 → ∃ J2 : Bool → World → Prop, (∀ (b3 : Bool) (w3 : World), J2 b3 w3 → ∃ (I1 : Bool → Int → World → Prop) (m1 : Bool → Int → World → Nat), I1 b3 0 w3 ∧ ∀ (ok1 : Bool) (i1 : Int) (w4 : World), I1 ok1 i1 w4 → ((decide (i1 < 5)) = true → ∃ J3 : Bool → World → Prop, (∀ (b4 : Bool) (w5 : World), J3 b4 w5 → ∃ J4 : Bool → World → Prop, (∀ (b5 : Bool) (w6 : World), J4 b5 w6 → (I1 b5 (IntKind.wrap .i64 (i1 + 1)) w6 ∧ m1 b5 (IntKind.wrap .i64 (i1 + 1)) w6 < m1 ok1 i1 w4)) ∧ ((b4 = true → (0 : Int) ≤ i1 ∧ (i1 : Int) < 5 ∧ (∃ (t5 : Int), w5.cell? ((⟨b1, 5, none⟩ : Addr).add (Int.toNat i1 * 1)) = some (.int .u32 t5) ∧ (J4 (decide (t5 < 65536)) w5))) ∧ (b4 = false → J4 false w5))) ∧ ((ok1 = true → (0 : Int) ≤ i1 ∧ (i1 : Int) < 5 ∧ (∃ (t4 : Int), w4.cell? ((⟨b1, 0, none⟩ : Addr).add (Int.toNat i1 * 1)) = some (.int .u32 t4) ∧ (J3 (decide (t4 < 65536)) w4))) ∧ (ok1 = false → J3 false w4))) ∧ ((decide (i1 < 5)) = false → R ok1 w4)) ∧ ((b2 = true → ∃ (t3 : Int), w2.cell? (⟨b1, 10, none⟩ : Addr) = some (.int .u32 t3) ∧ (J2 (decide (t3 < 65536)) w2)) ∧ (b2 = false → J2 false w2))) ∧ (((t1 == 0) = true → (0 : Int) ≤ 0 ∧ (0 : Int) < 5 ∧ (∃ (t2 : Int), w1.cell? ((⟨b1, 5, none⟩ : Addr).add (Int.toNat 0 * 1)) = some (.int .u32 t2) ∧ (J1 (t2 == 0) w1))) ∧ ((t1 == 0) = false → J1 false w1)))))
set_option maxRecDepth 100000 in
theorem go_pomanderref12_MayRules (r1 : Int) (r2 : Int) (r3 : Int) (r4 : Int) (r5 : Int) (r6 : Int) (r7 : Int) (r8 : Int) (r9 : Int) (r10 : Int) (r11 : Int) (w : World) (R : Bool → World → Prop) (h : W_pomanderref12_MayRules r1 r2 r3 r4 r5 r6 r7 r8 r9 r10 r11 w R) : Calls Tryz.prog 13 #[.agg #[.int .u32 r1, .int .u32 r2, .int .u32 r3, .int .u32 r4, .int .u32 r5, .int .u32 r6, .int .u32 r7, .int .u32 r8, .int .u32 r9, .int .u32 r10, .int .u32 r11]] w (fun e w' => ∃ (r12 : Bool), e = .returned (.bool r12) ∧ R r12 w') := by
 unfold W_pomanderref12_MayRules at h
 refine enter (N := 40) Tryz.func13 rfl rfl ?_
 refine CW.seq ?_
 refine CW.region fun L hL => ?_
 obtain ⟨b1, hb_b1⟩ : ∃ b1, b1 = World.size w := ⟨_, rfl⟩
 obtain ⟨w1, hw_w1⟩ : ∃ w1, w1 = World.alloc w (.cells #[.int .u32 r1, .int .u32 r2, .int .u32 r3, .int .u32 r4, .int .u32 r5, .int .u32 r6, .int .u32 r7, .int .u32 r8, .int .u32 r9, .int .u32 r10, .int .u32 r11] 25) := ⟨_, rfl⟩
 replace h := h b1 hb_b1 w1 hw_w1
 refine LW.val hL rfl (Wants.free rfl) rfl (boxE hb_b1 hw_w1 (Vl.box (v := .agg #[.int .u32 r1, .int .u32 r2, .int .u32 r3, .int .u32 r4, .int .u32 r5, .int .u32 r6, .int .u32 r7, .int .u32 r8, .int .u32 r9, .int .u32 r10, .int .u32 r11]) rfl)) ?_
 refine LW.rd hL rfl (Wants.free rfl) rfl (Rd.assign (v := .bool false) rfl) ?_
 refine LW.nil hL rfl ?_
 refine NW.then ?_
 refine CW.seq ?_
 refine CW.region fun L hL => ?_
 refine LW.rd hL rfl (Wants.free rfl) rfl (Rd.fa (v := .pointer (some (⟨b1, 0, none⟩ : Addr))) rfl (fun _ => by kernel_rfl)) ?_
 obtain ⟨hi1, hi2, h⟩ := h
 refine LW.rd hL rfl (Wants.free rfl) rfl (Rd.iaA (sz := 1) rfl rfl Tryz.underlying23 (by kernel_rfl) hi1 hi2) ?_
 obtain ⟨t1, hc1, h⟩ := h
 refine LW.rd hL rfl (Wants.free rfl) rfl (Rd.ld (v := .int .u32 t1) rfl (by kernel_rfl) (eqs hc1)) ?_
 refine LW.rd hL rfl (Wants.free rfl) rfl (Rd.bin (v := .bool (t1 == 0)) rfl rfl (fun w => by kernel_rfl)) ?_
 refine LW.rd hL rfl (Wants.free rfl) rfl (Rd.move (v := .bool (t1 == 0)) rfl) ?_
 obtain ⟨J1, hJ1, h1_J1, h0_J1⟩ := h
 suffices K1 : ∀ (b2 : Bool) (w2 : World), J1 b2 w2 → L 10 [(1, .pointer (some (⟨b1, 0, none⟩ : Addr))), (2, .bool false), (14, .bool b2)] w2 by
  rcases Bool.eq_false_or_eq_true (t1 == 0) with hb1 | hb1
  ·have h := h1_J1 hb1
   refine LW.rd hL rfl (Wants.on rfl rfl rfl rfl rfl hb1) rfl (Rd.fa (v := .pointer (some (⟨b1, 5, none⟩ : Addr))) rfl (fun _ => by kernel_rfl)) ?_
   obtain ⟨hi3, hi4, h⟩ := h
   refine LW.rd hL rfl (Wants.on rfl rfl rfl rfl rfl hb1) rfl (Rd.iaA (sz := 1) rfl rfl Tryz.underlying23 (by kernel_rfl) hi3 hi4) ?_
   obtain ⟨t2, hc2, h⟩ := h
   refine LW.rd hL rfl (Wants.on rfl rfl rfl rfl rfl hb1) rfl (Rd.ld (v := .int .u32 t2) rfl (by kernel_rfl) (eqs hc2)) ?_
   refine LW.rd hL rfl (Wants.on rfl rfl rfl rfl rfl hb1) rfl (Rd.bin (v := .bool (t2 == 0)) rfl rfl (fun w => by kernel_rfl)) ?_
   refine LW.rd hL rfl (Wants.free rfl) rfl (Rd.pickT rfl hb1 rfl) ?_
   exact LW.sub hL (by exact ⟨rfl, rfl, rfl, trivial⟩) (K1 (t2 == 0) w1 h)
  ·have h := h0_J1 hb1
   refine LW.skip hL rfl (Skips.on rfl rfl rfl rfl rfl hb1) rfl ?_
   refine LW.skip hL rfl (Skips.on rfl rfl rfl rfl rfl hb1) rfl ?_
   refine LW.skip hL rfl (Skips.on rfl rfl rfl rfl rfl hb1) rfl ?_
   refine LW.skip hL rfl (Skips.on rfl rfl rfl rfl rfl hb1) rfl ?_
   refine LW.rd hL rfl (Wants.free rfl) rfl (Rd.pickF rfl hb1 rfl) ?_
   exact LW.sub hL (by exact ⟨rfl, rfl, rfl, trivial⟩) (K1 false w1 h)
 intro b2 w2 h_
 have h := hJ1 b2 w2 h_; clear h_
 refine LW.rd hL rfl (Wants.free rfl) rfl (Rd.move (v := .bool b2) rfl) ?_
 obtain ⟨J2, hJ2, h1_J2, h0_J2⟩ := h
 suffices K2 : ∀ (b3 : Bool) (w3 : World), J2 b3 w3 → L 15 [(1, .pointer (some (⟨b1, 0, none⟩ : Addr))), (2, .bool false), (19, .bool b3)] w3 by
  rcases Bool.eq_false_or_eq_true b2 with hb2 | hb2
  ·have h := h1_J2 hb2
   refine LW.rd hL rfl (Wants.on rfl rfl rfl rfl rfl hb2) rfl (Rd.fa (v := .pointer (some (⟨b1, 10, none⟩ : Addr))) rfl (fun _ => by kernel_rfl)) ?_
   obtain ⟨t3, hc3, h⟩ := h
   refine LW.rd hL rfl (Wants.on rfl rfl rfl rfl rfl hb2) rfl (Rd.ld (v := .int .u32 t3) rfl (by kernel_rfl) (eqs hc3)) ?_
   refine LW.rd hL rfl (Wants.on rfl rfl rfl rfl rfl hb2) rfl (Rd.bin (v := .bool (decide (t3 < 65536))) rfl rfl (fun w => by kernel_rfl)) ?_
   refine LW.rd hL rfl (Wants.free rfl) rfl (Rd.pickT rfl hb2 rfl) ?_
   exact LW.sub hL (by exact ⟨rfl, rfl, rfl, trivial⟩) (K2 (decide (t3 < 65536)) w2 h)
  ·have h := h0_J2 hb2
   refine LW.skip hL rfl (Skips.on rfl rfl rfl rfl rfl hb2) rfl ?_
   refine LW.skip hL rfl (Skips.on rfl rfl rfl rfl rfl hb2) rfl ?_
   refine LW.skip hL rfl (Skips.on rfl rfl rfl rfl rfl hb2) rfl ?_
   refine LW.rd hL rfl (Wants.free rfl) rfl (Rd.pickF rfl hb2 rfl) ?_
   exact LW.sub hL (by exact ⟨rfl, rfl, rfl, trivial⟩) (K2 false w2 h)
 intro b3 w3 h_
 have h := hJ2 b3 w3 h_; clear h_
 refine LW.rd hL rfl (Wants.free rfl) rfl (Rd.assign (v := .bool b3) rfl) ?_
 refine LW.nil hL rfl ?_
 refine NW.then ?_
 refine CW.seq ?_
 refine CW.seq ?_
 refine CW.region fun L hL => ?_
 refine LW.rd hL rfl (Wants.free rfl) rfl (Rd.assign (v := .int .i64 0) rfl) ?_
 refine LW.nil hL rfl ?_
 refine NW.then ?_
 refine CW.block ?_
 obtain ⟨I1, m1, hI1, h⟩ := h
 refine CW.loop (S := Bool × Int) (fun s1 => [(1, .pointer (some (⟨b1, 0, none⟩ : Addr))), (2, .bool false), (3, .bool s1.1), (4, .int .i64 s1.2)]) (fun s1 w4 => I1 s1.1 s1.2 w4) (fun s1 w4 => m1 s1.1 s1.2 w4) (b3, 0) (by exact ⟨rfl, rfl, rfl, rfl, trivial⟩) hI1 (fun s1 w4 hI1 => ?_)
 obtain ⟨ok1, i1⟩ := s1; replace h := h ok1 i1 w4 hI1
 refine CW.seq ?_
 refine CW.seq ?_
 refine CW.region fun L hL => ?_
 refine LW.rd hL rfl (Wants.free rfl) rfl (Rd.move (v := .int .i64 i1) rfl) ?_
 refine LW.rd hL rfl (Wants.free rfl) rfl (Rd.bin (v := .bool (decide (i1 < 5))) rfl rfl (fun w => by kernel_rfl)) ?_
 refine LW.nil hL rfl ?_
 refine NW.then ?_
 refine CW.cond rfl (fun hb3 => ?_) (fun hb3 => ?_)
 ·replace h := h.1 hb3
  refine CW.skip ?_
  refine NW.then ?_
  refine CW.seq ?_
  refine CW.block ?_
  refine CW.region fun L hL => ?_
  refine LW.rd hL rfl (Wants.free rfl) rfl (Rd.move (v := .bool ok1) rfl) ?_
  refine LW.rd hL rfl (Wants.free rfl) rfl (Rd.move (v := .bool ok1) rfl) ?_
  obtain ⟨J3, hJ3, h1_J3, h0_J3⟩ := h
  suffices K3 : ∀ (b4 : Bool) (w5 : World), J3 b4 w5 → L 8 [(1, .pointer (some (⟨b1, 0, none⟩ : Addr))), (2, .bool false), (3, .bool ok1), (4, .int .i64 i1), (31, .bool b4)] w5 by
   rcases Bool.eq_false_or_eq_true ok1 with hb4 | hb4
   ·have h := h1_J3 hb4
    refine LW.rd hL rfl (Wants.on rfl rfl rfl rfl rfl hb4) rfl (Rd.move (v := .int .i64 i1) rfl) ?_
    refine LW.rd hL rfl (Wants.on rfl rfl rfl rfl rfl hb4) rfl (Rd.fa (v := .pointer (some (⟨b1, 0, none⟩ : Addr))) rfl (fun _ => by kernel_rfl)) ?_
    obtain ⟨hi5, hi6, h⟩ := h
    refine LW.rd hL rfl (Wants.on rfl rfl rfl rfl rfl hb4) rfl (Rd.iaA (sz := 1) rfl rfl Tryz.underlying23 (by kernel_rfl) hi5 hi6) ?_
    obtain ⟨t4, hc4, h⟩ := h
    refine LW.rd hL rfl (Wants.on rfl rfl rfl rfl rfl hb4) rfl (Rd.ld (v := .int .u32 t4) rfl (by kernel_rfl) (eqs hc4)) ?_
    refine LW.rd hL rfl (Wants.on rfl rfl rfl rfl rfl hb4) rfl (Rd.bin (v := .bool (decide (t4 < 65536))) rfl rfl (fun w => by kernel_rfl)) ?_
    refine LW.rd hL rfl (Wants.free rfl) rfl (Rd.pickT rfl hb4 rfl) ?_
    exact LW.sub hL (by exact ⟨rfl, rfl, rfl, rfl, rfl, trivial⟩) (K3 (decide (t4 < 65536)) w4 h)
   ·have h := h0_J3 hb4
    refine LW.skip hL rfl (Skips.on rfl rfl rfl rfl rfl hb4) rfl ?_
    refine LW.skip hL rfl (Skips.on rfl rfl rfl rfl rfl hb4) rfl ?_
    refine LW.skip hL rfl (Skips.on rfl rfl rfl rfl rfl hb4) rfl ?_
    refine LW.skip hL rfl (Skips.on rfl rfl rfl rfl rfl hb4) rfl ?_
    refine LW.skip hL rfl (Skips.on rfl rfl rfl rfl rfl hb4) rfl ?_
    refine LW.rd hL rfl (Wants.free rfl) rfl (Rd.pickF rfl hb4 rfl) ?_
    exact LW.sub hL (by exact ⟨rfl, rfl, rfl, rfl, rfl, trivial⟩) (K3 false w4 h)
  intro b4 w5 h_
  have h := hJ3 b4 w5 h_; clear h_
  refine LW.rd hL rfl (Wants.free rfl) rfl (Rd.move (v := .bool b4) rfl) ?_
  obtain ⟨J4, hJ4, h1_J4, h0_J4⟩ := h
  suffices K4 : ∀ (b5 : Bool) (w6 : World), J4 b5 w6 → L 15 [(1, .pointer (some (⟨b1, 0, none⟩ : Addr))), (2, .bool false), (3, .bool ok1), (4, .int .i64 i1), (38, .bool b5)] w6 by
   rcases Bool.eq_false_or_eq_true b4 with hb5 | hb5
   ·have h := h1_J4 hb5
    refine LW.rd hL rfl (Wants.on rfl rfl rfl rfl rfl hb5) rfl (Rd.move (v := .int .i64 i1) rfl) ?_
    refine LW.rd hL rfl (Wants.on rfl rfl rfl rfl rfl hb5) rfl (Rd.fa (v := .pointer (some (⟨b1, 5, none⟩ : Addr))) rfl (fun _ => by kernel_rfl)) ?_
    obtain ⟨hi7, hi8, h⟩ := h
    refine LW.rd hL rfl (Wants.on rfl rfl rfl rfl rfl hb5) rfl (Rd.iaA (sz := 1) rfl rfl Tryz.underlying23 (by kernel_rfl) hi7 hi8) ?_
    obtain ⟨t5, hc5, h⟩ := h
    refine LW.rd hL rfl (Wants.on rfl rfl rfl rfl rfl hb5) rfl (Rd.ld (v := .int .u32 t5) rfl (by kernel_rfl) (eqs hc5)) ?_
    refine LW.rd hL rfl (Wants.on rfl rfl rfl rfl rfl hb5) rfl (Rd.bin (v := .bool (decide (t5 < 65536))) rfl rfl (fun w => by kernel_rfl)) ?_
    refine LW.rd hL rfl (Wants.free rfl) rfl (Rd.pickT rfl hb5 rfl) ?_
    exact LW.sub hL (by exact ⟨rfl, rfl, rfl, rfl, rfl, trivial⟩) (K4 (decide (t5 < 65536)) w5 h)
   ·have h := h0_J4 hb5
    refine LW.skip hL rfl (Skips.on rfl rfl rfl rfl rfl hb5) rfl ?_
    refine LW.skip hL rfl (Skips.on rfl rfl rfl rfl rfl hb5) rfl ?_
    refine LW.skip hL rfl (Skips.on rfl rfl rfl rfl rfl hb5) rfl ?_
    refine LW.skip hL rfl (Skips.on rfl rfl rfl rfl rfl hb5) rfl ?_
    refine LW.skip hL rfl (Skips.on rfl rfl rfl rfl rfl hb5) rfl ?_
    refine LW.rd hL rfl (Wants.free rfl) rfl (Rd.pickF rfl hb5 rfl) ?_
    exact LW.sub hL (by exact ⟨rfl, rfl, rfl, rfl, rfl, trivial⟩) (K4 false w5 h)
  intro b5 w6 h_
  have h := hJ4 b5 w6 h_; clear h_
  refine LW.rd hL rfl (Wants.free rfl) rfl (Rd.assign (v := .bool b5) rfl) ?_
  refine LW.nil hL rfl ?_
  refine NW.block ?_
  refine NW.then ?_
  refine CW.region fun L hL => ?_
  refine LW.rd hL rfl (Wants.free rfl) rfl (Rd.move (v := .int .i64 i1) rfl) ?_
  refine LW.rd hL rfl (Wants.free rfl) rfl (Rd.bin (v := .int .i64 (IntKind.wrap .i64 (i1 + 1))) rfl rfl (fun w => by kernel_rfl)) ?_
  refine LW.rd hL rfl (Wants.free rfl) rfl (Rd.assign (v := .int .i64 (IntKind.wrap .i64 (i1 + 1))) rfl) ?_
  refine LW.nil hL rfl ?_
  exact NW.loop (S := Bool × Int) (Ek := fun s1 => [(1, .pointer (some (⟨b1, 0, none⟩ : Addr))), (2, .bool false), (3, .bool s1.1), (4, .int .i64 s1.2)]) (b5, IntKind.wrap .i64 (i1 + 1)) (by exact ⟨rfl, rfl, rfl, rfl, trivial⟩) h
 ·replace h := h.2 hb3
  refine CW.exit ?_
  refine XW.then ?_
  refine XW.then ?_
  refine XW.hit ?_
  refine NW.then ?_
  refine CW.seq ?_
  refine CW.region fun L hL => ?_
  refine LW.rd hL rfl (Wants.free rfl) rfl (Rd.move (v := .bool ok1) rfl) ?_
  refine LW.rd hL rfl (Wants.free rfl) rfl (Rd.assign (v := .bool ok1) rfl) ?_
  refine LW.nil hL rfl ?_
  refine NW.then ?_
  refine CW.ret ?_
  exact res1 rfl rfl ⟨ok1, rfl, h⟩
/- pomander/pomanderref12.Stops -/
def W_pomanderref12_Stops (r1 : Int) (r2 : Int) (r3 : Int) (r4 : Int) (r5 : Int) (r6 : Int) (r7 : Int) (r8 : Int) (r9 : Int) (r10 : Int) (r11 : Int) (f1 : Int) (f2 : Int) (f3 : Int) (f4 : Option Addr) (f4n : Nat) (f4c : Nat) (f5 : Option Addr) (f5n : Nat) (f5c : Nat) (l1 : Option Addr) (l1n : Nat) (l1c : Nat) (w : World) (R : Bool → World → Prop) : Prop :=
 ∀ (b2 b1 : Nat) (w3 : World), (w.heap.size ≤ b2 ∧ b2 < w3.heap.size) → (w.heap.size ≤ b1 ∧ b1 < w3.heap.size) → Chg [] w w3 → (Calls Tryz.prog 51 #[.agg #[.int .i64 f1, .int .i64 f2, .int .i64 f3, .slice f4 f4n f4c, .slice f5 f5n f5c], .slice l1 l1n l1c] w3 fun e w4 => ∃ (r13 : Int), e = .returned (.int .u32 r13) ∧ (Same w3 w4 [b2, b1] ∧ (Calls Tryz.prog 50 #[.int .u32 r13, .int .u32 r11] w4 fun e w5 => ∃ (r14 : Int), e = .returned (.int .u32 r14) ∧ (R (!(r14 == 0)) w5))))
set_option maxRecDepth 100000 in
theorem go_pomanderref12_Stops (r1 : Int) (r2 : Int) (r3 : Int) (r4 : Int) (r5 : Int) (r6 : Int) (r7 : Int) (r8 : Int) (r9 : Int) (r10 : Int) (r11 : Int) (f1 : Int) (f2 : Int) (f3 : Int) (f4 : Option Addr) (f4n : Nat) (f4c : Nat) (f5 : Option Addr) (f5n : Nat) (f5c : Nat) (l1 : Option Addr) (l1n : Nat) (l1c : Nat) (w : World) (R : Bool → World → Prop) (h : W_pomanderref12_Stops r1 r2 r3 r4 r5 r6 r7 r8 r9 r10 r11 f1 f2 f3 f4 f4n f4c f5 f5n f5c l1 l1n l1c w R) : Calls Tryz.prog 19 #[.agg #[.int .u32 r1, .int .u32 r2, .int .u32 r3, .int .u32 r4, .int .u32 r5, .int .u32 r6, .int .u32 r7, .int .u32 r8, .int .u32 r9, .int .u32 r10, .int .u32 r11], .agg #[.int .i64 f1, .int .i64 f2, .int .i64 f3, .slice f4 f4n f4c, .slice f5 f5n f5c], .slice l1 l1n l1c] w (fun e w' => ∃ (r12 : Bool), e = .returned (.bool r12) ∧ R r12 w') := by
 unfold W_pomanderref12_Stops at h
 refine enter (N := 14) Tryz.func19 rfl rfl ?_
 refine CW.seq ?_
 refine CW.region fun L hL => ?_
 obtain ⟨b1, hb_b1⟩ : ∃ b1, b1 = World.size w := ⟨_, rfl⟩
 obtain ⟨w1, hw_w1⟩ : ∃ w1, w1 = World.alloc w (.cells #[.int .u32 r1, .int .u32 r2, .int .u32 r3, .int .u32 r4, .int .u32 r5, .int .u32 r6, .int .u32 r7, .int .u32 r8, .int .u32 r9, .int .u32 r10, .int .u32 r11] 25) := ⟨_, rfl⟩
 refine LW.val hL rfl (Wants.free rfl) rfl (boxE hb_b1 hw_w1 (Vl.box (v := .agg #[.int .u32 r1, .int .u32 r2, .int .u32 r3, .int .u32 r4, .int .u32 r5, .int .u32 r6, .int .u32 r7, .int .u32 r8, .int .u32 r9, .int .u32 r10, .int .u32 r11]) rfl)) ?_
 have hB := Boxes.alloc (cs := [.int .u32 r1, .int .u32 r2, .int .u32 r3, .int .u32 r4, .int .u32 r5, .int .u32 r6, .int .u32 r7, .int .u32 r8, .int .u32 r9, .int .u32 r10, .int .u32 r11]) (T := 25) (Boxes.nil w) hb_b1 hw_w1
 have hlo_b1 := sil_lo (Chg.refl [] w) hb_b1
 have hc_w1 := sil_alloc (Chg.refl [] w) hw_w1
 obtain ⟨b2, hb_b2⟩ : ∃ b2, b2 = World.size w1 := ⟨_, rfl⟩
 obtain ⟨w2, hw_w2⟩ : ∃ w2, w2 = World.alloc w1 (.cells #[.int .i64 f1, .int .i64 f2, .int .i64 f3, .slice f4 f4n f4c, .slice f5 f5n f5c] 43) := ⟨_, rfl⟩
 refine LW.val hL rfl (Wants.free rfl) rfl (boxE hb_b2 hw_w2 (Vl.box (v := .agg #[.int .i64 f1, .int .i64 f2, .int .i64 f3, .slice f4 f4n f4c, .slice f5 f5n f5c]) rfl)) ?_
 replace hB := Boxes.alloc (cs := [.int .i64 f1, .int .i64 f2, .int .i64 f3, .slice f4 f4n f4c, .slice f5 f5n f5c]) (T := 43) hB hb_b2 hw_w2
 have hlo_b2 := sil_lo hc_w1 hb_b2
 have hc_w2 := sil_alloc hc_w1 hw_w2
 refine LW.rd hL rfl (Wants.free rfl) rfl (Rd.assign (v := .bool false) rfl) ?_
 refine LW.nil hL rfl ?_
 refine NW.then ?_
 refine CW.seq ?_
 obtain ⟨w3, hw_w3⟩ : ∃ x, x = World.drew w2 := ⟨_, rfl⟩
 have hc_w3 := sil_drew hc_w2 hw_w3
 replace hB := hB.drew hw_w3
 refine CW.drawn (fun w => Boxes w [(b2, [.int .i64 f1, .int .i64 f2, .int .i64 f3, .slice f4 f4n f4c, .slice f5 f5n f5c], 43), (b1, [.int .u32 r1, .int .u32 r2, .int .u32 r3, .int .u32 r4, .int .u32 r5, .int .u32 r6, .int .u32 r7, .int .u32 r8, .int .u32 r9, .int .u32 r10, .int .u32 r11], 25)]) 5 (by kernel_rfl) fun H hH => ?_
 rw [← hw_w3]
 have hS1 : Boxes w3 [(b2, [.int .i64 f1, .int .i64 f2, .int .i64 f3, .slice f4 f4n f4c, .slice f5 f5n f5c], 43), (b1, [.int .u32 r1, .int .u32 r2, .int .u32 r3, .int .u32 r4, .int .u32 r5, .int .u32 r6, .int .u32 r7, .int .u32 r8, .int .u32 r9, .int .u32 r10, .int .u32 r11], 25)] := hB
 refine HW.take (i := 0) hH rfl (by kernel_rfl) (by kernel_rfl) (Wants.free rfl) rfl (fun _ => hS1) (Rd.ldN (cs := [.int .i64 f1, .int .i64 f2, .int .i64 f3, .slice f4 f4n f4c, .slice f5 f5n f5c]) rfl (by kernel_rfl) (by kernel_rfl) (fun w h => cellsAt_get (box_cells (Boxes.at (i := 0) h rfl) rfl))) ?_
 refine HW.pure (i := 1) hH rfl (by kernel_rfl) (Wants.free rfl) rfl (fun _ => hS1) (Rd.move (v := .slice l1 l1n l1c) rfl) ?_
 refine HW.pure (i := 3) hH rfl (by kernel_rfl) (Wants.free rfl) rfl (fun _ => hS1) (Rd.fa (v := .pointer (some (⟨b1, 10, none⟩ : Addr))) rfl (fun _ => by kernel_rfl)) ?_
 refine HW.take (i := 4) hH rfl (by kernel_rfl) (by kernel_rfl) (Wants.free rfl) rfl (fun _ => hS1) (Rd.ld (v := .int .u32 r11) rfl (by kernel_rfl) (fun w h => box_cell (Boxes.at (i := 1) h rfl) rfl)) ?_
 replace h := h b2 b1 w3 ⟨hlo_b2, lt_of_heap (hB.at (i := 0) rfl)⟩ ⟨hlo_b1, lt_of_heap (hB.at (i := 1) rfl)⟩ hc_w3
 refine HW.call (i := 2) hH (by kernel_rfl) rfl (Wants.free rfl) rfl (Cl.fn (f := 51) rfl Tryz.func51 (by kernel_rfl) rfl) h (fun e w4 h_ => ?_)
 clear h
 obtain ⟨r13, rfl, h⟩ := h_
 obtain ⟨hsm1, h⟩ := h
 replace hB := Boxes.sameS hB hsm1 (by simp)
 have hS2 : Boxes w4 [(b2, [.int .i64 f1, .int .i64 f2, .int .i64 f3, .slice f4 f4n f4c, .slice f5 f5n f5c], 43), (b1, [.int .u32 r1, .int .u32 r2, .int .u32 r3, .int .u32 r4, .int .u32 r5, .int .u32 r6, .int .u32 r7, .int .u32 r8, .int .u32 r9, .int .u32 r10, .int .u32 r11], 25)] := hB
 refine ⟨_, rfl, (fun _ => hS2), ?_⟩
 refine HW.call (i := 5) hH (by kernel_rfl) rfl (Wants.free rfl) rfl (Cl.fn (f := 50) rfl Tryz.func50 (by kernel_rfl) rfl) h (fun e w5 h_ => ?_)
 clear h
 obtain ⟨r14, rfl, h⟩ := h_
 refine ⟨_, rfl, (fun hc => by cases hc), ?_⟩
 refine HW.pure (i := 6) hH rfl (by kernel_rfl) (Wants.free rfl) rfl (fun hc => by cases hc) (Rd.bin (v := .bool (!(r14 == 0))) rfl rfl (fun w => by kernel_rfl)) ?_
 refine HW.pure (i := 7) hH rfl (by kernel_rfl) (Wants.free rfl) rfl (fun hc => by cases hc) (Rd.assign (v := .bool (!(r14 == 0))) rfl) ?_
 refine HW.done hH (by kernel_rfl) ?_
 refine NW.then ?_
 refine CW.ret ?_
 exact res1 rfl rfl ⟨!(r14 == 0), rfl, h⟩
/- pomander/pomanderref12.SameAlerts -/
def W_pomanderref12_SameAlerts (a1 : Option Addr) (a1n : Nat) (a1c : Nat) (b1 : Option Addr) (b1n : Nat) (b1c : Nat) (w : World) (R : Bool → World → Prop) : Prop :=
 ((!((a1n : Int) == (b1n : Int))) = true → R false w) ∧ ((!((a1n : Int) == (b1n : Int))) = false → ∃ (I1 : Bool → Int → World → Prop) (m1 : Bool → Int → World → Nat), I1 false 0 w ∧ ∀ (x1 : Bool) (i1 : Int) (w1 : World), I1 x1 i1 w1 → ((decide (i1 < (a1n : Int))) = true → ∃ a2 : Addr, a1 = some a2 ∧ (0 : Int) ≤ i1 ∧ i1 < (a1n : Int) ∧ (∀ (w2 : World), Chg [] w1 w2 → (∃ (t1 : Int) (t2 : Int) (t3 : Int), CellsAt w2 (a2.add (Int.toNat i1 * 3)) 0 [.int .i64 t1, .int .i64 t2, .int .u32 t3] ∧ (∃ a3 : Addr, b1 = some a3 ∧ (0 : Int) ≤ i1 ∧ i1 < (b1n : Int) ∧ (∃ (t4 : Int) (t5 : Int) (t6 : Int), CellsAt w2 (a3.add (Int.toNat i1 * 3)) 0 [.int .i64 t4, .int .i64 t5, .int .u32 t6] ∧ (((!((t1 == t4) && (t2 == t5) && (t3 == t6))) = true → R false w2) ∧ ((!((t1 == t4) && (t2 == t5) && (t3 == t6))) = false → (I1 x1 (IntKind.wrap .i64 (i1 + 1)) w2 ∧ m1 x1 (IntKind.wrap .i64 (i1 + 1)) w2 < m1 x1 i1 w1)))))))) ∧ ((decide (i1 < (a1n : Int))) = false → R true w1))
set_option maxRecDepth 100000 in
theorem go_pomanderref12_SameAlerts (a1 : Option Addr) (a1n : Nat) (a1c : Nat) (b1 : Option Addr) (b1n : Nat) (b1c : Nat) (w : World) (R : Bool → World → Prop) (h : W_pomanderref12_SameAlerts a1 a1n a1c b1 b1n b1c w R) : Calls Tryz.prog 20 #[.slice a1 a1n a1c, .slice b1 b1n b1c] w (fun e w' => ∃ (r1 : Bool), e = .returned (.bool r1) ∧ R r1 w') := by
 unfold W_pomanderref12_SameAlerts at h
 refine enter (N := 26) Tryz.func20 rfl rfl ?_
 refine CW.seq ?_
 refine CW.region fun L hL => ?_
 refine LW.rd hL rfl (Wants.free rfl) rfl (Rd.assign (v := .bool false) rfl) ?_
 refine LW.nil hL rfl ?_
 refine NW.then ?_
 refine CW.seq ?_
 refine CW.seq ?_
 refine CW.region fun L hL => ?_
 refine LW.rd hL rfl (Wants.free rfl) rfl (Rd.move (v := .slice a1 a1n a1c) rfl) ?_
 refine LW.rd hL rfl (Wants.free rfl) rfl (Rd.builtin (v := .int .i64 (a1n : Int)) rfl (fun _ _ => by kernel_rfl)) ?_
 refine LW.rd hL rfl (Wants.free rfl) rfl (Rd.move (v := .slice b1 b1n b1c) rfl) ?_
 refine LW.rd hL rfl (Wants.free rfl) rfl (Rd.builtin (v := .int .i64 (b1n : Int)) rfl (fun _ _ => by kernel_rfl)) ?_
 refine LW.rd hL rfl (Wants.free rfl) rfl (Rd.bin (v := .bool (!((a1n : Int) == (b1n : Int)))) rfl rfl (fun w => by kernel_rfl)) ?_
 refine LW.nil hL rfl ?_
 refine NW.then ?_
 refine CW.cond rfl (fun hb1 => ?_) (fun hb1 => ?_)
 ·replace h := h.1 hb1
  refine CW.seq ?_
  refine CW.region fun L hL => ?_
  refine LW.rd hL rfl (Wants.free rfl) rfl (Rd.assign (v := .bool false) rfl) ?_
  refine LW.nil hL rfl ?_
  refine NW.then ?_
  refine CW.ret ?_
  refine RW.then ?_
  exact res1 rfl rfl ⟨false, rfl, h⟩
 ·replace h := h.2 hb1
  refine CW.skip ?_
  refine NW.then ?_
  refine CW.seq ?_
  refine CW.seq ?_
  refine CW.region fun L hL => ?_
  refine LW.rd hL rfl (Wants.free rfl) rfl (Rd.assign (v := .int .i64 0) rfl) ?_
  refine LW.nil hL rfl ?_
  refine NW.then ?_
  refine CW.block ?_
  obtain ⟨I1, m1, hI1, h⟩ := h
  refine CW.loop (S := Bool × Int) (fun s1 => [(0, .slice a1 a1n a1c), (1, .slice b1 b1n b1c), (4, .bool s1.1), (5, .int .i64 s1.2)]) (fun s1 w1 => I1 s1.1 s1.2 w1) (fun s1 w1 => m1 s1.1 s1.2 w1) (false, 0) (by exact ⟨rfl, rfl, rfl, rfl, trivial⟩) hI1 (fun s1 w1 hI1 => ?_)
  obtain ⟨x1, i1⟩ := s1; replace h := h x1 i1 w1 hI1
  refine CW.seq ?_
  refine CW.seq ?_
  refine CW.region fun L hL => ?_
  refine LW.rd hL rfl (Wants.free rfl) rfl (Rd.move (v := .int .i64 i1) rfl) ?_
  refine LW.rd hL rfl (Wants.free rfl) rfl (Rd.move (v := .slice a1 a1n a1c) rfl) ?_
  refine LW.rd hL rfl (Wants.free rfl) rfl (Rd.builtin (v := .int .i64 (a1n : Int)) rfl (fun _ _ => by kernel_rfl)) ?_
  refine LW.rd hL rfl (Wants.free rfl) rfl (Rd.bin (v := .bool (decide (i1 < (a1n : Int)))) rfl rfl (fun w => by kernel_rfl)) ?_
  refine LW.nil hL rfl ?_
  refine NW.then ?_
  refine CW.cond rfl (fun hb2 => ?_) (fun hb2 => ?_)
  ·replace h := h.1 hb2
   refine CW.skip ?_
   refine NW.then ?_
   refine CW.seq ?_
   refine CW.block ?_
   refine CW.seq ?_
   obtain ⟨w2, hw_w2⟩ : ∃ x, x = World.drew w1 := ⟨_, rfl⟩
   have hc_w2 := sil_drew (Chg.refl [] w1) hw_w2
   refine CW.drawn (fun w => w = w2) 9 (by kernel_rfl) fun H hH => ?_
   rw [← hw_w2]
   refine HW.pure (i := 0) hH rfl (by kernel_rfl) (Wants.free rfl) rfl (fun _ => rfl) (Rd.move (v := .slice a1 a1n a1c) rfl) ?_
   refine HW.pure (i := 1) hH rfl (by kernel_rfl) (Wants.free rfl) rfl (fun _ => rfl) (Rd.move (v := .int .i64 i1) rfl) ?_
   obtain ⟨a2, he1, hi1, hi2, h⟩ := h
   refine HW.pure (i := 2) hH rfl (by kernel_rfl) (Wants.free rfl) rfl (fun _ => rfl) (Rd.iaS (q := a2) (sz := 3) (by rw [← he1]; rfl) rfl Tryz.underlying49 (by kernel_rfl) hi1 hi2) ?_
   replace h := h  w2  hc_w2
   obtain ⟨t1, t2, t3, hc1, h⟩ := h
   refine HW.take (i := 3) hH rfl (by kernel_rfl) (by kernel_rfl) (Wants.free rfl) rfl (fun _ => rfl) (Rd.ldN (cs := [.int .i64 t1, .int .i64 t2, .int .u32 t3]) rfl (by kernel_rfl) (by kernel_rfl) (cellsS hc1)) ?_
   refine HW.pure (i := 4) hH rfl (by kernel_rfl) (Wants.free rfl) rfl (fun _ => rfl) (Rd.move (v := .slice b1 b1n b1c) rfl) ?_
   refine HW.pure (i := 5) hH rfl (by kernel_rfl) (Wants.free rfl) rfl (fun _ => rfl) (Rd.move (v := .int .i64 i1) rfl) ?_
   obtain ⟨a3, he2, hi3, hi4, h⟩ := h
   refine HW.pure (i := 6) hH rfl (by kernel_rfl) (Wants.free rfl) rfl (fun _ => rfl) (Rd.iaS (q := a3) (sz := 3) (by rw [← he2]; rfl) rfl Tryz.underlying49 (by kernel_rfl) hi3 hi4) ?_
   obtain ⟨t4, t5, t6, hc2, h⟩ := h
   refine HW.take (i := 7) hH rfl (by kernel_rfl) (by kernel_rfl) (Wants.free rfl) rfl (fun _ => rfl) (Rd.ldN (cs := [.int .i64 t4, .int .i64 t5, .int .u32 t6]) rfl (by kernel_rfl) (by kernel_rfl) (cellsS hc2)) ?_
   refine HW.pure (i := 8) hH rfl (by kernel_rfl) (Wants.free rfl) rfl (fun _ => rfl) (Rd.bin (v := .bool (!((t1 == t4) && (t2 == t5) && (t3 == t6)))) rfl rfl (fun w => neS_118 _ _ _ _ _ _ w)) ?_
   refine HW.done hH (by kernel_rfl) ?_
   refine NW.then ?_
   refine CW.cond rfl (fun hb3 => ?_) (fun hb3 => ?_)
   ·replace h := h.1 hb3
    refine CW.seq ?_
    refine CW.region fun L hL => ?_
    refine LW.rd hL rfl (Wants.free rfl) rfl (Rd.assign (v := .bool false) rfl) ?_
    refine LW.nil hL rfl ?_
    refine NW.then ?_
    refine CW.ret ?_
    refine RW.block ?_
    refine RW.then ?_
    refine RW.then ?_
    refine RW.block ?_
    refine RW.then ?_
    exact res1 rfl rfl ⟨false, rfl, h⟩
   ·replace h := h.2 hb3
    refine CW.skip ?_
    refine NW.block ?_
    refine NW.then ?_
    refine CW.region fun L hL => ?_
    refine LW.rd hL rfl (Wants.free rfl) rfl (Rd.move (v := .int .i64 i1) rfl) ?_
    refine LW.rd hL rfl (Wants.free rfl) rfl (Rd.bin (v := .int .i64 (IntKind.wrap .i64 (i1 + 1))) rfl rfl (fun w => by kernel_rfl)) ?_
    refine LW.rd hL rfl (Wants.free rfl) rfl (Rd.assign (v := .int .i64 (IntKind.wrap .i64 (i1 + 1))) rfl) ?_
    refine LW.nil hL rfl ?_
    exact NW.loop (S := Bool × Int) (Ek := fun s1 => [(0, .slice a1 a1n a1c), (1, .slice b1 b1n b1c), (4, .bool s1.1), (5, .int .i64 s1.2)]) (x1, IntKind.wrap .i64 (i1 + 1)) (by exact ⟨rfl, rfl, rfl, rfl, trivial⟩) h
  ·replace h := h.2 hb2
   refine CW.exit ?_
   refine XW.then ?_
   refine XW.then ?_
   refine XW.hit ?_
   refine NW.then ?_
   refine CW.seq ?_
   refine CW.region fun L hL => ?_
   refine LW.rd hL rfl (Wants.free rfl) rfl (Rd.assign (v := .bool true) rfl) ?_
   refine LW.nil hL rfl ?_
   refine NW.then ?_
   refine CW.ret ?_
   exact res1 rfl rfl ⟨true, rfl, h⟩
/- pomander/pomanderref12.Alerts -/
def W_pomanderref12_Alerts (r1 : Int) (r2 : Int) (r3 : Int) (r4 : Int) (r5 : Int) (r6 : Int) (r7 : Int) (r8 : Int) (r9 : Int) (r10 : Int) (r11 : Int) (f1 : Int) (f2 : Int) (f3 : Int) (f4 : Option Addr) (f4n : Nat) (f4c : Nat) (f5 : Option Addr) (f5n : Nat) (f5c : Nat) (l1 : Option Addr) (l1n : Nat) (l1c : Nat) (w : World) (R : (Option Addr) → Nat → Nat → World → Prop) : Prop :=
 ∀ b1 : Nat, b1 = World.size w → ∀ w1 : World, w1 = World.alloc w (.cells #[.int .u32 r1, .int .u32 r2, .int .u32 r3, .int .u32 r4, .int .u32 r5, .int .u32 r6, .int .u32 r7, .int .u32 r8, .int .u32 r9, .int .u32 r10, .int .u32 r11] 25) → (∀ (b2 : Nat) (w2 : World), (w1.heap.size ≤ b2 ∧ b2 < w2.heap.size) → Chg [] w1 w2 → (∃ (I1 : (Option Addr) → Nat → Nat → Int → World → Prop) (m1 : (Option Addr) → Nat → Nat → Int → World → Nat), I1 none 0 0 0 w2 ∧ ∀ (out1 : Option Addr) (out1n : Nat) (out1c : Nat) (i1 : Int) (w3 : World), I1 out1 out1n out1c i1 w3 → ((decide (i1 < (l1n : Int))) = true → ∃ J1 : (Option Addr) → Nat → Nat → World → Prop, (∀ (out2 : Option Addr) (out2n : Nat) (out2c : Nat) (w4 : World), J1 out2 out2n out2c w4 → (I1 out2 out2n out2c (IntKind.wrap .i64 (i1 + 1)) w4 ∧ m1 out2 out2n out2c (IntKind.wrap .i64 (i1 + 1)) w4 < m1 out1 out1n out1c i1 w3)) ∧ (∃ J2 : Int → World → Prop, (∀ (sink1 : Int) (w5 : World), J2 sink1 w5 → ∀ (w6 : World), Chg [] w5 w6 → (∃ a1 : Addr, l1 = some a1 ∧ (0 : Int) ≤ i1 ∧ i1 < (l1n : Int) ∧ (∃ (t1 : Option Addr) (t1n : Nat) (t1c : Nat), w6.cell? ((a1.add (Int.toNat i1 * 3)).add 2) = some (.slice t1 t1n t1c) ∧ ((0 : Int) ≤ sink1 ∧ (sink1 : Int) < 5 ∧ (∃ (t2 : Int), w6.cell? ((⟨b1, 5, none⟩ : Addr).add (Int.toNat sink1 * 1)) = some (.int .u32 t2) ∧ (Calls Tryz.prog 52 #[.agg #[.int .i64 f1, .int .i64 f2, .int .i64 f3, .slice f4 f4n f4c, .slice f5 f5n f5c], .slice t1 t1n t1c] w6 fun e w7 => ∃ (r13 : Int), e = .returned (.int .u32 r13) ∧ ((w7.cell? ((a1.add (Int.toNat i1 * 3)).add 2) = some (.slice t1 t1n t1c) ∧ w7.cell? ((⟨b1, 5, none⟩ : Addr).add (Int.toNat sink1 * 1)) = some (.int .u32 t2)) ∧ (Same w6 w7 [b2] ∧ (Calls Tryz.prog 50 #[.int .u32 r13, .int .u32 t2] w7 fun e w8 => ∃ (r14 : Int), e = .returned (.int .u32 r14) ∧ (Same w7 w8 [b2] ∧ (((!(r14 == 0)) = true → ∃ (t3 : Int) (t4 : Int), CellsAt w8 (a1.add (Int.toNat i1 * 3)) 0 [.int .i64 t3, .int .i64 t4] ∧ (∀ b3 : Nat, b3 = World.size w8 → ∀ w9 : World, w9 = World.alloc w8 (.cells #[.int .i64 t3, .int .i64 t4, .int .u32 r14] 118) → (∃ (l2 : Option Addr) (l2n : Nat) (l2c : Nat) (w10 : World), (Builtin.append_ #[49, 49] 49 #[.slice out1 out1n out1c, .slice (some (⟨b3, 0, none⟩ : Addr)) 1 1]).run Tryz.prog w9 = .ok (.slice l2 l2n l2c) w10 ∧ (Same w9 w10 [b2] ∧ (J1 l2 l2n l2c w10))))) ∧ ((!(r14 == 0)) = false → J1 out1 out1n out1c w8)))))))))))) ∧ (∃ a2 : Addr, l1 = some a2 ∧ (0 : Int) ≤ i1 ∧ i1 < (l1n : Int) ∧ (∃ (t5 : Int), w3.cell? (a2.add (Int.toNat i1 * 3)) = some (.int .i64 t5) ∧ (((t5 == 14) = true → J2 1 w3) ∧ ((t5 == 14) = false → ((t5 == 16) = true → J2 2 w3) ∧ ((t5 == 16) = false → ((t5 == 12) = true → J2 3 w3) ∧ ((t5 == 12) = false → ((t5 == 2) = true → J2 4 w3) ∧ ((t5 == 2) = false → J2 0 w3))))))))) ∧ ((decide (i1 < (l1n : Int))) = false → R out1 out1n out1c w3)))
set_option maxRecDepth 100000 in
theorem go_pomanderref12_Alerts (r1 : Int) (r2 : Int) (r3 : Int) (r4 : Int) (r5 : Int) (r6 : Int) (r7 : Int) (r8 : Int) (r9 : Int) (r10 : Int) (r11 : Int) (f1 : Int) (f2 : Int) (f3 : Int) (f4 : Option Addr) (f4n : Nat) (f4c : Nat) (f5 : Option Addr) (f5n : Nat) (f5c : Nat) (l1 : Option Addr) (l1n : Nat) (l1c : Nat) (w : World) (R : (Option Addr) → Nat → Nat → World → Prop) (h : W_pomanderref12_Alerts r1 r2 r3 r4 r5 r6 r7 r8 r9 r10 r11 f1 f2 f3 f4 f4n f4c f5 f5n f5c l1 l1n l1c w R) : Calls Tryz.prog 21 #[.agg #[.int .u32 r1, .int .u32 r2, .int .u32 r3, .int .u32 r4, .int .u32 r5, .int .u32 r6, .int .u32 r7, .int .u32 r8, .int .u32 r9, .int .u32 r10, .int .u32 r11], .agg #[.int .i64 f1, .int .i64 f2, .int .i64 f3, .slice f4 f4n f4c, .slice f5 f5n f5c], .slice l1 l1n l1c] w (fun e w' => ∃ (r12 : Option Addr) (r12n : Nat) (r12c : Nat), e = .returned (.slice r12 r12n r12c) ∧ R r12 r12n r12c w') := by
 unfold W_pomanderref12_Alerts at h
 refine enter (N := 56) Tryz.func21 rfl rfl ?_
 refine CW.seq ?_
 refine CW.region fun L hL => ?_
 obtain ⟨b1, hb_b1⟩ : ∃ b1, b1 = World.size w := ⟨_, rfl⟩
 obtain ⟨w1, hw_w1⟩ : ∃ w1, w1 = World.alloc w (.cells #[.int .u32 r1, .int .u32 r2, .int .u32 r3, .int .u32 r4, .int .u32 r5, .int .u32 r6, .int .u32 r7, .int .u32 r8, .int .u32 r9, .int .u32 r10, .int .u32 r11] 25) := ⟨_, rfl⟩
 replace h := h b1 hb_b1 w1 hw_w1
 refine LW.val hL rfl (Wants.free rfl) rfl (boxE hb_b1 hw_w1 (Vl.box (v := .agg #[.int .u32 r1, .int .u32 r2, .int .u32 r3, .int .u32 r4, .int .u32 r5, .int .u32 r6, .int .u32 r7, .int .u32 r8, .int .u32 r9, .int .u32 r10, .int .u32 r11]) rfl)) ?_
 obtain ⟨b2, hb_b2⟩ : ∃ b2, b2 = World.size w1 := ⟨_, rfl⟩
 obtain ⟨w2, hw_w2⟩ : ∃ w2, w2 = World.alloc w1 (.cells #[.int .i64 f1, .int .i64 f2, .int .i64 f3, .slice f4 f4n f4c, .slice f5 f5n f5c] 43) := ⟨_, rfl⟩
 refine LW.val hL rfl (Wants.free rfl) rfl (boxE hb_b2 hw_w2 (Vl.box (v := .agg #[.int .i64 f1, .int .i64 f2, .int .i64 f3, .slice f4 f4n f4c, .slice f5 f5n f5c]) rfl)) ?_
 have hB := Boxes.alloc (cs := [.int .i64 f1, .int .i64 f2, .int .i64 f3, .slice f4 f4n f4c, .slice f5 f5n f5c]) (T := 43) (Boxes.nil w1) hb_b2 hw_w2
 have hlo_b2 := sil_lo (Chg.refl [] w1) hb_b2
 have hc_w2 := sil_alloc (Chg.refl [] w1) hw_w2
 refine LW.rd hL rfl (Wants.free rfl) rfl (Rd.assign (v := .slice none 0 0) rfl) ?_
 refine LW.nil hL rfl ?_
 refine NW.then ?_
 refine CW.seq ?_
 refine CW.region fun L hL => ?_
 refine LW.rd hL rfl (Wants.free rfl) rfl (Rd.assign (v := .slice none 0 0) rfl) ?_
 refine LW.nil hL rfl ?_
 refine NW.then ?_
 refine CW.seq ?_
 refine CW.seq ?_
 refine CW.region fun L hL => ?_
 refine LW.rd hL rfl (Wants.free rfl) rfl (Rd.assign (v := .int .i64 0) rfl) ?_
 refine LW.nil hL rfl ?_
 refine NW.then ?_
 refine CW.block ?_
 replace h := h b2 w2 ⟨hlo_b2, lt_of_heap (hB.at (i := 0) rfl)⟩ hc_w2
 obtain ⟨I1, m1, hI1, h⟩ := h
 refine CW.loop (S := (Option Addr) × Nat × Nat × Int) (fun s1 => [(2, .slice l1 l1n l1c), (3, .pointer (some (⟨b1, 0, none⟩ : Addr))), (4, .pointer (some (⟨b2, 0, none⟩ : Addr))), (6, .slice none 0 0), (7, .slice s1.1 s1.2.1 s1.2.2.1), (8, .int .i64 s1.2.2.2)]) (fun s1 w3 => I1 s1.1 s1.2.1 s1.2.2.1 s1.2.2.2 w3 ∧ Boxes w3 [(b2, [.int .i64 f1, .int .i64 f2, .int .i64 f3, .slice f4 f4n f4c, .slice f5 f5n f5c], 43)]) (fun s1 w3 => m1 s1.1 s1.2.1 s1.2.2.1 s1.2.2.2 w3) (none, 0, 0, 0) (by exact ⟨rfl, rfl, rfl, rfl, rfl, rfl, trivial⟩) ⟨hI1, hB⟩ (fun s1 w3 hI1 => ?_)
 obtain ⟨hI1, hB⟩ := hI1
 obtain ⟨out1, out1n, out1c, i1⟩ := s1; replace h := h out1 out1n out1c i1 w3 hI1
 refine CW.seq ?_
 refine CW.seq ?_
 refine CW.region fun L hL => ?_
 refine LW.rd hL rfl (Wants.free rfl) rfl (Rd.move (v := .int .i64 i1) rfl) ?_
 refine LW.rd hL rfl (Wants.free rfl) rfl (Rd.move (v := .slice l1 l1n l1c) rfl) ?_
 refine LW.rd hL rfl (Wants.free rfl) rfl (Rd.builtin (v := .int .i64 (l1n : Int)) rfl (fun _ _ => by kernel_rfl)) ?_
 refine LW.rd hL rfl (Wants.free rfl) rfl (Rd.bin (v := .bool (decide (i1 < (l1n : Int)))) rfl rfl (fun w => by kernel_rfl)) ?_
 refine LW.nil hL rfl ?_
 refine NW.then ?_
 refine CW.cond rfl (fun hb1 => ?_) (fun hb1 => ?_)
 ·replace h := h.1 hb1
  refine CW.skip ?_
  refine NW.then ?_
  obtain ⟨J1, hJ1, h⟩ := h
  refine CW.cut (S := (Option Addr) × Nat × Nat) (fun s2 => [(2, .slice l1 l1n l1c), (3, .pointer (some (⟨b1, 0, none⟩ : Addr))), (4, .pointer (some (⟨b2, 0, none⟩ : Addr))), (6, .slice none 0 0), (8, .int .i64 i1), (7, .slice s2.1 s2.2.1 s2.2.2)]) (fun s2 w4 => J1 s2.1 s2.2.1 s2.2.2 w4 ∧ Boxes w4 [(b2, [.int .i64 f1, .int .i64 f2, .int .i64 f3, .slice f4 f4n f4c, .slice f5 f5n f5c], 43)]) (fun s2 w4 h_ => ?_) ?_
  ·obtain ⟨h_, hB⟩ := h_; obtain ⟨out2, out2n, out2c⟩ := s2; replace h := hJ1 out2 out2n out2c w4 h_; clear h_
   refine CW.region fun L hL => ?_
   refine LW.rd hL rfl (Wants.free rfl) rfl (Rd.move (v := .int .i64 i1) rfl) ?_
   refine LW.rd hL rfl (Wants.free rfl) rfl (Rd.bin (v := .int .i64 (IntKind.wrap .i64 (i1 + 1))) rfl rfl (fun w => by kernel_rfl)) ?_
   refine LW.rd hL rfl (Wants.free rfl) rfl (Rd.assign (v := .int .i64 (IntKind.wrap .i64 (i1 + 1))) rfl) ?_
   refine LW.nil hL rfl ?_
   exact NW.loop (S := (Option Addr) × Nat × Nat × Int) (Ek := fun s1 => [(2, .slice l1 l1n l1c), (3, .pointer (some (⟨b1, 0, none⟩ : Addr))), (4, .pointer (some (⟨b2, 0, none⟩ : Addr))), (6, .slice none 0 0), (7, .slice s1.1 s1.2.1 s1.2.2.1), (8, .int .i64 s1.2.2.2)]) (out2, out2n, out2c, IntKind.wrap .i64 (i1 + 1)) (by exact ⟨rfl, rfl, rfl, rfl, rfl, rfl, trivial⟩) ⟨⟨h.1, hB⟩, h.2⟩
  ·skip
   refine CW.block ?_
   refine CW.seq ?_
   refine CW.region fun L hL => ?_
   refine LW.rd hL rfl (Wants.free rfl) rfl (Rd.assign (v := .int .i64 0) rfl) ?_
   refine LW.nil hL rfl ?_
   refine NW.then ?_
   obtain ⟨J2, hJ2, h⟩ := h
   refine CW.cut (S := Int) (fun sink1 => [(2, .slice l1 l1n l1c), (3, .pointer (some (⟨b1, 0, none⟩ : Addr))), (4, .pointer (some (⟨b2, 0, none⟩ : Addr))), (6, .slice none 0 0), (7, .slice out1 out1n out1c), (8, .int .i64 i1), (9, .int .i64 sink1)]) (fun sink1 w5 => J2 sink1 w5 ∧ Boxes w5 [(b2, [.int .i64 f1, .int .i64 f2, .int .i64 f3, .slice f4 f4n f4c, .slice f5 f5n f5c], 43)]) (fun sink1 w5 h_ => ?_) ?_
   ·obtain ⟨h_, hB⟩ := h_; replace h := hJ2 sink1 w5 h_; clear h_
    refine CW.seq ?_
    obtain ⟨w6, hw_w6⟩ : ∃ x, x = World.drew w5 := ⟨_, rfl⟩
    have hc_w6 := sil_drew (Chg.refl [] w5) hw_w6
    replace hB := hB.drew hw_w6
    replace h := h  w6  hc_w6
    obtain ⟨a1, he1, hi1, hi2, h⟩ := h
    obtain ⟨t1, t1n, t1c, hc1, h⟩ := h
    obtain ⟨hi3, hi4, h⟩ := h
    obtain ⟨t2, hc2, h⟩ := h
    refine CW.drawn (fun w => w.cell? ((a1.add (Int.toNat i1 * 3)).add 2) = some (.slice t1 t1n t1c) ∧ w.cell? ((⟨b1, 5, none⟩ : Addr).add (Int.toNat sink1 * 1)) = some (.int .u32 t2) ∧ Boxes w [(b2, [.int .i64 f1, .int .i64 f2, .int .i64 f3, .slice f4 f4n f4c, .slice f5 f5n f5c], 43)]) 11 (by kernel_rfl) fun H hH => ?_
    rw [← hw_w6]
    have hS1 : w6.cell? ((a1.add (Int.toNat i1 * 3)).add 2) = some (.slice t1 t1n t1c) ∧ w6.cell? ((⟨b1, 5, none⟩ : Addr).add (Int.toNat sink1 * 1)) = some (.int .u32 t2) ∧ Boxes w6 [(b2, [.int .i64 f1, .int .i64 f2, .int .i64 f3, .slice f4 f4n f4c, .slice f5 f5n f5c], 43)] := ⟨hc1, hc2, hB⟩
    refine HW.take (i := 0) hH rfl (by kernel_rfl) (by kernel_rfl) (Wants.free rfl) rfl (fun _ => hS1) (Rd.ldN (cs := [.int .i64 f1, .int .i64 f2, .int .i64 f3, .slice f4 f4n f4c, .slice f5 f5n f5c]) rfl (by kernel_rfl) (by kernel_rfl) (fun w h => cellsAt_get (box_cells (Boxes.at (i := 0) h.2.2 rfl) rfl))) ?_
    refine HW.pure (i := 1) hH rfl (by kernel_rfl) (Wants.free rfl) rfl (fun _ => hS1) (Rd.move (v := .slice l1 l1n l1c) rfl) ?_
    refine HW.pure (i := 2) hH rfl (by kernel_rfl) (Wants.free rfl) rfl (fun _ => hS1) (Rd.move (v := .int .i64 i1) rfl) ?_
    refine HW.pure (i := 3) hH rfl (by kernel_rfl) (Wants.free rfl) rfl (fun _ => hS1) (Rd.iaS (q := a1) (sz := 3) (by rw [← he1]; rfl) rfl Tryz.underlying27 (by kernel_rfl) hi1 hi2) ?_
    refine HW.pure (i := 4) hH rfl (by kernel_rfl) (Wants.free rfl) rfl (fun _ => hS1) (Rd.fa (v := .pointer (some ((a1.add (Int.toNat i1 * 3)).add 2))) rfl (fun _ => by kernel_rfl)) ?_
    refine HW.take (i := 5) hH rfl (by kernel_rfl) (by kernel_rfl) (Wants.free rfl) rfl (fun _ => hS1) (Rd.ld (v := .slice t1 t1n t1c) rfl (by kernel_rfl) (fun w h => h.1)) ?_
    refine HW.pure (i := 7) hH rfl (by kernel_rfl) (Wants.free rfl) rfl (fun _ => hS1) (Rd.move (v := .int .i64 sink1) rfl) ?_
    refine HW.pure (i := 8) hH rfl (by kernel_rfl) (Wants.free rfl) rfl (fun _ => hS1) (Rd.fa (v := .pointer (some (⟨b1, 5, none⟩ : Addr))) rfl (fun _ => by kernel_rfl)) ?_
    refine HW.pure (i := 9) hH rfl (by kernel_rfl) (Wants.free rfl) rfl (fun _ => hS1) (Rd.iaA (sz := 1) rfl rfl Tryz.underlying23 (by kernel_rfl) hi3 hi4) ?_
    refine HW.take (i := 10) hH rfl (by kernel_rfl) (by kernel_rfl) (Wants.free rfl) rfl (fun _ => hS1) (Rd.ld (v := .int .u32 t2) rfl (by kernel_rfl) (fun w h => h.2.1)) ?_
    refine HW.call (i := 6) hH (by kernel_rfl) rfl (Wants.free rfl) rfl (Cl.fn (f := 52) rfl Tryz.func52 (by kernel_rfl) rfl) h (fun e w7 h_ => ?_)
    clear h
    obtain ⟨r13, rfl, hS2, h⟩ := h_
    obtain ⟨hsm1, h⟩ := h
    replace hB := Boxes.sameS hB hsm1 (by simp)
    have hS3 := (⟨hS2.1, hS2.2, hB⟩ : w7.cell? ((a1.add (Int.toNat i1 * 3)).add 2) = some (.slice t1 t1n t1c) ∧ w7.cell? ((⟨b1, 5, none⟩ : Addr).add (Int.toNat sink1 * 1)) = some (.int .u32 t2) ∧ Boxes w7 [(b2, [.int .i64 f1, .int .i64 f2, .int .i64 f3, .slice f4 f4n f4c, .slice f5 f5n f5c], 43)])
    refine ⟨_, rfl, (fun _ => hS3), ?_⟩
    refine HW.call (i := 11) hH (by kernel_rfl) rfl (Wants.free rfl) rfl (Cl.fn (f := 50) rfl Tryz.func50 (by kernel_rfl) rfl) h (fun e w8 h_ => ?_)
    clear h
    obtain ⟨r14, rfl, h⟩ := h_
    obtain ⟨hsm2, h⟩ := h
    replace hB := Boxes.sameS hB hsm2 (by simp)
    refine ⟨_, rfl, (fun hc => by cases hc), ?_⟩
    refine HW.pure (i := 12) hH rfl (by kernel_rfl) (Wants.free rfl) rfl (fun hc => by cases hc) (Rd.assign (v := .int .u32 r14) rfl) ?_
    refine HW.done hH (by kernel_rfl) ?_
    refine NW.then ?_
    refine CW.seq ?_
    refine CW.region fun L hL => ?_
    refine LW.rd hL rfl (Wants.free rfl) rfl (Rd.move (v := .int .u32 r14) rfl) ?_
    refine LW.rd hL rfl (Wants.free rfl) rfl (Rd.bin (v := .bool (!(r14 == 0))) rfl rfl (fun w => by kernel_rfl)) ?_
    refine LW.nil hL rfl ?_
    refine NW.then ?_
    refine CW.cond rfl (fun hb2 => ?_) (fun hb2 => ?_)
    ·replace h := h.1 hb2
     refine CW.region fun L hL => ?_
     refine LW.rd hL rfl (Wants.free rfl) rfl (Rd.move (v := .slice out1 out1n out1c) rfl) ?_
     refine LW.rd hL rfl (Wants.free rfl) rfl (Rd.move (v := .slice l1 l1n l1c) rfl) ?_
     refine LW.rd hL rfl (Wants.free rfl) rfl (Rd.move (v := .int .i64 i1) rfl) ?_
     refine LW.rd hL rfl (Wants.free rfl) rfl (Rd.iaS (q := a1) (sz := 3) (by rw [← he1]; rfl) rfl Tryz.underlying27 (by kernel_rfl) hi1 hi2) ?_
     refine LW.rd hL rfl (Wants.free rfl) rfl (Rd.fa (v := .pointer (some (a1.add (Int.toNat i1 * 3)))) rfl (fun _ => by kernel_rfl)) ?_
     obtain ⟨t3, t4, hc3, h⟩ := h
     refine LW.rd hL rfl (Wants.free rfl) rfl (Rd.ldN (cs := [.int .i64 t3, .int .i64 t4]) rfl (by kernel_rfl) (by kernel_rfl) (cellsS hc3)) ?_
     refine LW.rd hL rfl (Wants.free rfl) rfl (Rd.move (v := .int .u32 r14) rfl) ?_
     refine LW.rd hL rfl (Wants.free rfl) rfl (Rd.build (v := .agg #[.int .i64 t3, .int .i64 t4, .int .u32 r14]) rfl (fun _ => by kernel_rfl)) ?_
     obtain ⟨b3, hb_b3⟩ : ∃ b3, b3 = World.size w8 := ⟨_, rfl⟩
     obtain ⟨w9, hw_w9⟩ : ∃ w9, w9 = World.alloc w8 (.cells #[.int .i64 t3, .int .i64 t4, .int .u32 r14] 118) := ⟨_, rfl⟩
     replace h := h b3 hb_b3 w9 hw_w9
     refine LW.val hL rfl (Wants.free rfl) rfl (sliceE (n := 1) hb_b3 hw_w9 (fun w => Vl.buildSlice (vs := [(0, .agg #[.int .i64 t3, .int .i64 t4, .int .u32 r14])]) rfl (by kernel_rfl))) ?_
     replace hB := hB.grow hw_w9
     obtain ⟨l2, l2n, l2c, w10, ha1, h⟩ := h
     refine LW.val hL rfl (Wants.free rfl) rfl (Vl.builtin (v := .slice l2 l2n l2c) rfl (valB ha1)) ?_
     obtain ⟨hsm3, h⟩ := h
     replace hB := Boxes.sameS hB hsm3 (by simp)
     refine LW.rd hL rfl (Wants.free rfl) rfl (Rd.assign (v := .slice l2 l2n l2c) rfl) ?_
     refine LW.nil hL rfl ?_
     refine NW.block ?_
     exact NW.cut (S := (Option Addr) × Nat × Nat) (Ek := fun s2 => [(2, .slice l1 l1n l1c), (3, .pointer (some (⟨b1, 0, none⟩ : Addr))), (4, .pointer (some (⟨b2, 0, none⟩ : Addr))), (6, .slice none 0 0), (8, .int .i64 i1), (7, .slice s2.1 s2.2.1 s2.2.2)]) (l2, l2n, l2c) (by exact ⟨rfl, rfl, rfl, rfl, rfl, rfl, trivial⟩) ⟨h, hB⟩
    ·replace h := h.2 hb2
     refine CW.skip ?_
     refine NW.block ?_
     exact NW.cut (S := (Option Addr) × Nat × Nat) (Ek := fun s2 => [(2, .slice l1 l1n l1c), (3, .pointer (some (⟨b1, 0, none⟩ : Addr))), (4, .pointer (some (⟨b2, 0, none⟩ : Addr))), (6, .slice none 0 0), (8, .int .i64 i1), (7, .slice s2.1 s2.2.1 s2.2.2)]) (out1, out1n, out1c) (by exact ⟨rfl, rfl, rfl, rfl, rfl, rfl, trivial⟩) ⟨h, hB⟩
   ·skip
    refine CW.seq ?_
    refine CW.region fun L hL => ?_
    refine LW.rd hL rfl (Wants.free rfl) rfl (Rd.move (v := .slice l1 l1n l1c) rfl) ?_
    refine LW.rd hL rfl (Wants.free rfl) rfl (Rd.move (v := .int .i64 i1) rfl) ?_
    obtain ⟨a2, he2, hi7, hi8, h⟩ := h
    refine LW.rd hL rfl (Wants.free rfl) rfl (Rd.iaS (q := a2) (sz := 3) (by rw [← he2]; rfl) rfl Tryz.underlying27 (by kernel_rfl) hi7 hi8) ?_
    refine LW.rd hL rfl (Wants.free rfl) rfl (Rd.fa (v := .pointer (some (a2.add (Int.toNat i1 * 3)))) rfl (fun _ => by kernel_rfl)) ?_
    refine LW.rd hL rfl (Wants.free rfl) rfl (Rd.fa (v := .pointer (some (a2.add (Int.toNat i1 * 3)))) rfl (fun _ => by kernel_rfl)) ?_
    obtain ⟨t5, hc4, h⟩ := h
    refine LW.rd hL rfl (Wants.free rfl) rfl (Rd.ld (v := .int .i64 t5) rfl (by kernel_rfl) (eqs hc4)) ?_
    refine LW.nil hL rfl ?_
    refine NW.then ?_
    refine CW.block ?_
    refine CW.seq ?_
    refine CW.region fun L hL => ?_
    refine LW.rd hL rfl (Wants.free rfl) rfl (Rd.bin (v := .bool (t5 == 14)) rfl rfl (fun w => by kernel_rfl)) ?_
    refine LW.rd hL rfl (Wants.free rfl) rfl (Rd.assign (v := .bool (t5 == 14)) rfl) ?_
    refine LW.nil hL rfl ?_
    refine NW.then ?_
    refine CW.cond rfl (fun hb3 => ?_) (fun hb3 => ?_)
    ·replace h := h.1 hb3
     refine CW.region fun L hL => ?_
     refine LW.rd hL rfl (Wants.free rfl) rfl (Rd.assign (v := .int .i64 1) rfl) ?_
     refine LW.nil hL rfl ?_
     refine NW.block ?_
     exact NW.cut (S := Int) (Ek := fun sink1 => [(2, .slice l1 l1n l1c), (3, .pointer (some (⟨b1, 0, none⟩ : Addr))), (4, .pointer (some (⟨b2, 0, none⟩ : Addr))), (6, .slice none 0 0), (7, .slice out1 out1n out1c), (8, .int .i64 i1), (9, .int .i64 sink1)]) 1 (by exact ⟨rfl, rfl, rfl, rfl, rfl, rfl, rfl, trivial⟩) ⟨h, hB⟩
    ·replace h := h.2 hb3
     refine CW.seq ?_
     refine CW.region fun L hL => ?_
     refine LW.rd hL rfl (Wants.free rfl) rfl (Rd.bin (v := .bool (t5 == 16)) rfl rfl (fun w => by kernel_rfl)) ?_
     refine LW.rd hL rfl (Wants.free rfl) rfl (Rd.assign (v := .bool (t5 == 16)) rfl) ?_
     refine LW.nil hL rfl ?_
     refine NW.then ?_
     refine CW.cond rfl (fun hb4 => ?_) (fun hb4 => ?_)
     ·replace h := h.1 hb4
      refine CW.region fun L hL => ?_
      refine LW.rd hL rfl (Wants.free rfl) rfl (Rd.assign (v := .int .i64 2) rfl) ?_
      refine LW.nil hL rfl ?_
      refine NW.block ?_
      exact NW.cut (S := Int) (Ek := fun sink1 => [(2, .slice l1 l1n l1c), (3, .pointer (some (⟨b1, 0, none⟩ : Addr))), (4, .pointer (some (⟨b2, 0, none⟩ : Addr))), (6, .slice none 0 0), (7, .slice out1 out1n out1c), (8, .int .i64 i1), (9, .int .i64 sink1)]) 2 (by exact ⟨rfl, rfl, rfl, rfl, rfl, rfl, rfl, trivial⟩) ⟨h, hB⟩
     ·replace h := h.2 hb4
      refine CW.seq ?_
      refine CW.region fun L hL => ?_
      refine LW.rd hL rfl (Wants.free rfl) rfl (Rd.bin (v := .bool (t5 == 12)) rfl rfl (fun w => by kernel_rfl)) ?_
      refine LW.rd hL rfl (Wants.free rfl) rfl (Rd.assign (v := .bool (t5 == 12)) rfl) ?_
      refine LW.nil hL rfl ?_
      refine NW.then ?_
      refine CW.cond rfl (fun hb5 => ?_) (fun hb5 => ?_)
      ·replace h := h.1 hb5
       refine CW.region fun L hL => ?_
       refine LW.rd hL rfl (Wants.free rfl) rfl (Rd.assign (v := .int .i64 3) rfl) ?_
       refine LW.nil hL rfl ?_
       refine NW.block ?_
       exact NW.cut (S := Int) (Ek := fun sink1 => [(2, .slice l1 l1n l1c), (3, .pointer (some (⟨b1, 0, none⟩ : Addr))), (4, .pointer (some (⟨b2, 0, none⟩ : Addr))), (6, .slice none 0 0), (7, .slice out1 out1n out1c), (8, .int .i64 i1), (9, .int .i64 sink1)]) 3 (by exact ⟨rfl, rfl, rfl, rfl, rfl, rfl, rfl, trivial⟩) ⟨h, hB⟩
      ·replace h := h.2 hb5
       refine CW.seq ?_
       refine CW.region fun L hL => ?_
       refine LW.rd hL rfl (Wants.free rfl) rfl (Rd.bin (v := .bool (t5 == 2)) rfl rfl (fun w => by kernel_rfl)) ?_
       refine LW.rd hL rfl (Wants.free rfl) rfl (Rd.assign (v := .bool (t5 == 2)) rfl) ?_
       refine LW.nil hL rfl ?_
       refine NW.then ?_
       refine CW.cond rfl (fun hb6 => ?_) (fun hb6 => ?_)
       ·replace h := h.1 hb6
        refine CW.region fun L hL => ?_
        refine LW.rd hL rfl (Wants.free rfl) rfl (Rd.assign (v := .int .i64 4) rfl) ?_
        refine LW.nil hL rfl ?_
        refine NW.block ?_
        exact NW.cut (S := Int) (Ek := fun sink1 => [(2, .slice l1 l1n l1c), (3, .pointer (some (⟨b1, 0, none⟩ : Addr))), (4, .pointer (some (⟨b2, 0, none⟩ : Addr))), (6, .slice none 0 0), (7, .slice out1 out1n out1c), (8, .int .i64 i1), (9, .int .i64 sink1)]) 4 (by exact ⟨rfl, rfl, rfl, rfl, rfl, rfl, rfl, trivial⟩) ⟨h, hB⟩
       ·replace h := h.2 hb6
        refine CW.skip ?_
        refine NW.block ?_
        exact NW.cut (S := Int) (Ek := fun sink1 => [(2, .slice l1 l1n l1c), (3, .pointer (some (⟨b1, 0, none⟩ : Addr))), (4, .pointer (some (⟨b2, 0, none⟩ : Addr))), (6, .slice none 0 0), (7, .slice out1 out1n out1c), (8, .int .i64 i1), (9, .int .i64 sink1)]) 0 (by exact ⟨rfl, rfl, rfl, rfl, rfl, rfl, rfl, trivial⟩) ⟨h, hB⟩
 ·replace h := h.2 hb1
  refine CW.exit ?_
  refine XW.then ?_
  refine XW.then ?_
  refine XW.hit ?_
  refine NW.then ?_
  refine CW.seq ?_
  refine CW.region fun L hL => ?_
  refine LW.rd hL rfl (Wants.free rfl) rfl (Rd.move (v := .slice out1 out1n out1c) rfl) ?_
  refine LW.rd hL rfl (Wants.free rfl) rfl (Rd.assign (v := .slice out1 out1n out1c) rfl) ?_
  refine LW.nil hL rfl ?_
  refine NW.then ?_
  refine CW.ret ?_
  exact res1 rfl rfl ⟨out1, out1n, out1c, rfl, h⟩
/- pomander/pomanderref02.Meet -/
def W_pomanderref02_Meet (a1 : Int) (b1 : Int) (w : World) (R : Int → World → Prop) : Prop :=
 ∃ (I1 : Int → Int → Int → World → Prop) (m1 : Int → Int → Int → World → Nat), I1 0 1 0 w ∧ ∀ (out1 : Int) (p1 : Int) (i1 : Int) (w1 : World), I1 out1 p1 i1 w1 → ((decide (i1 < 16)) = true → ∃ J1 : Int → World → Prop, (∀ (out2 : Int) (w2 : World), J1 out2 w2 → (I1 out2 (IntKind.wrap .u32 (p1 * 2)) (IntKind.wrap .i64 (i1 + 1)) w2 ∧ m1 out2 (IntKind.wrap .u32 (p1 * 2)) (IntKind.wrap .i64 (i1 + 1)) w2 < m1 out1 p1 i1 w1)) ∧ (Calls Tryz.prog 84 #[.int .u32 a1, .int .i64 i1] w1 fun e w3 => ∃ (r2 : Bool), e = .returned (.bool r2) ∧ (∃ J2 : Bool → World → Prop, (∀ (b2 : Bool) (w4 : World), J2 b2 w4 → (b2 = true → J1 (IntKind.wrap .u32 (out1 + p1)) w4) ∧ (b2 = false → J1 out1 w4)) ∧ ((r2 = true → Calls Tryz.prog 84 #[.int .u32 b1, .int .i64 i1] w3 fun e w5 => ∃ (r3 : Bool), e = .returned (.bool r3) ∧ (J2 r3 w5)) ∧ (r2 = false → J2 false w3))))) ∧ ((decide (i1 < 16)) = false → R out1 w1)
set_option maxRecDepth 100000 in
theorem go_pomanderref02_Meet (a1 : Int) (b1 : Int) (w : World) (R : Int → World → Prop) (h : W_pomanderref02_Meet a1 b1 w R) : Calls Tryz.prog 50 #[.int .u32 a1, .int .u32 b1] w (fun e w' => ∃ (r1 : Int), e = .returned (.int .u32 r1) ∧ R r1 w') := by
 unfold W_pomanderref02_Meet at h
 refine enter (N := 26) Tryz.func50 rfl rfl ?_
 refine CW.seq ?_
 refine CW.region fun L hL => ?_
 refine LW.rd hL rfl (Wants.free rfl) rfl (Rd.assign (v := .int .u32 0) rfl) ?_
 refine LW.nil hL rfl ?_
 refine NW.then ?_
 refine CW.seq ?_
 refine CW.region fun L hL => ?_
 refine LW.rd hL rfl (Wants.free rfl) rfl (Rd.assign (v := .int .u32 0) rfl) ?_
 refine LW.rd hL rfl (Wants.free rfl) rfl (Rd.assign (v := .int .u32 1) rfl) ?_
 refine LW.nil hL rfl ?_
 refine NW.then ?_
 refine CW.seq ?_
 refine CW.seq ?_
 refine CW.region fun L hL => ?_
 refine LW.rd hL rfl (Wants.free rfl) rfl (Rd.assign (v := .int .i64 0) rfl) ?_
 refine LW.nil hL rfl ?_
 refine NW.then ?_
 refine CW.block ?_
 obtain ⟨I1, m1, hI1, h⟩ := h
 refine CW.loop (S := Int × Int × Int) (fun s1 => [(0, .int .u32 a1), (1, .int .u32 b1), (4, .int .u32 0), (5, .int .u32 s1.1), (6, .int .u32 s1.2.1), (7, .int .i64 s1.2.2)]) (fun s1 w1 => I1 s1.1 s1.2.1 s1.2.2 w1) (fun s1 w1 => m1 s1.1 s1.2.1 s1.2.2 w1) (0, 1, 0) (by exact ⟨rfl, rfl, rfl, rfl, rfl, rfl, trivial⟩) hI1 (fun s1 w1 hI1 => ?_)
 obtain ⟨out1, p1, i1⟩ := s1; replace h := h out1 p1 i1 w1 hI1
 refine CW.seq ?_
 refine CW.seq ?_
 refine CW.region fun L hL => ?_
 refine LW.rd hL rfl (Wants.free rfl) rfl (Rd.move (v := .int .i64 i1) rfl) ?_
 refine LW.rd hL rfl (Wants.free rfl) rfl (Rd.bin (v := .bool (decide (i1 < 16))) rfl rfl (fun w => by kernel_rfl)) ?_
 refine LW.nil hL rfl ?_
 refine NW.then ?_
 refine CW.cond rfl (fun hb1 => ?_) (fun hb1 => ?_)
 ·replace h := h.1 hb1
  refine CW.skip ?_
  refine NW.then ?_
  refine CW.seq ?_
  refine CW.block ?_
  obtain ⟨J1, hJ1, h⟩ := h
  refine CW.cut (S := Int) (fun out2 => [(0, .int .u32 a1), (1, .int .u32 b1), (4, .int .u32 0), (6, .int .u32 p1), (7, .int .i64 i1), (5, .int .u32 out2)]) (fun out2 w2 => J1 out2 w2) (fun out2 w2 h_ => ?_) ?_
  ·replace h := hJ1 out2 w2 h_; clear h_
   refine CW.region fun L hL => ?_
   refine LW.rd hL rfl (Wants.free rfl) rfl (Rd.move (v := .int .u32 p1) rfl) ?_
   refine LW.rd hL rfl (Wants.free rfl) rfl (Rd.bin (v := .int .u32 (IntKind.wrap .u32 (p1 * 2))) rfl rfl (fun w => by kernel_rfl)) ?_
   refine LW.rd hL rfl (Wants.free rfl) rfl (Rd.assign (v := .int .u32 (IntKind.wrap .u32 (p1 * 2))) rfl) ?_
   refine LW.nil hL rfl ?_
   refine NW.block ?_
   refine NW.then ?_
   refine CW.region fun L hL => ?_
   refine LW.rd hL rfl (Wants.free rfl) rfl (Rd.move (v := .int .i64 i1) rfl) ?_
   refine LW.rd hL rfl (Wants.free rfl) rfl (Rd.bin (v := .int .i64 (IntKind.wrap .i64 (i1 + 1))) rfl rfl (fun w => by kernel_rfl)) ?_
   refine LW.rd hL rfl (Wants.free rfl) rfl (Rd.assign (v := .int .i64 (IntKind.wrap .i64 (i1 + 1))) rfl) ?_
   refine LW.nil hL rfl ?_
   exact NW.loop (S := Int × Int × Int) (Ek := fun s1 => [(0, .int .u32 a1), (1, .int .u32 b1), (4, .int .u32 0), (5, .int .u32 s1.1), (6, .int .u32 s1.2.1), (7, .int .i64 s1.2.2)]) (out2, IntKind.wrap .u32 (p1 * 2), IntKind.wrap .i64 (i1 + 1)) (by exact ⟨rfl, rfl, rfl, rfl, rfl, rfl, trivial⟩) h
  ·skip
   refine CW.seq ?_
   refine CW.region fun L hL => ?_
   refine LW.rd hL rfl (Wants.free rfl) rfl (Rd.move (v := .int .u32 a1) rfl) ?_
   refine LW.rd hL rfl (Wants.free rfl) rfl (Rd.move (v := .int .i64 i1) rfl) ?_
   refine LW.call hL rfl (Wants.free rfl) rfl (Cl.fn (f := 84) rfl Tryz.func84 (by kernel_rfl) rfl) h (fun e w3 h_ => ?_)
   clear h
   obtain ⟨r2, rfl, h⟩ := h_
   refine ⟨_, rfl, ?_⟩
   refine LW.rd hL rfl (Wants.free rfl) rfl (Rd.move (v := .bool r2) rfl) ?_
   obtain ⟨J2, hJ2, h1_J2, h0_J2⟩ := h
   suffices K1 : ∀ (b2 : Bool) (w4 : World), J2 b2 w4 → L 8 [(0, .int .u32 a1), (1, .int .u32 b1), (4, .int .u32 0), (5, .int .u32 out1), (6, .int .u32 p1), (7, .int .i64 i1), (19, .bool b2)] w4 by
    rcases Bool.eq_false_or_eq_true r2 with hb2 | hb2
    ·have h := h1_J2 hb2
     refine LW.rd hL rfl (Wants.on rfl rfl rfl rfl rfl hb2) rfl (Rd.move (v := .int .u32 b1) rfl) ?_
     refine LW.rd hL rfl (Wants.on rfl rfl rfl rfl rfl hb2) rfl (Rd.move (v := .int .i64 i1) rfl) ?_
     refine LW.call hL rfl (Wants.on rfl rfl rfl rfl rfl hb2) rfl (Cl.fn (f := 84) rfl Tryz.func84 (by kernel_rfl) rfl) h (fun e w5 h_ => ?_)
     clear h
     obtain ⟨r3, rfl, h⟩ := h_
     refine ⟨_, rfl, ?_⟩
     refine LW.rd hL rfl (Wants.free rfl) rfl (Rd.pickT rfl hb2 rfl) ?_
     exact LW.sub hL (by exact ⟨rfl, rfl, rfl, rfl, rfl, rfl, rfl, trivial⟩) (K1 r3 w5 h)
    ·have h := h0_J2 hb2
     refine LW.skip hL rfl (Skips.on rfl rfl rfl rfl rfl hb2) rfl ?_
     refine LW.skip hL rfl (Skips.on rfl rfl rfl rfl rfl hb2) rfl ?_
     refine LW.skip hL rfl (Skips.on rfl rfl rfl rfl rfl hb2) rfl ?_
     refine LW.rd hL rfl (Wants.free rfl) rfl (Rd.pickF rfl hb2 rfl) ?_
     exact LW.sub hL (by exact ⟨rfl, rfl, rfl, rfl, rfl, rfl, rfl, trivial⟩) (K1 false w3 h)
   intro b2 w4 h_
   have h := hJ2 b2 w4 h_; clear h_
   refine LW.nil hL rfl ?_
   refine NW.then ?_
   refine CW.cond rfl (fun hb3 => ?_) (fun hb3 => ?_)
   ·replace h := h.1 hb3
    refine CW.region fun L hL => ?_
    refine LW.rd hL rfl (Wants.free rfl) rfl (Rd.move (v := .int .u32 out1) rfl) ?_
    refine LW.rd hL rfl (Wants.free rfl) rfl (Rd.move (v := .int .u32 p1) rfl) ?_
    refine LW.rd hL rfl (Wants.free rfl) rfl (Rd.bin (v := .int .u32 (IntKind.wrap .u32 (out1 + p1))) rfl rfl (fun w => by kernel_rfl)) ?_
    refine LW.rd hL rfl (Wants.free rfl) rfl (Rd.assign (v := .int .u32 (IntKind.wrap .u32 (out1 + p1))) rfl) ?_
    refine LW.nil hL rfl ?_
    exact NW.cut (S := Int) (Ek := fun out2 => [(0, .int .u32 a1), (1, .int .u32 b1), (4, .int .u32 0), (6, .int .u32 p1), (7, .int .i64 i1), (5, .int .u32 out2)]) (IntKind.wrap .u32 (out1 + p1)) (by exact ⟨rfl, rfl, rfl, rfl, rfl, rfl, trivial⟩) h
   ·replace h := h.2 hb3
    refine CW.skip ?_
    exact NW.cut (S := Int) (Ek := fun out2 => [(0, .int .u32 a1), (1, .int .u32 b1), (4, .int .u32 0), (6, .int .u32 p1), (7, .int .i64 i1), (5, .int .u32 out2)]) out1 (by exact ⟨rfl, rfl, rfl, rfl, rfl, rfl, trivial⟩) h
 ·replace h := h.2 hb1
  refine CW.exit ?_
  refine XW.then ?_
  refine XW.then ?_
  refine XW.hit ?_
  refine NW.then ?_
  refine CW.seq ?_
  refine CW.region fun L hL => ?_
  refine LW.rd hL rfl (Wants.free rfl) rfl (Rd.move (v := .int .u32 out1) rfl) ?_
  refine LW.rd hL rfl (Wants.free rfl) rfl (Rd.assign (v := .int .u32 out1) rfl) ?_
  refine LW.nil hL rfl ?_
  refine NW.then ?_
  refine CW.ret ?_
  exact res1 rfl rfl ⟨out1, rfl, h⟩
end Go.Proofs.YtfcfkhbkkfpehaaGreat
end
section
/- A policy's alerts; the document's: Meet, MayRules, Stops, Alerts, SameAlerts. -/
namespace Go.Proofs.YtfcfkhbkkfpehaaGreat
open Go Go.RowKit Go.X Go.XR
theorem ref_meet {w : World} {a b : Int} (ha : u16 a) (hb : u16 b) :
  Calls Tryz.prog 50 #[.int .u32 a, .int .u32 b] w fun e w' => ∃ r : Int, e = .returned (.int .u32 r) ∧ (r = bits .and .u32 a b ∧ w' = w) := by
 obtain ⟨ha0, ha1⟩ := ha
 obtain ⟨hb0, hb1⟩ := hb
 refine go_pomanderref02_Meet _ _ _ _ ?_
 unfold W_pomanderref02_Meet
 have hx : a.toNat &&& b.toNat < 2 ^ 16 := Nat.lt_of_le_of_lt Nat.and_le_left (by omega)
 generalize hX : a.toNat &&& b.toNat = X at hx
 have hR : bits .and .u32 a b = (X : Int) := by rw [u32_and a b ha0 (by omega) hb0 (by omega), hX]
 have hbit : ∀ j, X.testBit j = (a.toNat.testBit j && b.toNat.testBit j) := fun j => by rw [← hX, Nat.testBit_and]
 refine ⟨fun out p i w' => ∃ j : Nat, i = (j : Int) ∧ j ≤ 16 ∧ out = ((X % 2 ^ j : Nat) : Int) ∧ p = ((2 ^ j : Nat) : Int) ∧ w' = w, fun _ _ i _ => (16 - i).toNat, ⟨0, rfl, by omega, by simp [Nat.mod_one], rfl, rfl⟩, ?_⟩
 rintro _ _ _ w1 ⟨j, rfl, hj, rfl, rfl, hw⟩
 subst w1
 have hp : 2 ^ j ≤ 2 ^ 16 := Nat.pow_le_pow_right (by omega) hj
 have hm : X % 2 ^ (j + 1) ≤ X := Nat.mod_le _ _
 refine ⟨fun hlt => ?_, fun hge => ?_⟩
 ·have hlt' : j < 16 := by
   have : (j : Int) < 16 := by simpa using hlt
   omega
  have hm' := mod_succ X j
  refine ⟨fun out w' => out = ((X % 2 ^ (j + 1) : Nat) : Int) ∧ w' = w, ?_, ?_⟩
  ·rintro _ w2 ⟨rfl, hw⟩
   subst w2
   rw [wr (by omega) (by omega)]
   refine ⟨⟨j + 1, by omega, by omega, rfl, ?_, rfl⟩, by simp only []; omega⟩
   rw [wru (by omega) (by omega), Nat.pow_succ]; omega
  refine (ref_bit ha0 (by omega) (by omega) (by omega)).mono ?_
  rintro _ w3 ⟨_, rfl, rfl, hw⟩
  subst w3
  refine ⟨_, rfl, fun b2 w' => b2 = X.testBit j ∧ w' = w, ?_, fun hA => ?_, fun hA => ?_⟩
  ·rintro b2 w4 ⟨rfl, hw⟩
   subst w4
   refine ⟨fun ht => ⟨?_, rfl⟩, fun hf => ⟨?_, rfl⟩⟩
   ·rw [ht] at hm'
    simp at hm'
    rw [wru (by omega) (by omega), hm']; omega
   ·rw [hf] at hm'
    simp at hm'
    rw [hm']
  ·refine (ref_bit hb0 (by omega) (by omega) (by omega)).mono ?_
   rintro _ w5 ⟨_, rfl, rfl, hw⟩
   subst w5
   refine ⟨_, rfl, ?_, rfl⟩
   simp at hA
   simp [hbit, hA]
  ·simp at hA
   exact ⟨by simp [hbit, hA], rfl⟩
 ·have hge' : ¬ (j : Int) < 16 := by simpa using hge
  have : j = 16 := by omega
  subst this
  exact ⟨by rw [hR, Nat.mod_eq_of_lt hx], rfl⟩
/-! ### Sinks -/
def sinkOf (k : Int) : Int := if k = 14 then 1 else if k = 16 then 2 else if k = 12 then 3 else if k = 2 then 4 else 0
theorem sinkOf_lt (k : Int) : 0 ≤ sinkOf k ∧ sinkOf k < 5 := by unfold sinkOf; repeat' split <;> omega
def sinksL : List (Int × Int) := upd 2 4 (upd 12 3 (upd 16 2 (upd 14 1 [])))
theorem sinksL_look (k : Int) : (lookK k sinksL).getD 0 = sinkOf k := by
 unfold sinksL sinkOf
 simp only [lookK_upd, lookK_nil]
 by_cases h1 : k = 2
 ·subst h1; rfl
 ·by_cases h2 : k = 12
  ·subst h2; rfl
  ·by_cases h3 : k = 16
   ·subst h3; rfl
   ·by_cases h4 : k = 14
    ·subst h4; rfl
    ·simp [h1, h2, h3, h4]
theorem uSink : Tryz.prog.underlying 116 = some (.map 60 115) := by kernel_rfl
theorem keyKind : KeyT Tryz.prog 60 (fun n : Int => .int .i64 n) := int_keyT (by kernel_rfl)
theorem zeroSink (w : World) : (zeroValue 115).run Tryz.prog w = .ok (.int .i64 0) w := by simp [go_sem, zeroValue]; rfl
theorem pol_sinks (w : World) : Calls Tryz.prog 48 #[] w fun e w' => ∃ r : Option Nat, e = .returned (.map r) ∧ ∃ b, r = some b ∧ MapIs w' b (fun n : Int => .int .i64 n) (fun n : Int => .int .i64 n) sinksL ∧ Chg [] w w' := by
 refine go_policy_sinks _ _ ?_
 unfold W_policy_sinks
 refine v_alloc fun b1 w1 e1 h1 c1 => ?_
 have hm : MapIs w1 b1 (fun n : Int => .int .i64 n) (fun n : Int => .int .i64 n) ([] : List (Int × Int)) := ⟨#[], 0, h1, rfl, by simp, by simp, by simp⟩
 obtain ⟨w2, u2, c2, s2, hm2⟩ := hm.update (P := Tryz.prog) (T := 116) uSink keyKind (14 : Int) (1 : Int)
 obtain ⟨w3, u3, c3, s3, hm3⟩ := hm2.update (P := Tryz.prog) (T := 116) uSink keyKind (16 : Int) (2 : Int)
 obtain ⟨w4, u4, c4, s4, hm4⟩ := hm3.update (P := Tryz.prog) (T := 116) uSink keyKind (12 : Int) (3 : Int)
 obtain ⟨w5, u5, c5, s5, hm5⟩ := hm4.update (P := Tryz.prog) (T := 116) uSink keyKind (2 : Int) (4 : Int)
 refine ⟨w2, u2, w3, u3, w4, u4, w5, u5, b1, rfl, hm5, ?_⟩
 refine (((c1.trans c2 ?_).trans c3 ?_).trans c4 ?_).trans c5 ?_ <;> (intro i hi hlt; simp at hi; omega)
/-! ### Alerts -/
def sinkV (r : List Int) (k : Int) : Int := r.getD (5 + (sinkOf k).toNat) 0
def alertOf (g : Int × Int → Int) (r : List Int) (t : Tch) : Option Pr := if bits .and .u32 (joinP g t.2) (sinkV r t.1.1) = 0 then none else some (t.1, bits .and .u32 (joinP g t.2) (sinkV r t.1.1))
def alertsP (g : Int × Int → Int) (r : List Int) (ts : List Tch) : List Pr := ts.filterMap (alertOf g r)
theorem alertsP_snoc (g : Int × Int → Int) (r : List Int) (ts : List Tch) (t : Tch) : alertsP g r (ts ++ [t]) = alertsP g r ts ++ (alertOf g r t).toList := by
 unfold alertsP; rw [List.filterMap_append]
 cases h : alertOf g r t <;> simp [h]
theorem alertsP_len (g : Int × Int → Int) (r : List Int) (ts : List Tch) : (alertsP g r ts).length ≤ ts.length := List.length_filterMap_le _ _
theorem append_al {w : World} {p : Option Addr} {n c : Nat} {out : List Pr} (h : RowAt w 118 3 p n c (out.flatMap encPr)) {b : Nat} {x : Pr} (hb : w.heap[b]? = some (.cells (encPr x).toArray 118 (0, 0))) (hn : n ≤ 1000000000) :
  ∃ p' c' w', (Builtin.append_ #[49, 49] 49 #[.slice p n c, .slice (some (⟨b, 0, none⟩ : Addr)) 1 1]).run Tryz.prog w = .ok (.slice p' (n + 1) c') w' ∧ RowAt w' 118 3 p' (n + 1) c' ((out ++ [x]).flatMap encPr) ∧ Chg (rowB p) w w' ∧
   (∀ i ∈ rowB p', i ∈ rowB p ∨ w.heap.size ≤ i) := by
 obtain ⟨p', c', w', h1, h2, h3, h4⟩ := h.append (P := Tryz.prog) (t := 49) (ty := 49) (i := Tryz.t118) (z := .agg #[.int .i64 0, .int .i64 0, .int .u32 0]) (bytes := 24) (by kernel_rfl) (by kernel_rfl) (by kernel_rfl) (by kernel_rfl) (by kernel_rfl) rfl (by omega)
  (a := ⟨b, 0, none⟩) (m := 1) (mc := 1) (news := encPr x) rfl (fun i u hi => by
   rw [add_at, cell_of hb, Nat.zero_add]; simpa using hi) (by simp [encPr, Value.oneCell']) (by simp only [maxLen]; omega) (by omega)
 exact ⟨p', c', w', h1, by simpa [List.flatMap_append] using h2, h3, h4⟩
theorem touches_from {w : World} {S : Nat → Prop} {q : Option Addr} {qn qc : Nat} {ps : List (Int × Int)} (hp : PlacesAt w S q qn ps) {b : Nat} (hb : w.heap[b]? = some (.cells #[.int .i64 0, .int .i64 0, .slice q qn qc] 65 (0, 0))) :
  TouchesAt w (fun i => S i ∨ i = b) (some ⟨b, 0, none⟩) 1 [((0, 0), ps)] := by
 refine ⟨rfl, fun j t hj => ?_⟩
 cases j with
 | succ j => simp at hj
 | zero =>
  simp at hj; subst hj
  exact ⟨by simp only [i64s]; omega, by simp only [i64s]; omega, _, q, qn, qc, rfl, .inr rfl, by rw [Nat.zero_mul, add_at]; exact cellsAt_of hb, hp.length, fun i x hi => by
   obtain ⟨k1, k2, a, k3, k4, k5⟩ := hp.each i x hi
   exact ⟨k1, k2, a, k3, .inl k4, k5⟩⟩
theorem pol_alerts {w : World} {b : Nat} {r : List Int} (h : PolAt w b r) {bf : Nat} {F : Fl} {fp : List Nat} (hF : FlowAt w bf F fp) {S : Nat → Prop} {p : Option Addr} {n c : Nat} {ts : List Tch} (hp : TouchesAt w S p n ts) (hn : n ≤ 1000000) (hin : ∀ t ∈ ts, t.2.length ≤ 9223372036854775807) :
  Calls Tryz.prog 17 #[.pointer (some ⟨b, 0, none⟩), .pointer (some ⟨bf, 0, none⟩), .slice p n c] w fun e w' => ∃ (r1 : Option Addr) (r1n r1c : Nat) (r2 : Int), e = .returned (.tuple #[.slice r1 r1n r1c, .int .i64 r2]) ∧
   (Chg [] w w' ∧ r2 = decE F ts ∧ ((∀ t ∈ ts, rightT F.fr F.se t) → RowAt w' 118 3 r1 r1n r1c ((alertsP F.g r ts).flatMap encPr)) ∧ (¬ (∀ t ∈ ts, rightT F.fr F.se t) → r1n = 0)) := by
 have hl := hp.length
 have hg : ∀ q, u16 (F.g q) := fun q => hF.each q
 refine go_policy_Policy_Alerts _ _ _ _ _ _ _ ?_
 unfold W_policy_Policy_Alerts
 refine (pol_none h).mono ?_
 rintro _ w1 ⟨_, rfl, rfl, hw⟩
 subst w1
 refine ⟨_, rfl, fun h => by simp at h, fun _ => ?_⟩
 refine (flow_decides (c := c) hF hp (by omega) hin).mono ?_
 rintro _ w2 ⟨r4, r5, rfl, c2, hr⟩
 refine ⟨_, _, rfl, ?_⟩
 unfold decE
 by_cases hall : ∀ t ∈ ts, rightT F.fr F.se t
 rotate_left
 ·rw [if_neg hall] at hr
  obtain ⟨rfl, rfl⟩ := hr
  refine ⟨fun _ => ⟨c2, by rw [if_neg hall], fun k => absurd k hall, fun _ => rfl⟩, fun h => by simp at h⟩
 rw [if_pos hall] at hr
 obtain ⟨_, rfl⟩ := hr
 refine ⟨fun h => by simp at h, fun _ => ?_⟩
 refine ⟨fun out m d x w' => ∃ j : Nat, x = j ∧ j ≤ n ∧ RowAt w' 118 3 out m d ((alertsP F.g r (ts.take j)).flatMap encPr) ∧ (∀ i ∈ rowB out, w.heap.size ≤ i) ∧ Chg [] w w', fun _ _ _ x _ => n - x.toNat, ⟨0, rfl, Nat.zero_le _, RowAt.nil, by simp [rowB], c2⟩, ?_⟩
 rintro out m d _ w3 ⟨j, rfl, hj, hrow, hfr, c3⟩
 refine ⟨fun hlt => ?_, fun hge => ?_⟩
 rotate_left
 ·have hge' : ¬ j < n := by have := of_decide_eq_false hge; omega
  rw [List.take_of_length_le (by omega)] at hrow
  exact ⟨c3, by rw [if_pos hall], fun _ => hrow, fun k => absurd hall k⟩
 have hjn : j < n := by have := of_decide_eq_true hlt; omega
 obtain ⟨t, hx⟩ := get_of (l := ts) (j := j) (by omega)
 have htm := List.mem_of_getElem? hx
 have hm := hrow.length
 rw [flat_length (enc := encPr) (size := 3) (fun _ => rfl)] at hm
 have hml : m ≤ 1000000 := by
  have h1 := alertsP_len F.g r (ts.take j)
  have h2 := List.length_take_le j ts
  omega
 refine ⟨fun out m d w' => RowAt w' 118 3 out m d ((alertsP F.g r (ts.take (j + 1))).flatMap encPr) ∧ (∀ i ∈ rowB out, w.heap.size ≤ i) ∧ Chg [] w w', ?_, ?_⟩
 ·rintro out2 m2 d2 w4 ⟨k1, k2, k3⟩
  rw [wr (by omega) (by omega)]
  exact ⟨⟨j + 1, by omega, by omega, k1, k2, k3⟩, by simp only []; omega⟩
 obtain ⟨k1, k2, a, q, qn, qc, rfl, hS, hc, hps⟩ := (hp.chg c3 (by simp)).each j t hx
 have hq := hps.length
 have hqi := hin t htm
 rw [show Int.toNat (j : Int) = j by omega]
 refine ⟨a, rfl, by omega, by omega, t.1.1, t.1.2, q, qn, qc, hc, ?_⟩
 rintro b1 w6 ⟨i1, j1⟩ c6
 have s6 := c6.size
 refine v_alloc fun b2 w7 e2 h7 c7 => ?_
 have s7 := c7.size
 have c07 := (c3.trans0 c6).trans0 c7
 have ht7 := touches_from (hps.chg (c6.trans0 c7) (by simp)) h7
 refine (flow_decides (c := 1) (hF.chg c07 (by simp)) ht7 (by omega) (by simpa using hqi)).mono ?_
 rintro _ w8 ⟨r6, r7, rfl, c8, hr6⟩
 have s8 := c8.size
 have hall1 : ∀ u ∈ [(((0, 0), t.2) : Tch)], rightT F.fr F.se u := fun u hu => by
  simp at hu; subst hu
  exact ⟨.inl rfl, (hall t htm).2⟩
 rw [if_pos hall1] at hr6
 obtain ⟨e6, rfl⟩ := hr6
 have hju := joinP_u16 hg t.2
 have e6' : r6 = joinP F.g t.2 := by
  rw [e6]
  unfold decidesP
  simp only [List.foldl_cons, List.foldl_nil, if_true]
  exact or0 _ hju.1 (by have := hju.2; omega)
 subst e6'
 refine ⟨_, _, rfl, Same.chg c8 (by simp; omega), fun w9 c9 => ⟨_, rfl, ?_⟩⟩
 have s9 := c9.size
 have c09 := (c07.trans0 c8).trans0 c9
 refine (pol_sinks w9).mono ?_
 rintro _ w10 ⟨_, rfl, b10, rfl, hmap, c10⟩
 have s10 := c10.size
 have c010 := c09.trans0 c10
 have hlk := hmap.lookup (P := Tryz.prog) (T := 116) uSink keyKind zeroSink t.1.1 false
 have hsk := sinksL_look t.1.1
 have hsl := sinkOf_lt t.1.1
 have hlk' : (Instr.lookup 116 (.map (some b10)) (.int .i64 t.1.1) false).run Tryz.prog w10 = .ok (.int .i64 (sinkOf t.1.1)) w10 := by
  rw [hlk, ← hsk]
  cases lookK t.1.1 sinksL <;> rfl
 have h10 := h.chg c010 (by simp)
 obtain ⟨sv, hsv⟩ := get_of (l := r) (j := 5 + (sinkOf t.1.1).toNat) (by rw [h.length]; omega)
 have hsv' : sinkV r t.1.1 = sv := by unfold sinkV; rw [List.getD_eq_getElem?_getD, hsv]; rfl
 have hrow10 : RowAt w10 118 3 out m d ((alertsP F.g r (ts.take j)).flatMap encPr) := (((hrow.chg c6 (by simp)).chg c7 (by simp)).chg c8 (by simp)).chg (c9.trans0 c10) (by simp)
 refine ⟨_, rfl, Same.chg c10 (by simp; omega), _, hlk', by omega, by omega, sv, ?_, fun hne => ?_, fun he => ?_⟩
 ·rw [add_at, add_at, Nat.mul_one, Nat.zero_add]; exact h10.at hsv
 ·have hne' : bits .and .u32 (joinP F.g t.2) sv ≠ 0 := by simpa using hne
  refine v_alloc fun b3 w11 e3 h11 c11 => ?_
  obtain ⟨p', c', w12, hap, hrow12, c12, hf12⟩ := append_al (x := (t.1, bits .and .u32 (joinP F.g t.2) sv)) (hrow10.chg c11 (by simp)) h11 (by omega)
  refine ⟨p', _, c', w12, hap, ?_, fun i hi => ?_, (c010.trans0 c11).trans c12 (fun i hi hlt => by have := hfr i hi; omega)⟩
  ·rw [take_snoc hx, alertsP_snoc]
   have : alertOf F.g r t = some (t.1, bits .and .u32 (joinP F.g t.2) sv) := by unfold alertOf; rw [hsv', if_neg hne']
   rw [this]
   exact hrow12
  ·rcases hf12 i hi with k | k
   ·exact hfr i k
   ·have := c010.size; have := c11.size; omega
 ·have he' : bits .and .u32 (joinP F.g t.2) sv = 0 := by simpa using he
  refine ⟨?_, hfr, c010⟩
  rw [take_snoc hx, alertsP_snoc]
  have : alertOf F.g r t = none := by unfold alertOf; rw [hsv', if_pos he']
  rw [this]
  simpa using hrow10
theorem ref_alerts {w : World} {R : Rf} {p4 p5 : Option Addr} {n4 c4 n5 c5 : Nat} (h : RefAt w R p4 n4 c4 p5 n5 c5) (hn5 : n5 ≤ 100000000) (hu : ∀ q, u16 (lookPr R.pairs q)) {S : Nat → Prop} {p : Option Addr} {n c : Nat} {ts : List Tch} (hp : TouchesAt w S p n ts) (hn : n ≤ 1000000) (hin : ∀ t ∈ ts, t.2.length ≤ 9223372036854775807)
  (a1 a2 a3 a4 a5 a6 a7 a8 a9 a10 a11 : Int) (hru : ∀ x ∈ [a1, a2, a3, a4, a5, a6, a7, a8, a9, a10, a11], u16 x) :
  Calls Tryz.prog 21 #[.agg #[.int .u32 a1, .int .u32 a2, .int .u32 a3, .int .u32 a4, .int .u32 a5, .int .u32 a6, .int .u32 a7, .int .u32 a8, .int .u32 a9, .int .u32 a10, .int .u32 a11], .agg #[.int .i64 R.fr, .int .i64 R.se, .int .i64 R.most, .slice p4 n4 c4, .slice p5 n5 c5], .slice p n c] w fun e w' =>
   ∃ (r1 : Option Addr) (r1n r1c : Nat), e = .returned (.slice r1 r1n r1c) ∧ (RowAt w' 118 3 r1 r1n r1c ((alertsP (lookPr R.pairs) [a1, a2, a3, a4, a5, a6, a7, a8, a9, a10, a11] ts).flatMap encPr) ∧ Chg [] w w') := by
 have hl := hp.length
 generalize hrr : [a1, a2, a3, a4, a5, a6, a7, a8, a9, a10, a11] = r at hru ⊢
 have hlen : r.length = 11 := by rw [← hrr]; rfl
 refine go_pomanderref12_Alerts _ _ _ _ _ _ _ _ _ _ _ _ _ _ _ _ _ _ _ _ _ _ _ _ _ ?_
 unfold W_pomanderref12_Alerts
 refine v_alloc fun b1 w1 e1 h1 c1 => ?_
 rintro b2 w2 ⟨i2, j2⟩ c2
 have s1 := c1.size
 have s2 := c2.size
 have h1' : w1.heap[b1]? = some (.cells (r.map (Value.int .u32)).toArray 25 (0, 0)) := by rw [h1, ← hrr]; rfl
 have hcell : ∀ {W : World} (k : Nat) (x : Int), Chg [] w1 W → r[5 + k]? = some x → W.cell? ((⟨b1, 5, none⟩ : Addr).add (k * 1)) = some (.int .u32 x) := fun k x hc hx => by
  rw [add_at, cell_of (hc.obj (by simp) h1')]; simp [hx]
 refine ⟨fun out m d x w' => ∃ j : Nat, x = j ∧ j ≤ n ∧ RowAt w' 118 3 out m d ((alertsP (lookPr R.pairs) r (ts.take j)).flatMap encPr) ∧ (∀ i ∈ rowB out, w2.heap.size ≤ i) ∧ Chg [] w2 w', fun _ _ _ x _ => n - x.toNat, ⟨0, rfl, Nat.zero_le _, RowAt.nil, by simp [rowB], Chg.refl _ _⟩, ?_⟩
 rintro out m d _ w3 ⟨j, rfl, hj, hrow, hfr, c3⟩
 have s3 := c3.size
 have c03 := (c1.trans0 c2).trans0 c3
 refine ⟨fun hlt => ?_, fun hge => ?_⟩
 rotate_left
 ·have hge' : ¬ j < n := by have := of_decide_eq_false hge; omega
  rw [List.take_of_length_le (by omega)] at hrow
  exact ⟨hrow, c03⟩
 have hjn : j < n := by have := of_decide_eq_true hlt; omega
 obtain ⟨t, hx⟩ := get_of (l := ts) (j := j) (by omega)
 have htm := List.mem_of_getElem? hx
 have hm := hrow.length
 rw [flat_length (enc := encPr) (size := 3) (fun _ => rfl)] at hm
 have hml : m ≤ 1000000 := by
  have h1 := alertsP_len (lookPr R.pairs) r (ts.take j)
  have h2 := List.length_take_le j ts
  omega
 refine ⟨fun out m d w' => RowAt w' 118 3 out m d ((alertsP (lookPr R.pairs) r (ts.take (j + 1))).flatMap encPr) ∧ (∀ i ∈ rowB out, w2.heap.size ≤ i) ∧ Chg [] w2 w', ?_, ?_⟩
 ·rintro out2 m2 d2 w4 ⟨k1, k2, k3⟩
  rw [wr (by omega) (by omega)]
  exact ⟨⟨j + 1, by omega, by omega, k1, k2, k3⟩, by simp only []; omega⟩
 obtain ⟨k1, k2, a, q, qn, qc, rfl, hS, hc, hps⟩ := (hp.chg c03 (by simp)).each j t hx
 have hq := hps.length
 have hqi := hin t htm
 rw [show Int.toNat (j : Int) = j by omega]
 have hsl := sinkOf_lt t.1.1
 refine ⟨fun sink w' => sink = sinkOf t.1.1 ∧ w' = w3, ?_, a, rfl, by omega, by omega, t.1.1, hc.1, fun h14 => ⟨?_, rfl⟩, fun h14 => ⟨fun h16 => ⟨?_, rfl⟩, fun h16 => ⟨fun h12 => ⟨?_, rfl⟩, fun h12 => ⟨fun h2 => ⟨?_, rfl⟩, fun h2 => ⟨?_, rfl⟩⟩⟩⟩⟩
 rotate_left
 ·have : t.1.1 = 14 := by simpa using h14
  unfold sinkOf; rw [if_pos this]
 ·have z1 : t.1.1 ≠ 14 := by simpa using h14
  have z2 : t.1.1 = 16 := by simpa using h16
  unfold sinkOf; rw [if_neg z1, if_pos z2]
 ·have z1 : t.1.1 ≠ 14 := by simpa using h14
  have z2 : t.1.1 ≠ 16 := by simpa using h16
  have z3 : t.1.1 = 12 := by simpa using h12
  unfold sinkOf; rw [if_neg z1, if_neg z2, if_pos z3]
 ·have z1 : t.1.1 ≠ 14 := by simpa using h14
  have z2 : t.1.1 ≠ 16 := by simpa using h16
  have z3 : t.1.1 ≠ 12 := by simpa using h12
  have z4 : t.1.1 = 2 := by simpa using h2
  unfold sinkOf; rw [if_neg z1, if_neg z2, if_neg z3, if_pos z4]
 ·have z1 : t.1.1 ≠ 14 := by simpa using h14
  have z2 : t.1.1 ≠ 16 := by simpa using h16
  have z3 : t.1.1 ≠ 12 := by simpa using h12
  have z4 : t.1.1 ≠ 2 := by simpa using h2
  unfold sinkOf; rw [if_neg z1, if_neg z2, if_neg z3, if_neg z4]
 rintro _ w5 ⟨rfl, hw⟩ w6 c6
 subst w5
 have s6 := c6.size
 have c06 := c03.trans0 c6
 have c16 := (c2.trans0 c3).trans0 c6
 have hc6 := c6.cells (by simp) hc
 obtain ⟨sv, hsv⟩ := get_of (l := r) (j := 5 + (sinkOf t.1.1).toNat) (by rw [hlen]; omega)
 have hsv' : sinkV r t.1.1 = sv := by unfold sinkV; rw [List.getD_eq_getElem?_getD, hsv]; rfl
 have hsu := hru sv (List.mem_of_getElem? hsv)
 refine ⟨a, rfl, by omega, by omega, q, qn, qc, hc6.2.2.1, by omega, by omega, sv, hcell _ sv c16 hsv, ?_⟩
 refine (ref_together (h.chg c06 (by simp) (by simp)) hn5 hu (hps.chg c6 (by simp)) (by omega)).mono ?_
 rintro _ w7 ⟨_, rfl, rfl, c7⟩
 have s7 := c7.size
 have hc7 := c7.cells (by simp) hc6
 have hju := joinP_u16 hu t.2
 refine ⟨_, rfl, ⟨hc7.2.2.1, hcell _ sv (c16.trans0 c7) hsv⟩, Same.chg c7 (by simp; omega), ?_⟩
 refine (ref_meet hju hsu).mono ?_
 rintro _ w8 ⟨_, rfl, rfl, hw⟩
 subst w8
 have c07 := c06.trans0 c7
 have c37 := (c3.trans0 c6).trans0 c7
 have hrow7 : RowAt w7 118 3 out m d ((alertsP (lookPr R.pairs) r (ts.take j)).flatMap encPr) := (hrow.chg c6 (by simp)).chg c7 (by simp)
 refine ⟨_, rfl, Same.refl _ _, fun hne => ?_, fun he => ?_⟩
 ·have hne' : bits .and .u32 (joinP (lookPr R.pairs) t.2) sv ≠ 0 := by simpa using hne
  refine ⟨t.1.1, t.1.2, ⟨hc7.1, hc7.2.1, trivial⟩, ?_⟩
  refine v_alloc fun b3 w9 e3 h9 c9 => ?_
  have s9 := c9.size
  obtain ⟨p', c', w10, hap, hrow10, c10, hf10⟩ := append_al (x := (t.1, bits .and .u32 (joinP (lookPr R.pairs) t.2) sv)) (hrow7.chg c9 (by simp)) h9 (by omega)
  refine ⟨p', _, c', w10, hap, Same.of c10 (fun i hi => ⟨by simp at hi; omega, fun hm => by have := hfr i hm; simp at hi; omega⟩), ?_, fun i hi => ?_, (c37.trans0 c9).trans c10 (fun i hi hlt => by have := hfr i hi; omega)⟩
  ·rw [take_snoc hx, alertsP_snoc]
   have : alertOf (lookPr R.pairs) r t = some (t.1, bits .and .u32 (joinP (lookPr R.pairs) t.2) sv) := by unfold alertOf; rw [hsv', if_neg hne']
   rw [this]
   exact hrow10
  ·rcases hf10 i hi with k | k
   ·exact hfr i k
   ·omega
 ·have he' : bits .and .u32 (joinP (lookPr R.pairs) t.2) sv = 0 := by simpa using he
  refine ⟨?_, hfr, c37⟩
  rw [take_snoc hx, alertsP_snoc]
  have : alertOf (lookPr R.pairs) r t = none := by unfold alertOf; rw [hsv', if_pos he']
  rw [this]
  simpa using hrow7
theorem same_alerts {w : World} {p q : Option Addr} {n c m d : Nat} {xs : List Pr} (h1 : RowAt w 118 3 p n c (xs.flatMap encPr)) (h2 : RowAt w 118 3 q m d (xs.flatMap encPr)) (hn : n ≤ 1000000) :
  Calls Tryz.prog 20 #[.slice p n c, .slice q m d] w fun e w' => ∃ r : Bool, e = .returned (.bool r) ∧ (r = true ∧ Chg [] w w') := by
 have l1 := h1.length
 have l2 := h2.length
 rw [flat_length (enc := encPr) (size := 3) (fun _ => rfl)] at l1 l2
 obtain rfl : n = m := by omega
 refine go_pomanderref12_SameAlerts _ _ _ _ _ _ _ _ ?_
 unfold W_pomanderref12_SameAlerts
 refine ⟨fun hne => by simp at hne, fun he => ?_⟩
 refine ⟨fun _ j w' => ∃ k : Nat, j = k ∧ k ≤ n ∧ Chg [] w w', fun _ j _ => n - j.toNat, ⟨0, rfl, Nat.zero_le _, Chg.refl _ _⟩, ?_⟩
 rintro x1 _ w1 ⟨k, rfl, hk, c1⟩
 refine ⟨fun hlt => ?_, fun hge => ⟨rfl, c1⟩⟩
 have hlt' : k < n := by have := of_decide_eq_true hlt; omega
 obtain ⟨x, hx⟩ := get_of (l := xs) (j := k) (by omega)
 obtain ⟨a, rfl, ha⟩ := RowAt.elem (size := 3) (enc := encPr) (fun _ => rfl) h1 hx (by omega)
 obtain ⟨b, rfl, hb⟩ := RowAt.elem (size := 3) (enc := encPr) (fun _ => rfl) h2 hx (by omega)
 rw [show Int.toNat (k : Int) = k by omega]
 refine ⟨a, rfl, by omega, by omega, fun w2 c2 => ⟨_, _, _, (c1.trans0 c2).cells (by simp) ha, b, rfl, by omega, by omega, _, _, _, (c1.trans0 c2).cells (by simp) hb, fun hne => by simp at hne, fun heq => ?_⟩⟩
 rw [wr (by omega) (by omega)]
 exact ⟨⟨k + 1, by omega, by omega, c1.trans0 c2⟩, by simp only []; omega⟩
theorem ref_stops {w : World} {R : Rf} {p4 p5 : Option Addr} {n4 c4 n5 c5 : Nat} (h : RefAt w R p4 n4 c4 p5 n5 c5) (hn5 : n5 ≤ 100000000) (hu : ∀ q, u16 (lookPr R.pairs q)) {S : Nat → Prop} {p : Option Addr} {n c : Nat} {ts : List Tch} (hp : TouchesAt w S p n ts) (hn : n ≤ 1000000) (hin : ∀ t ∈ ts, t.2.length ≤ 9223372036854775807)
  (a1 a2 a3 a4 a5 a6 a7 a8 a9 a10 a11 : Int) (hru : u16 a11) :
  Calls Tryz.prog 19 #[.agg #[.int .u32 a1, .int .u32 a2, .int .u32 a3, .int .u32 a4, .int .u32 a5, .int .u32 a6, .int .u32 a7, .int .u32 a8, .int .u32 a9, .int .u32 a10, .int .u32 a11], .agg #[.int .i64 R.fr, .int .i64 R.se, .int .i64 R.most, .slice p4 n4 c4, .slice p5 n5 c5], .slice p n c] w fun e w' =>
   ∃ r1 : Bool, e = .returned (.bool r1) ∧ (r1 = (!(bits .and .u32 (decidesP (lookPr R.pairs) ts) a11 == 0)) ∧ Chg [] w w') := by
 refine go_pomanderref12_Stops _ _ _ _ _ _ _ _ _ _ _ _ _ _ _ _ _ _ _ _ _ _ _ _ _ ?_
 unfold W_pomanderref12_Stops
 rintro b2 b1 w3 ⟨i2, j2⟩ ⟨i1, j1⟩ c3
 refine (ref_decides (h.chg c3 (by simp) (by simp)) hn5 hu (hp.chg c3 (by simp)) (by omega) hin).mono ?_
 rintro _ w4 ⟨_, rfl, rfl, c4⟩
 refine ⟨_, rfl, Same.chg c4 (by simp; omega), ?_⟩
 refine (ref_meet (decidesP_u16 hu ts) hru).mono ?_
 rintro _ w5 ⟨_, rfl, rfl, hw⟩
 subst w5
 exact ⟨_, rfl, rfl, c3.trans0 c4⟩
theorem ref_mayRules {w : World} (a1 a2 a3 a4 a5 a6 a7 a8 a9 a10 a11 : Int) :
  Calls Tryz.prog 13 #[.agg #[.int .u32 a1, .int .u32 a2, .int .u32 a3, .int .u32 a4, .int .u32 a5, .int .u32 a6, .int .u32 a7, .int .u32 a8, .int .u32 a9, .int .u32 a10, .int .u32 a11]] w fun e w' =>
   ∃ r1 : Bool, e = .returned (.bool r1) ∧ ((r1 = true ↔ okR [a1, a2, a3, a4, a5, a6, a7, a8, a9, a10, a11]) ∧ Chg [] w w') := by
 generalize hrr : [a1, a2, a3, a4, a5, a6, a7, a8, a9, a10, a11] = r
 have hlen : r.length = 11 := by rw [← hrr]; rfl
 have e0 : r[0]? = some a1 := by rw [← hrr]; rfl
 have e5 : r[5]? = some a6 := by rw [← hrr]; rfl
 have e10 : r[10]? = some a11 := by rw [← hrr]; rfl
 refine go_pomanderref12_MayRules _ _ _ _ _ _ _ _ _ _ _ _ _ ?_
 unfold W_pomanderref12_MayRules
 refine v_alloc fun b1 w1 e1 h1 c1 => ?_
 have h1' : w1.heap[b1]? = some (.cells (r.map (Value.int .u32)).toArray 25 (0, 0)) := by rw [h1, ← hrr]; rfl
 have hcell : ∀ (o k : Nat) (x : Int), r[o + k]? = some x → w1.cell? ((⟨b1, o, none⟩ : Addr).add (k * 1)) = some (.int .u32 x) := fun o k x hx => by
  rw [add_at, cell_of h1']; simp [hx]
 refine ⟨by omega, by omega, a1, hcell 0 0 a1 e0, fun b w' => b = decide (a1 = 0 ∧ a6 = 0) ∧ w' = w1, ?_, fun he => ?_, fun he => ?_⟩
 rotate_left
 ·have he' : a1 = 0 := by simpa using he
  exact ⟨by omega, by omega, a6, hcell 5 0 a6 e5, by rw [Bool.eq_iff_iff]; simp [he'], rfl⟩
 ·have he' : a1 ≠ 0 := by simpa using he
  exact ⟨by simp [he'], rfl⟩
 rintro _ w2 ⟨rfl, hw⟩
 subst w2
 refine ⟨fun b w' => b = decide (a1 = 0 ∧ a6 = 0 ∧ a11 < 65536) ∧ w' = w1, ?_, fun he => ?_, fun he => ?_⟩
 rotate_left
 ·have he' := of_decide_eq_true he
  exact ⟨a11, hcell 10 0 a11 e10, by simp [he'.1, he'.2], rfl⟩
 ·have he' := of_decide_eq_false he
  refine ⟨?_, rfl⟩
  symm; rw [decide_eq_false_iff_not]; exact fun k => he' ⟨k.1, k.2.1⟩
 rintro _ w3 ⟨rfl, hw⟩
 subst w3
 let Q (j : Nat) : Prop := (a1 = 0 ∧ a6 = 0 ∧ a11 < 65536) ∧ ∀ k, k < j → (∀ x, r[k]? = some x → x < 65536) ∧ ∀ x, r[5 + k]? = some x → x < 65536
 refine ⟨fun ok i w' => ∃ j : Nat, i = j ∧ j ≤ 5 ∧ (ok = true ↔ Q j) ∧ w' = w1, fun _ i _ => 5 - i.toNat, ⟨0, rfl, by omega, by rw [decide_eq_true_eq]; exact ⟨fun h => ⟨h, fun k hk => absurd hk (by omega)⟩, fun h => h.1⟩, rfl⟩, ?_⟩
 rintro ok _ w4 ⟨j, rfl, hj, hok, hw⟩
 subst w4
 refine ⟨fun hlt => ?_, fun hge => ?_⟩
 ·have hlt' : j < 5 := by have := of_decide_eq_true hlt; omega
  obtain ⟨x, hx⟩ := get_of (l := r) (j := j) (by omega)
  obtain ⟨y, hy⟩ := get_of (l := r) (j := 5 + j) (by omega)
  have hQ : Q (j + 1) ↔ Q j ∧ x < 65536 ∧ y < 65536 := by
   constructor
   ·rintro ⟨q1, q2⟩
    exact ⟨⟨q1, fun k hk => q2 k (by omega)⟩, (q2 j (by omega)).1 x hx, (q2 j (by omega)).2 y hy⟩
   ·rintro ⟨⟨q1, q2⟩, q3, q4⟩
    refine ⟨q1, fun k hk => ?_⟩
    by_cases hkj : k = j
    ·subst hkj
     exact ⟨fun z hz => by rw [hx] at hz; cases hz; exact q3, fun z hz => by rw [hy] at hz; cases hz; exact q4⟩
    ·exact q2 k (by omega)
  rw [show Int.toNat (j : Int) = j by omega]
  refine ⟨fun b w' => (b = true ↔ Q j ∧ x < 65536) ∧ w' = w1, ?_, fun ht => ⟨by omega, by omega, x, hcell 0 j x (by rw [Nat.zero_add]; exact hx), ?_, rfl⟩, fun hf => ⟨?_, rfl⟩⟩
  ·rintro b4 w5 ⟨hb4, hw⟩
   subst w5
   refine ⟨fun b w' => (b = true ↔ Q (j + 1)) ∧ w' = w1, ?_, fun ht => ⟨by omega, by omega, y, hcell 5 j y hy, ?_, rfl⟩, fun hf => ⟨?_, rfl⟩⟩
   ·rintro b5 w6 ⟨hb5, hw⟩
    rw [wr (by omega) (by omega)]
    exact ⟨⟨j + 1, by omega, by omega, hb5, hw⟩, by simp only []; omega⟩
   ·rw [decide_eq_true_eq, hQ]
    have := hb4.1 ht
    exact ⟨fun h => ⟨this.1, this.2, h⟩, fun h => h.2.2⟩
   ·rw [hQ]
    exact ⟨fun h => (by cases h), fun h => by have := hb4.2 ⟨h.1, h.2.1⟩; rw [hf] at this; cases this⟩
  ·rw [decide_eq_true_eq]
   exact ⟨fun h => ⟨hok.1 ht, h⟩, fun h => h.2⟩
  ·exact ⟨fun h => (by cases h), fun h => by have := hok.2 h.1; rw [hf] at this; cases this⟩
 ·have hge' : j = 5 := by have := of_decide_eq_false hge; omega
  subst hge'
  refine ⟨?_, c1⟩
  rw [hok]
  constructor
  ·rintro ⟨⟨q1, q2, q3⟩, q4⟩
   refine ⟨by rw [e0, q1], by rw [e5, q2], fun x hx => ?_⟩
   obtain ⟨k, hk⟩ := List.getElem?_of_mem hx
   have hkl := (List.getElem?_eq_some_iff.1 hk).1
   by_cases h5 : k < 5
   ·exact (q4 k h5).1 x hk
   ·by_cases h10 : k < 10
    ·exact (q4 (k - 5) (by omega)).2 x (by rw [show 5 + (k - 5) = k by omega]; exact hk)
    ·have : k = 10 := by omega
     subst this
     rw [e10] at hk; cases hk; exact q3
  ·rintro ⟨q1, q2, q3⟩
   rw [e0] at q1; rw [e5] at q2
   cases q1; cases q2
   exact ⟨⟨rfl, rfl, q3 _ (List.mem_of_getElem? e10)⟩, fun k hk => ⟨fun x hx => q3 x (List.mem_of_getElem? hx), fun x hx => q3 x (List.mem_of_getElem? hx)⟩⟩
end Go.Proofs.YtfcfkhbkkfpehaaGreat
end
