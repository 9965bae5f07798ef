/- The program's flow and the document's one, as values: what they say alike behind marks and touches. -/
import Derived.Test.YtkfncibmfcdokaaXRef4
set_option linter.unusedVariables false
set_option linter.unusedSimpArgs false
namespace Go.Proofs.Ytkfncibmfcdokaa
open Go Go.RowKit Go.X

def lookPr (l : List Pr) (q : Int × Int) : Int := (lookK q l).getD 0

def PutInv (p : Int × Int) (set : Int) (l : List Pr) (s : List Pr × Bool) : Prop :=
  (∀ q, q ≠ p → lookK q s.1 = lookK q l) ∧ (s.2 = true → lookK p s.1 = if set = 0 then none else some set) ∧ (s.2 = false → lookK p s.1 = none ∧ set ≠ 0)

theorem putInv_step {p : Int × Int} {set : Int} {l : List Pr} {s : List Pr × Bool} (h : PutInv p set l s) (x : Pr) : PutInv p set (l ++ [x]) (stepPut p set s x) := by
  obtain ⟨out, put⟩ := s
  obtain ⟨h1, h2, h3⟩ := h
  simp only [] at h1 h2 h3
  have hone : ∀ (q : Int × Int) (y : Pr), lookK q [y] = if y.1 = q then some y.2 else none := fun q y => by rw [lookK_cons, lookK_nil]
  unfold stepPut
  cases put with
  | true =>
    simp only [Bool.not_true, Bool.false_and, Bool.false_eq_true, if_false, Bool.true_eq_false, and_false]
    have h2' := h2 rfl
    by_cases hx : x.1 = p
    · simp only [hx, if_true]
      refine ⟨fun q hq => ?_, fun _ => h2', fun h => by simp at h⟩
      rw [h1 q hq, lookK_append, hone, hx, if_neg (Ne.symm hq), Option.or_none]
    · simp only [hx, if_false]
      refine ⟨fun q hq => ?_, fun _ => ?_, fun h => by simp at h⟩
      · rw [lookK_append, lookK_append, h1 q hq]
      · rw [lookK_append, h2', hone, if_neg hx, Option.or_none]
  | false =>
    obtain ⟨h3', hs⟩ := h3 rfl
    by_cases ha : aheadP p x.1
    · have hx : x.1 ≠ p := fun e => by rw [e] at ha; unfold aheadP at ha; omega
      simp only [Bool.not_false, Bool.true_and, ha, decide_true, if_true, hx, if_false, Bool.true_eq_false, and_false, false_and]
      refine ⟨fun q hq => ?_, fun _ => ?_, fun h => by simp at h⟩
      · rw [lookK_append, lookK_append, lookK_append, hone, hone, h1 q hq]
        simp only [Ne.symm hq, if_false, Option.or_none]
      · rw [lookK_append, lookK_append, h3', hone, hone]
        simp [hs]
    · simp only [Bool.not_false, Bool.true_and, ha, decide_false, Bool.false_eq_true, if_false]
      by_cases hx : x.1 = p
      · simp only [hx, if_true, and_self]
        refine ⟨fun q hq => ?_, fun _ => ?_, fun h => by simp at h⟩
        · rw [lookK_append, lookK_append, hone, hone, h1 q hq, hx]; simp [Ne.symm hq]
        · rw [lookK_append, h3', hone]
          simp [hs]
      · simp only [hx, if_false, false_and]
        refine ⟨fun q hq => ?_, fun h => by simp at h, fun _ => ⟨?_, hs⟩⟩
        · rw [lookK_append, lookK_append, h1 q hq]
        · rw [lookK_append, h3', hone, if_neg hx]; rfl

theorem putInv_fold (p : Int × Int) (set : Int) (l : List Pr) : PutInv p set l (foldPut p set l) := by
  have : ∀ (l l0 : List Pr) (s : List Pr × Bool), PutInv p set l0 s → PutInv p set (l0 ++ l) (l.foldl (stepPut p set) s) := by
    intro l
    induction l with
    | nil => intro l0 s h; simpa using h
    | cons x l ih =>
      intro l0 s h
      have := ih (l0 ++ [x]) _ (putInv_step h x)
      simpa using this
  have := this l [] ([], set == 0) ⟨fun q _ => rfl, fun h => by simp at h; simp [h, lookK_nil], fun h => by simp at h; exact ⟨rfl, h⟩⟩
  simpa [foldPut] using this

theorem look_refPut (p : Int × Int) (set : Int) (l : List Pr) (q : Int × Int) : lookPr (refPut p set l) q = if q = p then set else lookPr l q := by
  obtain ⟨h1, h2, h3⟩ := putInv_fold p set l
  unfold refPut lookPr
  simp only []
  by_cases hs : (foldPut p set l).2 = true
  · rw [if_pos hs]
    by_cases hq : q = p
    · subst hq
      rw [h2 hs, if_pos rfl]
      by_cases h0 : set = 0
      · simp [h0]
      · simp [h0]
    · rw [h1 q hq, if_neg hq]
  · rw [if_neg hs]
    have hs' : (foldPut p set l).2 = false := by simpa using hs
    rw [lookK_append, lookK_cons, lookK_nil]
    by_cases hq : q = p
    · subst hq
      rw [(h3 hs').1]; simp
    · rw [h1 q hq, if_neg (Ne.symm hq), if_neg hq, Option.or_none]

structure RelF (F : Fl) (R : Rf) : Prop where
  fr : R.fr = F.fr
  se : R.se = F.se
  most : R.most = F.most
  sets : R.sets = F.sets
  look : ∀ q, lookPr R.pairs q = F.g q

theorem RelF.new (fr se most : Int) : RelF (flowNew fr se most) ⟨fr, se, most, [0], []⟩ := ⟨rfl, rfl, rfl, rfl, fun _ => rfl⟩
theorem look_refFill (p : Int × Int) (set : Int) (l : List Pr) (g : Int × Int → Int) (hg : ∀ q, lookPr l q = g q) (n : Nat) (q : Int × Int) : lookPr (refFill p set l n) q = fillP g p set n q := by
  induction n generalizing q with
  | zero => exact hg q
  | succ n ih =>
    simp only [refFill, fillP, putP]
    rw [look_refPut, ih]
theorem RelF.markE {F : Fl} {R : Rf} (h : RelF F R) (p : Int × Int) (n set : Int) : refMarkE R p n set = markE F p n set := by
  unfold refMarkE Proofs.Ytkfncibmfcdokaa.markE
  rw [h.fr, h.se, h.most, h.sets]
theorem RelF.mark {F : Fl} {R : Rf} (h : RelF F R) (p : Int × Int) (n set : Int) : RelF (markF F p n set) (refMark R p n set) := by
  unfold markF refMark
  rw [h.markE]
  by_cases he : Proofs.Ytkfncibmfcdokaa.markE F p n set = 0
  · rw [if_pos he, if_pos he]
    refine ⟨h.fr, h.se, h.most, ?_, fun q => ?_⟩
    · simp only [h.most, h.sets]
    · exact look_refFill p set R.pairs F.g h.look _ q
  · rw [if_neg he, if_neg he]; exact h

/-! ### Touches applied -/
def keepStep (most : Int) (g : Int × Int → Int) (s : List Int × List Pr × Int) (t : Tch) : List Int × List Pr × Int :=
  if s.2.2 ≠ 0 ∨ t.1 = (0, 0) then s else
    if keepE most s.1 (joinP g t.2) ≠ 0 then (s.1, s.2.1, keepE most s.1 (joinP g t.2)) else (keepS most s.1 (joinP g t.2), upd t.1 (joinP g t.2) s.2.1, 0)
def keepAll (most : Int) (g : Int × Int → Int) (ts : List Tch) (sets : List Int) : List Int × List Pr × Int := ts.foldl (keepStep most g) (sets, [], 0)
theorem keepAll_snoc (most : Int) (g : Int × Int → Int) (ts : List Tch) (sets : List Int) (t : Tch) : keepAll most g (ts ++ [t]) sets = keepStep most g (keepAll most g ts sets) t := by simp [keepAll]
theorem keepAll_bad {most : Int} {g : Int × Int → Int} {ts us : List Tch} {sets : List Int} (h : (keepAll most g ts sets).2.2 ≠ 0) : keepAll most g (ts ++ us) sets = keepAll most g ts sets := by
  have : ∀ (us : List Tch) (s : List Int × List Pr × Int), s.2.2 ≠ 0 → us.foldl (keepStep most g) s = s := by
    intro us
    induction us with
    | nil => intro s _; rfl
    | cons u us ih =>
      intro s hs
      have e : keepStep most g s u = s := by unfold keepStep; rw [if_pos (.inl hs)]
      rw [List.foldl_cons, e]; exact ih s hs
  unfold keepAll at h ⊢
  rw [List.foldl_append]; exact this us _ h
def rightAll (fr se : Int) (ts : List Tch) : Prop := ∀ t ∈ ts, rightT fr se t
instance (fr se : Int) (ts : List Tch) : Decidable (rightAll fr se ts) := by unfold rightAll; exact inferInstance
def applyE (F : Fl) (ts : List Tch) : Int := if rightAll F.fr F.se ts then (keepAll F.most F.g ts F.sets).2.2 else 2
def overP (g : Int × Int → Int) (now : List Pr) : Int × Int → Int := fun q => (lookK q now).getD (g q)
def applyF (F : Fl) (ts : List Tch) : Fl :=
  if rightAll F.fr F.se ts then { F with sets := (keepAll F.most F.g ts F.sets).1, g := if (keepAll F.most F.g ts F.sets).2.2 = 0 then overP F.g (keepAll F.most F.g ts F.sets).2.1 else F.g } else F
theorem overP_nil (g : Int × Int → Int) : overP g [] = g := by funext q; simp [overP, lookK_nil]
theorem overP_upd (g : Int × Int → Int) (now : List Pr) (p : Int × Int) (set : Int) : overP g (upd p set now) = putP (overP g now) p set := by
  funext q
  unfold overP putP
  rw [lookK_upd]
  by_cases h : q = p <;> simp [h]

def putStep (g : Int × Int → Int) (l : List Pr) (t : Tch) : List Pr := if t.1 = (0, 0) then l else refPut t.1 (joinP g t.2) l
def putAll (g : Int × Int → Int) (ts : List Tch) (l : List Pr) : List Pr := ts.foldl (putStep g) l
theorem putAll_snoc (g : Int × Int → Int) (ts : List Tch) (l : List Pr) (t : Tch) : putAll g (ts ++ [t]) l = putStep g (putAll g ts l) t := by simp [putAll]
def refApplyE (R : Rf) (ts : List Tch) : Int := if rightAll R.fr R.se ts then (keepAll R.most (lookPr R.pairs) ts R.sets).2.2 else 2
def refApply (R : Rf) (ts : List Tch) : Rf :=
  if rightAll R.fr R.se ts then { R with sets := (keepAll R.most (lookPr R.pairs) ts R.sets).1, pairs := if (keepAll R.most (lookPr R.pairs) ts R.sets).2.2 = 0 then putAll (lookPr R.pairs) ts R.pairs else R.pairs } else R

theorem look_putAll (most : Int) (g : Int × Int → Int) (ts : List Tch) (sets : List Int) (l : List Pr) (hl : ∀ q, lookPr l q = g q) (h0 : (keepAll most g ts sets).2.2 = 0) (q : Int × Int) :
    lookPr (putAll g ts l) q = overP g (keepAll most g ts sets).2.1 q := by
  have : ∀ (ts us : List Tch) (l : List Pr), (keepAll most g (us ++ ts) sets).2.2 = 0 → (∀ q, lookPr l q = overP g (keepAll most g us sets).2.1 q) →
      ∀ q, lookPr (ts.foldl (putStep g) l) q = overP g (keepAll most g (us ++ ts) sets).2.1 q := by
    intro ts
    induction ts with
    | nil => intro us l h0 hl q; simpa using hl q
    | cons t ts ih =>
      intro us l h0 hl q
      have e : us ++ t :: ts = (us ++ [t]) ++ ts := by simp
      rw [e] at h0 ⊢
      have h1 : (keepAll most g (us ++ [t]) sets).2.2 = 0 := by
        by_cases hb : (keepAll most g (us ++ [t]) sets).2.2 = 0
        · exact hb
        · exfalso; rw [keepAll_bad hb] at h0; exact hb h0
      have h2 : (keepAll most g us sets).2.2 = 0 := by
        by_cases hb : (keepAll most g us sets).2.2 = 0
        · exact hb
        · exfalso; rw [keepAll_bad hb] at h1; exact hb h1
      rw [List.foldl_cons]
      refine ih (us ++ [t]) _ h0 (fun q => ?_) q
      rw [keepAll_snoc]
      rw [keepAll_snoc] at h1
      unfold keepStep at h1 ⊢
      unfold putStep
      by_cases ht : t.1 = (0, 0)
      · rw [if_pos ht, if_pos (.inr ht)]; exact hl q
      · have hn : ¬ ((keepAll most g us sets).2.2 ≠ 0 ∨ t.1 = (0, 0)) := by rintro (h | h); exact h h2; exact ht h
        rw [if_neg hn] at h1 ⊢
        rw [if_neg ht]
        by_cases hk : keepE most (keepAll most g us sets).1 (joinP g t.2) ≠ 0
        · rw [if_pos hk] at h1; exact absurd h1 hk
        · rw [if_neg hk]
          simp only []
          rw [overP_upd, look_refPut]
          unfold putP
          rw [hl q]
  exact this ts [] l h0 (fun q => by rw [show (keepAll most g [] sets).2.1 = [] from rfl, overP_nil]; exact hl q) q

theorem RelF.g {F : Fl} {R : Rf} (h : RelF F R) : lookPr R.pairs = F.g := funext h.look
theorem RelF.applyE {F : Fl} {R : Rf} (h : RelF F R) (ts : List Tch) : refApplyE R ts = applyE F ts := by
  unfold refApplyE Proofs.Ytkfncibmfcdokaa.applyE
  rw [h.fr, h.se, h.most, h.sets, h.g]
theorem RelF.apply {F : Fl} {R : Rf} (h : RelF F R) (ts : List Tch) : RelF (applyF F ts) (refApply R ts) := by
  unfold applyF refApply
  rw [h.fr, h.se, h.most, h.sets, h.g]
  by_cases hr : rightAll F.fr F.se ts
  · rw [if_pos hr, if_pos hr]
    refine ⟨rfl, rfl, rfl, rfl, fun q => ?_⟩
    simp only []
    by_cases h0 : (keepAll F.most F.g ts F.sets).2.2 = 0
    · rw [if_pos h0, if_pos h0]
      exact look_putAll F.most F.g ts F.sets R.pairs h.look h0 q
    · rw [if_neg h0, if_neg h0]; exact h.look q
  · rw [if_neg hr, if_neg hr]; exact h

end Go.Proofs.Ytkfncibmfcdokaa
