/- Acts on flows: what they are, what they do; the laws' helpers vast, broad, known, does. -/
import Derived.Test.YtkfncibmfcdokaaXRefA
import Derived.Test.YtkfncibmfcdokaaXG2
import Derived.Test.YtkfncibmfcdokaaXOpen2
set_option linter.unusedVariables false
set_option linter.unusedSimpArgs false
namespace Go.Proofs.Ytkfncibmfcdokaa
open Go Go.RowKit Go.X

structure ActV where
  kind : Int
  n : Int
  p : Int × Int
  set : Int
  ts : List Tch

def stepF (F : Fl) (a : ActV) : Fl := if a.kind = 1 then markF F a.p a.n a.set else applyF F a.ts
def stepR (R : Rf) (a : ActV) : Rf := if a.kind = 1 then refMark R a.p a.n a.set else refApply R a.ts
theorem RelF.step {F : Fl} {R : Rf} (h : RelF F R) (a : ActV) : RelF (stepF F a) (stepR R a) := by
  unfold stepF stepR
  split
  · exact h.mark _ _ _
  · exact h.apply _

/-- Acts that lie somewhere. -/
structure ActAt (w : World) (S : Nat → Prop) (q : Option Addr) (qn qc : Nat) (a : ActV) : Prop where
  p : i64s a.p.1 ∧ i64s a.p.2
  set : 0 ≤ a.set ∧ a.set < 4294967296
  n : i64s a.n
  ts : TouchesAt w S q qn a.ts
  qn : qn ≤ maxLen
  inner : ∀ t ∈ a.ts, t.2.length ≤ maxLen
structure ActsAt (w : World) (S : Nat → Prop) (p : Option Addr) (n : Nat) (acts : List ActV) : Prop where
  length : acts.length = n
  each : ∀ (j : Nat) (a : ActV), acts[j]? = some a → ∃ b q qn qc, p = some b ∧ S b.block ∧ CellsAt w (b.add (j * 6)) 0 [.int .i64 a.kind, .int .i64 a.n, .int .i64 a.p.1, .int .i64 a.p.2, .int .u32 a.set, .slice q qn qc] ∧ ActAt w S q qn qc a
theorem ActAt.chg {w w' : World} {S : Nat → Prop} {q : Option Addr} {qn qc : Nat} {a : ActV} {f : List Nat} (h : ActAt w S q qn qc a) (hc : Chg f w w') (hf : ∀ i ∈ f, ¬ S i) : ActAt w' S q qn qc a :=
  { h with ts := h.ts.chg hc hf }
theorem ActsAt.chg {w w' : World} {S : Nat → Prop} {p : Option Addr} {n : Nat} {acts : List ActV} {f : List Nat} (h : ActsAt w S p n acts) (hc : Chg f w w') (hf : ∀ i ∈ f, ¬ S i) : ActsAt w' S p n acts :=
  ⟨h.length, fun j a hj => let ⟨b, q, qn, qc, h1, h2, h3, h4⟩ := h.each j a hj; ⟨b, q, qn, qc, h1, h2, hc.cells (by rw [add_block]; exact fun hm => hf _ hm h2) h3, h4.chg hc hf⟩⟩

def broadT (ts : List Tch) : Prop := 20 < ts.length ∨ ∃ t ∈ ts, 20 < t.2.length
instance (ts : List Tch) : Decidable (broadT ts) := by unfold broadT; exact inferInstance
def vastA (acts : List ActV) : Prop := 30 < acts.length ∨ ∃ a ∈ acts, (200 < a.n ∧ a.n ≤ 65536) ∨ broadT a.ts
instance (acts : List ActV) : Decidable (vastA acts) := by unfold vastA; exact inferInstance

theorem broad12 {w : World} {S : Nat → Prop} {p : Option Addr} {n c : Nat} {ts : List Tch} (hp : TouchesAt w S p n ts) (hn : n ≤ maxLen) :
    Calls Try.prog 67 #[.slice p n c] w fun e w' => ∃ r : Bool, e = .returned (.bool r) ∧ (r = decide (broadT ts) ∧ w' = w) := by
  have hl := hp.length
  simp only [maxLen] at hn
  refine go_pomanderlaw12_broad _ _ _ _ _ ?_
  unfold W_pomanderlaw12_broad
  refine ⟨fun h => ⟨?_, rfl⟩, fun h => ?_⟩
  · have h' : 20 < n := by have : (20 : Int) < n := by simpa using h
                           omega
    symm; rw [decide_eq_true_eq]; exact .inl (by omega)
  have h' : ¬ 20 < n := by have : ¬ (20 : Int) < n := by simpa using h
                           omega
  refine ⟨fun _ i w' => ∃ j : Nat, i = (j : Int) ∧ j ≤ n ∧ (∀ t ∈ ts.take j, t.2.length ≤ 20) ∧ w' = w, fun _ i _ => (n - i).toNat, ⟨0, rfl, by omega, by simp, rfl⟩, ?_⟩
  rintro x _ w1 ⟨j, rfl, hj, hall, hw⟩
  subst w1
  refine ⟨fun hlt => ?_, fun hge => ?_⟩
  · have hlt' : j < n := by simpa using hlt
    obtain ⟨t, hx⟩ := get_of (l := ts) (j := j) (by omega)
    obtain ⟨k1, k2, a, q, qn, qc, rfl, ha, hc, hps⟩ := hp.each j _ hx
    have hq := hps.length
    refine ⟨a, rfl, by omega, by omega, q, qn, qc, by simpa using CellsAt.third hc, fun hb => ⟨?_, rfl⟩, fun hb => ?_⟩
    · have hb' : 20 < qn := by have : (20 : Int) < qn := by simpa using hb
                               omega
      symm; rw [decide_eq_true_eq]; exact .inr ⟨t, List.mem_of_getElem? hx, by omega⟩
    · have hb' : ¬ 20 < qn := by have : ¬ (20 : Int) < qn := by simpa using hb
                                 omega
      rw [wr (by omega) (by omega)]
      refine ⟨⟨j + 1, by omega, by omega, ?_, rfl⟩, by simp only []; omega⟩
      rw [take_snoc hx]
      intro z hz
      rcases List.mem_append.1 hz with hz | hz
      · exact hall z hz
      · simp at hz; subst hz; omega
  · have hge' : ¬ j < n := by simpa using hge
    rw [List.take_of_length_le (by omega)] at hall
    refine ⟨?_, rfl⟩
    symm; rw [decide_eq_false_iff_not]
    rintro (hh | ⟨t, ht, hh⟩)
    · omega
    · have := hall t ht; omega

theorem act_cells {w : World} {q : Addr} {a b c d e f : Value} (h : CellsAt w q 0 [a, b, c, d, e, f]) : w.cell? (q.add 1) = some b ∧ w.cell? (q.add 5) = some f := ⟨h.2.1, h.2.2.2.2.2.1⟩

theorem vast_ok {w : World} {S : Nat → Prop} {p : Option Addr} {n c : Nat} {acts : List ActV} (hp : ActsAt w S p n acts) (hn : n ≤ maxLen) :
    Calls Try.prog 23 #[.slice p n c] w fun e w' => ∃ r : Bool, e = .returned (.bool r) ∧ (r = decide (vastA acts) ∧ w' = w) := by
  have hl := hp.length
  simp only [maxLen] at hn
  refine go_pomanderlaw12_vast _ _ _ _ _ ?_
  unfold W_pomanderlaw12_vast
  refine ⟨fun h => ⟨?_, rfl⟩, fun h => ?_⟩
  · have h' : 30 < n := by have : (30 : Int) < n := by simpa using h
                           omega
    symm; rw [decide_eq_true_eq]; exact .inl (by omega)
  have h' : ¬ 30 < n := by have : ¬ (30 : Int) < n := by simpa using h
                           omega
  refine ⟨fun _ i w' => ∃ j : Nat, i = (j : Int) ∧ j ≤ n ∧ (∀ a ∈ acts.take j, ¬ ((200 < a.n ∧ a.n ≤ 65536) ∨ broadT a.ts)) ∧ w' = w, fun _ i _ => (n - i).toNat, ⟨0, rfl, by omega, by simp, rfl⟩, ?_⟩
  rintro x _ w1 ⟨j, rfl, hj, hall, hw⟩
  subst w1
  refine ⟨fun hlt => ?_, fun hge => ?_⟩
  · have hlt' : j < n := by simpa using hlt
    obtain ⟨t, hx⟩ := get_of (l := acts) (j := j) (by omega)
    obtain ⟨b, q, qn, qc, rfl, hb, hc, hA⟩ := hp.each j _ hx
    obtain ⟨hc1, hc5⟩ := act_cells hc
    refine ⟨b, rfl, by omega, by omega, t.n, by simpa using hc1, fun b1 w' => w' = w ∧ b1 = decide (200 < t.n ∧ t.n ≤ 65536), ?_, fun hh => ⟨rfl, ?_⟩, fun hh => ⟨rfl, ?_⟩⟩
    rotate_left
    · have hh' : 200 < t.n := by simpa using hh
      exact decide_eq_decide.2 ⟨fun h => ⟨hh', h⟩, And.right⟩
    · have hh' : ¬ 200 < t.n := by simpa using hh
      symm; rw [decide_eq_false_iff_not]; exact fun h => hh' h.1
    rintro b1 w2 ⟨hw, rfl⟩
    subst w2
    refine ⟨fun b2 w' => w' = w ∧ b2 = decide ((200 < t.n ∧ t.n ≤ 65536) ∨ broadT t.ts), ?_, fun hh => ?_, fun hh => ⟨rfl, ?_⟩⟩
    rotate_left
    · rw [decide_eq_false_iff_not] at hh
      refine ⟨q, qn, qc, by simpa using hc5, ?_⟩
      refine (broad12 (c := qc) hA.ts hA.qn).mono ?_
      rintro _ w4 ⟨_, rfl, rfl, hw⟩
      exact ⟨_, rfl, hw, decide_eq_decide.2 ⟨.inr, fun h => h.resolve_left hh⟩⟩
    · rw [decide_eq_true_eq] at hh
      symm; rw [decide_eq_true_eq]; exact .inl hh
    rintro b2 w3 ⟨hw, rfl⟩
    subst w3
    refine ⟨fun hh => ⟨?_, rfl⟩, fun hh => ?_⟩
    · rw [decide_eq_true_eq] at hh
      symm; rw [decide_eq_true_eq]; exact .inr ⟨t, List.mem_of_getElem? hx, hh⟩
    · rw [decide_eq_false_iff_not] at hh
      rw [wr (by omega) (by omega)]
      refine ⟨⟨j + 1, by omega, by omega, ?_, rfl⟩, by simp only []; omega⟩
      rw [take_snoc hx]
      intro z hz
      rcases List.mem_append.1 hz with hz | hz
      · exact hall z hz
      · simp at hz; subst hz; exact hh
  · have hge' : ¬ j < n := by simpa using hge
    rw [List.take_of_length_le (by omega)] at hall
    refine ⟨?_, rfl⟩
    symm; rw [decide_eq_false_iff_not]
    rintro (hh | ⟨t, ht, hh⟩)
    · omega
    · exact hall t ht hh

theorem known12 (w : World) : Calls Try.prog 24 #[] w fun e w' => ∃ r : Bool, e = .returned (.bool r) ∧ (r = true ∧ Chg [] w w') := by
  refine go_pomanderlaw12_known _ _ ?_
  unfold W_pomanderlaw12_known
  refine (flow_new w 1 1 4).mono ?_
  rintro _ w1 ⟨r2, r3, rfl, c1, hr⟩
  rw [if_pos (by unfold rightP; decide)] at hr
  obtain ⟨rfl, b, fp, rfl, hF, hfp⟩ := hr
  refine ⟨_, _, rfl, ?_⟩
  intro b2 b1 w5 l2 l1 c5
  have hlt := hF.lt
  have s1 := c1.size
  have s5 := c5.size
  refine (flow_mark (hF.chg c5 (by simp)) (p1 := 13) (p2 := 0) (n := 2) (set := 1) (by unfold i64s; omega) (by omega)).mono ?_
  rintro _ w6 ⟨_, rfl, rfl, fp6, hF6, c6, hf6⟩
  have s6 := c6.size
  have hlt6 := hF6.lt
  refine ⟨_, rfl, Same.of c6 (by simp; exact ⟨⟨by omega, fun hm => by have := hlt _ hm; omega⟩, by omega, fun hm => by have := hlt _ hm; omega⟩), ?_⟩
  refine v_alloc fun b3 w7 e3 h3 c7 => ?_
  refine v_alloc fun b4 w8 e4 h4 c8 => ?_
  have s7 := c7.size
  have s8 := c8.size
  have hT : TouchesAt w8 (fun i => i = b3 ∨ i = b4) (some (⟨b4, 0, none⟩ : Addr)) 1 [((1, 1), [(13, 0)])] := touches_one (p := (13, 0)) (to := (1, 1)) (c8.obj (by simp) h3) h4 (by unfold i64s; simp) (by unfold i64s; simp)
  have hF8 := (hF6.chg c7 (by simp)).chg c8 (by simp)
  refine (flow_apply (c := 1) hF8 hT (fun i hi => by
    have := hlt6 i hi
    rintro (rfl | rfl) <;> omega) (by omega) (by simp)).mono ?_
  rintro _ w9 ⟨_, rfl, rfl, fp9, hF9, c9, hf9⟩
  refine ⟨_, rfl, Same.of c9 (by simp; exact ⟨by omega, fun hm => by
    rcases hf6 _ hm with h | h
    · have := hlt _ h; omega
    · omega⟩), ?_⟩
  refine (flow_Get hF9 (p1 := 1) (p2 := 1) (by unfold i64s; omega)).mono ?_
  rintro _ w10 ⟨r6, r7, rfl, hr⟩
  obtain ⟨hr1, hr2⟩ := hr
  have key : (applyF (markF (flowNew 1 1 4) (13, 0) 2 1) [((1, 1), [(13, 0)])]).g (1, 1) = 1 ∧ applyE (markF (flowNew 1 1 4) (13, 0) 2 1) [((1, 1), [(13, 0)])] = 0 ∧ markE (flowNew 1 1 4) (13, 0) 2 1 = 0 ∧ (applyF (markF (flowNew 1 1 4) (13, 0) 2 1) [((1, 1), [(13, 0)])]).fr = 1 ∧ (applyF (markF (flowNew 1 1 4) (13, 0) 2 1) [((1, 1), [(13, 0)])]).se = 1 := by
    decide +kernel
  obtain ⟨k1, k2, k3, k4, k5⟩ := key
  rw [k4, k5, if_pos (by decide)] at hr2
  refine ⟨_, _, rfl, ?_, ?_⟩
  · rw [k2, k3, hr2.1, hr2.2, k1]; rfl
  · have c06 : Chg [] w w6 := (c1.trans0 c5).trans c6 (fun i hi hlt' => by have := hfp i hi; omega)
    refine ((c06.trans0 c7).trans0 c8).trans c9 (fun i hi hlt' => ?_) |>.trans0 hr1
    rcases hf6 _ hi with h | h
    · have := hfp _ h; omega
    · omega
end Go.Proofs.Ytkfncibmfcdokaa
