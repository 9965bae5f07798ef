/- Texts of the claim, merged: XActs XGood XPages XMisc XSame12 XHfnil XFnilW XQnil1 XHqnil XQnilW XOpen14 XStep. -/
import Derived.Test.YtfcfkhbkkfpehaaGreatDoorXK3
import Derived.Test.YtfcfkhbkkfpehaaGreatDoorProg
import Derived.Test.YtfcfkhbkkfpehaaGreatDoorRows
set_option linter.unusedSimpArgs false
set_option linter.unusedVariables false
set_option maxRecDepth 100000
section
/- Acts on flows: what they are, what they do; the laws' helpers vast, broad, known, does. -/
namespace Go.Proofs.YtfcfkhbkkfpehaaGreatDoor
open Go Go.RowKit Go.X
structure ActV where
 kind : Int
 n : Int
 p : Int × Int
 set : Int
 ts : List Tch
def stepF (F : Fl) (a : ActV) : Fl := if a.kind = 1 then markF F a.p a.n a.set else applyF F a.ts
def stepR (R : Rf) (a : ActV) : Rf := if a.kind = 1 then refMark R a.p a.n a.set else refApply R a.ts
theorem RelF.step {F : Fl} {R : Rf} (h : RelF F R) (a : ActV) : RelF (stepF F a) (stepR R a) := by
 unfold stepF stepR
 split
 ·exact h.mark _ _ _
 ·exact h.apply _
structure ActAt (w : World) (S : Nat → Prop) (q : Option Addr) (qn qc : Nat) (a : ActV) : Prop where
 p : i64s a.p.1 ∧ i64s a.p.2
 set : 0 ≤ a.set ∧ a.set < 4294967296
 n : i64s a.n
 ts : TouchesAt w S q qn a.ts
 qn : qn ≤ maxLen
 inner : ∀ t ∈ a.ts, t.2.length ≤ maxLen
structure ActsAt (w : World) (S : Nat → Prop) (p : Option Addr) (n : Nat) (acts : List ActV) : Prop where
 length : acts.length = n
 each : ∀ (j : Nat) (a : ActV), acts[j]? = some a → ∃ b q qn qc, p = some b ∧ S b.block ∧ CellsAt w (b.add (j * 6)) 0 [.int .i64 a.kind, .int .i64 a.n, .int .i64 a.p.1, .int .i64 a.p.2, .int .u32 a.set, .slice q qn qc] ∧ ActAt w S q qn qc a
theorem ActAt.chg {w w' : World} {S : Nat → Prop} {q : Option Addr} {qn qc : Nat} {a : ActV} {f : List Nat} (h : ActAt w S q qn qc a) (hc : Chg f w w') (hf : ∀ i ∈ f, ¬ S i) : ActAt w' S q qn qc a :=
 { h with ts := h.ts.chg hc hf }
theorem ActsAt.chg {w w' : World} {S : Nat → Prop} {p : Option Addr} {n : Nat} {acts : List ActV} {f : List Nat} (h : ActsAt w S p n acts) (hc : Chg f w w') (hf : ∀ i ∈ f, ¬ S i) : ActsAt w' S p n acts :=
 ⟨h.length, fun j a hj => let ⟨b, q, qn, qc, h1, h2, h3, h4⟩ := h.each j a hj; ⟨b, q, qn, qc, h1, h2, hc.cells (by rw [add_block]; exact fun hm => hf _ hm h2) h3, h4.chg hc hf⟩⟩
def broadT (ts : List Tch) : Prop := 20 < ts.length ∨ ∃ t ∈ ts, 20 < t.2.length
instance (ts : List Tch) : Decidable (broadT ts) := by unfold broadT; exact inferInstance
def vastA (acts : List ActV) : Prop := 30 < acts.length ∨ ∃ a ∈ acts, (200 < a.n ∧ a.n ≤ 65536) ∨ broadT a.ts
instance (acts : List ActV) : Decidable (vastA acts) := by unfold vastA; exact inferInstance
end Go.Proofs.YtfcfkhbkkfpehaaGreatDoor
end
section
/- The document's pairs: rising, none empty, all of places that may be; two such lists that say the same are the same. -/
namespace Go.Proofs.YtfcfkhbkkfpehaaGreatDoor
open Go Go.RowKit Go.X
theorem ahead_trans {a b c : Int × Int} (h : aheadP a b) (k : aheadP b c) : aheadP a c := by unfold aheadP at *; omega
theorem ahead_irrefl (a : Int × Int) : ¬ aheadP a a := by unfold aheadP; omega
theorem ahead_tri {a b : Int × Int} (h : ¬ aheadP a b) (k : b ≠ a) : aheadP b a := by
 unfold aheadP at *
 by_cases e : a.1 = b.1
 ·by_cases e2 : a.2 = b.2
  ·exact absurd (Prod.ext e.symm e2.symm) k
  ·omega
 ·omega
structure Good (fr se : Int) (l : List Pr) : Prop where
 rise : (l.map Prod.fst).Pairwise aheadP
 each : ∀ x ∈ l, x.2 ≠ 0 ∧ mayP fr se x.1
theorem Good.nil (fr se : Int) : Good fr se [] := ⟨by simp, by simp⟩
structure PutG (p : Int × Int) (set : Int) (l : List Pr) (s : List Pr × Bool) : Prop where
 rise : (s.1.map Prod.fst).Pairwise aheadP
 keys : ∀ x ∈ s.1, x ∈ l ∨ (x = (p, set) ∧ set ≠ 0 ∧ ∃ y ∈ l, p = y.1 ∨ aheadP p y.1)
 off : s.2 = false → set ≠ 0 ∧ (∀ y ∈ l, aheadP y.1 p) ∧ ∀ x ∈ s.1, aheadP x.1 p
theorem rise_snoc {l : List Pr} {x : Pr} (h : (l.map Prod.fst).Pairwise aheadP) (hx : ∀ y ∈ l, aheadP y.1 x.1) : ((l ++ [x]).map Prod.fst).Pairwise aheadP := by
 rw [List.map_append, List.pairwise_append]
 refine ⟨h, by simp, fun a ha b hb => ?_⟩
 obtain ⟨y, hy, rfl⟩ := List.mem_map.1 ha
 simp at hb; subst hb
 exact hx y hy
theorem putG_step {p : Int × Int} {set : Int} {l : List Pr} {s : List Pr × Bool} (h : PutG p set l s) {x : Pr} (hx : ∀ y ∈ l, aheadP y.1 x.1) : PutG p set (l ++ [x]) (stepPut p set s x) := by
 have hs : ∀ y ∈ s.1, aheadP y.1 x.1 := fun y hy => by
  rcases h.keys y hy with k | ⟨rfl, _, z, hz, k⟩
  ·exact hx y k
  ·rcases k with k | k
   ·simp only []; rw [k]; exact hx z hz
   ·exact ahead_trans k (hx z hz)
 have up : ∀ y ∈ s.1, y ∈ l ++ [x] ∨ (y = (p, set) ∧ set ≠ 0 ∧ ∃ z ∈ l ++ [x], p = z.1 ∨ aheadP p z.1) := fun y hy => by
  rcases h.keys y hy with k | ⟨k1, k0, z, hz, k2⟩
  ·exact .inl (by simp [k])
  ·exact .inr ⟨k1, k0, z, by simp [hz], k2⟩
 unfold stepPut
 cases hf : s.2 with
 | true =>
  simp only [Bool.not_true, Bool.false_and, Bool.false_eq_true, if_false, hf, and_false, reduceCtorEq]
  by_cases hxp : x.1 = p
  ·rw [if_pos hxp]
   exact ⟨h.rise, up, fun h => by cases h⟩
  ·rw [if_neg hxp]
   refine ⟨rise_snoc h.rise hs, fun y hy => ?_, fun h => by cases h⟩
   rcases List.mem_append.1 hy with hy | hy
   ·exact up y hy
   ·exact .inl (by simp at hy; simp [hy])
 | false =>
  obtain ⟨h0, h1, h2⟩ := h.off hf
  by_cases ha : aheadP p x.1
  ·have hxp : x.1 ≠ p := fun e => ahead_irrefl p (by rw [e] at ha; exact ha)
   simp only [Bool.not_false, Bool.true_and, ha, decide_true, if_true, hxp, if_false, false_and]
   refine ⟨rise_snoc (rise_snoc h.rise h2) fun y hy => ?_, fun y hy => ?_, fun h => by cases h⟩
   ·rcases List.mem_append.1 hy with hy | hy
    ·exact hs y hy
    ·simp at hy; subst hy; exact ha
   ·rcases List.mem_append.1 hy with hy | hy
    ·rcases List.mem_append.1 hy with hy | hy
     ·exact up y hy
     ·simp at hy; exact .inr ⟨hy, h0, x, by simp, .inr ha⟩
    ·exact .inl (by simp at hy; simp [hy])
  ·simp only [Bool.not_false, Bool.true_and, ha, decide_false, Bool.false_eq_true, if_false, hf, and_true]
   by_cases hxp : x.1 = p
   ·simp only [hxp, if_true]
    refine ⟨rise_snoc h.rise h2, fun y hy => ?_, fun h => by cases h⟩
    rcases List.mem_append.1 hy with hy | hy
    ·exact up y hy
    ·simp at hy; exact .inr ⟨hy, h0, x, by simp, .inl hxp.symm⟩
   ·simp only [hxp, if_false]
    have hxa : aheadP x.1 p := ahead_tri ha hxp
    refine ⟨rise_snoc h.rise hs, fun y hy => ?_, fun _ => ⟨h0, fun y hy => ?_, fun y hy => ?_⟩⟩
    ·rcases List.mem_append.1 hy with hy | hy
     ·exact up y hy
     ·exact .inl (by simp at hy; simp [hy])
    ·rcases List.mem_append.1 hy with hy | hy
     ·exact h1 y hy
     ·simp at hy; subst hy; exact hxa
    ·rcases List.mem_append.1 hy with hy | hy
     ·exact h2 y hy
     ·simp at hy; subst hy; exact hxa
theorem putG_fold (p : Int × Int) (set : Int) : ∀ (n : Nat) (l : List Pr), l.length = n → (l.map Prod.fst).Pairwise aheadP → PutG p set l (foldPut p set l)
 | 0, l, hl, _ => by
  obtain rfl := List.eq_nil_of_length_eq_zero hl
  exact ⟨by simp [foldPut], by simp [foldPut], fun h => ⟨by simpa [foldPut] using h, by simp, by simp [foldPut]⟩⟩
 | n + 1, l, hl, hr => by
  have hne : l ≠ [] := fun e => by subst e; simp at hl
  obtain ⟨l', x, rfl⟩ : ∃ l' x, l = l' ++ [x] := ⟨l.dropLast, l.getLast hne, (List.dropLast_concat_getLast hne).symm⟩
  rw [List.map_append, List.pairwise_append] at hr
  rw [foldPut_snoc]
  refine putG_step (putG_fold p set n l' (by simpa using hl) hr.1) fun y hy => ?_
  exact hr.2.2 y.1 (List.mem_map.2 ⟨y, hy, rfl⟩) x.1 (by simp)
theorem Good.put {fr se : Int} {l : List Pr} (h : Good fr se l) {p : Int × Int} {set : Int} (hp : mayP fr se p) : Good fr se (refPut p set l) := by
 have hg := putG_fold p set _ l rfl h.rise
 have hk : ∀ x ∈ (foldPut p set l).1, x.2 ≠ 0 ∧ mayP fr se x.1 := fun x hx => by
  rcases hg.keys x hx with k | ⟨rfl, k0, _⟩
  ·exact h.each x k
  ·exact ⟨k0, hp⟩
 unfold refPut
 simp only []
 cases hf : (foldPut p set l).2 with
 | true => exact ⟨by simpa using hg.rise, by simpa using hk⟩
 | false =>
  obtain ⟨h0, h1, h2⟩ := hg.off hf
  simp only [Bool.false_eq_true, if_false]
  refine ⟨rise_snoc hg.rise h2, fun x hx => ?_⟩
  rcases List.mem_append.1 hx with hx | hx
  ·exact hk x hx
  ·simp at hx; subst hx; exact ⟨h0, hp⟩
theorem Good.fill {fr se : Int} {p : Int × Int} {set : Int} {l : List Pr} (h : Good fr se l) : ∀ (n : Nat), (∀ i : Nat, i < n → mayP fr se (p.1, p.2 + i)) → Good fr se (refFill p set l n)
 | 0, _ => h
 | n + 1, hp => (Good.fill h n fun i hi => hp i (by omega)).put (hp n (by omega))
theorem Good.all {fr se : Int} {g : Int × Int → Int} : ∀ (ts : List Tch) {l : List Pr}, Good fr se l → rightAll fr se ts → Good fr se (putAll g ts l)
 | [], _, h, _ => h
 | t :: ts, l, h, hr => by
  show Good fr se (putAll g ts (putStep g l t))
  refine Good.all ts ?_ fun u hu => hr u (by simp [hu])
  unfold putStep
  split
  ·exact h
  ·rename_i hne
   exact h.put ((hr t (by simp)).1.resolve_left hne)
theorem Good.step {R : Rf} (h : Good R.fr R.se R.pairs) (a : ActV) : Good (stepR R a).fr (stepR R a).se (stepR R a).pairs := by
 unfold stepR
 split
 ·unfold refMark
  split
  ·rename_i he
   refine h.fill _ fun i hi => ?_
   unfold refMarkE at he
   split at he
   ·cases he
   ·rename_i k1
    split at he
    ·cases he
    ·rename_i k2
     have m1 : mayP R.fr R.se a.p := by
      apply Classical.byContradiction; intro k; exact k1 (.inl k)
     have m2 : mayP R.fr R.se (a.p.1, a.p.2 + a.n - 1) := by
      apply Classical.byContradiction; intro k; exact k2 (.inr (.inr ⟨by omega, k⟩))
     obtain ⟨q1, q2, q3, q4⟩ := m1
     obtain ⟨_, _, _, q5⟩ := m2
     simp only [] at q5
     exact ⟨q1, q2, by simp only []; omega, by simp only []; omega⟩
  ·exact h
 ·unfold refApply
  split
  ·rename_i hr
   simp only []
   split
   ·exact h.all _ hr
   ·exact h
  ·exact h
theorem Good.look {fr se : Int} {l : List Pr} (h : Good fr se l) (p : Int × Int) : p ∈ l.map Prod.fst ↔ lookPr l p ≠ 0 := by
 unfold lookPr
 cases hl : lookK p l with
 | none =>
  simp only [Option.getD_none, ne_eq, not_true, iff_false]
  intro hm
  obtain ⟨x, hx, e⟩ := List.mem_map.1 hm
  exact lookK_none.1 hl x hx e
 | some v =>
  have hm := lookK_mem hl
  simp only [Option.getD_some]
  exact ⟨fun _ => (h.each _ hm).1, fun _ => List.mem_map.2 ⟨_, hm, rfl⟩⟩
theorem Good.nodup {fr se : Int} {l : List Pr} (h : Good fr se l) : (l.map Prod.fst).Nodup := List.Pairwise.imp (R := aheadP) (S := (· ≠ ·)) (fun {a b} hab e => by subst e; exact ahead_irrefl a hab) h.rise
theorem Good.eq {fr se : Int} {l : List Pr} (h : Good fr se l) : l = (l.map Prod.fst).map fun p => (p, lookPr l p) := by
 rw [List.map_map]
 refine (List.map_id l).symm.trans (List.map_congr_left fun x hx => ?_)
 have := (lookK_iff h.nodup).2 (show (x.1, x.2) ∈ l from hx)
 simp only [Function.comp, id_eq, lookPr, this, Option.getD_some]
end Go.Proofs.YtfcfkhbkkfpehaaGreatDoor
end
section
/- Pages of sets, the sets that are kept: the flow's, the document's. -/
namespace Go.Proofs.YtfcfkhbkkfpehaaGreatDoor
open Go Go.RowKit Go.X Go.XR
/-! ### The document's pages -/
end Go.Proofs.YtfcfkhbkkfpehaaGreatDoor
end
section
/- Small lemmas of several laws. -/
namespace Go.Proofs.YtfcfkhbkkfpehaaGreatDoor
open Go Go.RowKit Go.X
end Go.Proofs.YtfcfkhbkkfpehaaGreatDoor
end
section
/- The law's helper same: a flow has just the document's sets. -/
namespace Go.Proofs.YtfcfkhbkkfpehaaGreatDoor
open Go Go.RowKit Go.X Go.XR
end Go.Proofs.YtfcfkhbkkfpehaaGreatDoor
end
section
namespace Go.Proofs.YtfcfkhbkkfpehaaGreatDoor
open Go Go.X
end Go.Proofs.YtfcfkhbkkfpehaaGreatDoor
end
section
/- FlowNil's walk: no flow there. -/
namespace Go.Proofs.YtfcfkhbkkfpehaaGreatDoor
open Go Go.RowKit Go.X Go.XR
theorem PlacesAt.mono {w : World} {S T : Nat → Prop} {p : Option Addr} {n : Nat} {ps : List (Int × Int)} (h : PlacesAt w S p n ps) (hs : ∀ i, S i → T i) : PlacesAt w T p n ps :=
 ⟨h.length, fun j x hx => let ⟨h1, h2, a, h3, h4, h5⟩ := h.each j x hx; ⟨h1, h2, a, h3, hs _ h4, h5⟩⟩
theorem TouchesAt.mono {w : World} {S T : Nat → Prop} {p : Option Addr} {n : Nat} {ts : List Tch} (h : TouchesAt w S p n ts) (hs : ∀ i, S i → T i) : TouchesAt w T p n ts :=
 ⟨h.length, fun j x hx => let ⟨h1, h2, a, q, qn, qc, h3, h4, h5, h6⟩ := h.each j x hx; ⟨h1, h2, a, q, qn, qc, h3, hs _ h4, h5, h6.mono hs⟩⟩
theorem ActAt.mono {w : World} {S T : Nat → Prop} {q : Option Addr} {qn qc : Nat} {a : ActV} (h : ActAt w S q qn qc a) (hs : ∀ i, S i → T i) : ActAt w T q qn qc a := { h with ts := h.ts.mono hs }
def IsNone (w : World) (p : Option Addr) (b : Bool) : Prop := Calls Tryz.prog 36 #[.pointer p] w fun e w' => ∃ r : Bool, e = .returned (.bool r) ∧ (r = b ∧ w' = w)
theorem isNone_nil (w : World) : IsNone w none true := by
 refine ok_flow_Flow_none _ _ _ ?_
 unfold V_flow_Flow_none
 exact ⟨_, fun b w h => h, fun h => by simp at h, fun _ => ⟨rfl, rfl⟩⟩
section
variable {w : World} {p : Option Addr}
theorem nofl_copy (h : IsNone w p true) : Calls Tryz.prog 27 #[.pointer p] w fun e w' => ∃ r : Option Addr, e = .returned (.pointer r) ∧ (r = none ∧ Chg [] w w') := by
 refine go_flow_Flow_Copy _ _ _ ?_
 unfold W_flow_Flow_Copy
 refine h.mono ?_
 rintro _ w2 ⟨_, rfl, rfl, hw⟩
 subst w2
 exact ⟨_, rfl, fun _ => ⟨rfl, Chg.refl _ _⟩, fun h => by simp at h⟩
end
end Go.Proofs.YtfcfkhbkkfpehaaGreatDoor
end
section
/- Histories that are not there; Copy. -/
namespace Go.Proofs.YtfcfkhbkkfpehaaGreatDoor
open Go Go.RowKit Go.X Go.XR
def NoHist (w : World) (p : Option Addr) : Prop := ∀ w', Chg [] w w' → Calls Tryz.prog 24 #[.pointer p] w' fun e w'' => ∃ r : Bool, e = .returned (.bool r) ∧ (r = true ∧ w'' = w')
theorem NoHist.chg {w w' : World} {p : Option Addr} (h : NoHist w p) (hc : Chg [] w w') : NoHist w' p := fun w'' h2 => h w'' (hc.trans0 h2)
theorem noHist_nil (w : World) : NoHist w none := fun w' _ => by
 refine go_query_History_none _ _ _ ?_
 unfold W_query_History_none
 exact ⟨fun b w'' => b = true ∧ w'' = w', fun b w'' h => h, fun h => by simp at h, fun _ => ⟨rfl, rfl⟩⟩
theorem noHist_zero {w : World} {b : Nat} {x y : Int} (h : w.heap[b]? = some (.cells #[.map none, .int .i64 x, .int .i64 y] 31 (0, 0))) : NoHist w (some ⟨b, 0, none⟩) := fun w' hc => by
 refine go_query_History_none _ _ _ ?_
 unfold W_query_History_none
 exact ⟨fun b w'' => b = true ∧ w'' = w', fun b w'' h => h, fun _ => ⟨_, rfl, none, by rw [cell_of (hc.obj (by simp) h)]; rfl, rfl, rfl⟩, fun h => by simp at h⟩
section
variable {w : World} {p : Option Addr}
theorem noh_add (h : NoHist w p) {S : Nat → Prop} {q : Option Addr} {n c : Nat} {ts : List Tch} (hp : TouchesAt w S q n ts) (hn : n ≤ 1000000) (step : Int) :
  Calls Tryz.prog 7 #[.pointer p, .int .i64 step, .slice q n c] w fun e w' => ∃ r : Int, e = .returned (.int .i64 r) ∧ (r = 1 ∧ Chg [] w w') := by
 have hpl := hp.length
 refine go_query_History_Add _ _ _ _ _ _ _ ?_
 unfold W_query_History_Add
 refine ⟨fun e w' => e = 1 ∧ Chg [] w w', fun e w' h => h, ?_⟩
 refine ⟨fun many x w2 => ∃ j : Nat, x = (j : Int) ∧ j ≤ ts.length ∧ 0 ≤ many ∧ many ≤ j ∧ Chg [] w w2, fun many x _ => (ts.length - x).toNat, ⟨0, rfl, Nat.zero_le _, by simp, by simp, Chg.refl _ _⟩, ?_⟩
 rintro many _ w2 ⟨j, rfl, hj, hm0, hm1, c2⟩
 refine ⟨fun hlt => ?_, fun hge => ?_⟩
 ·have hjn : j < ts.length := by have := of_decide_eq_true hlt; omega
  obtain ⟨t, ht⟩ := get_of hjn
  obtain ⟨i1, i2, a, q, qn, qc, ha, hSa, hcs, hpl⟩ := (hp.chg (f := []) c2 (by simp)).each j t ht
  refine ⟨fun many2 w3 => 0 ≤ many2 ∧ many2 ≤ j + 1 ∧ Chg [] w w3, ?_, a, ha, by omega, by omega, t.1.1, t.1.2, q, qn, qc, by simpa using hcs, ?_⟩
  ·rintro many2 w3 ⟨k1, k2, c3⟩
   rw [wr (by omega) (by omega)]
   exact ⟨⟨j + 1, by omega, by omega, k1, by omega, c3⟩, by simp only []; omega⟩
  ·rintro b1 w5 ⟨q1, q2⟩ c5
   refine ⟨fun hz => ?_, fun hz => ⟨hm0, by omega, c2.trans0 c5⟩⟩
   rw [wr (by omega) (by omega)]
   exact ⟨by omega, by omega, c2.trans0 c5⟩
 ·refine (h w2 c2).mono ?_
  rintro _ w6 ⟨_, rfl, rfl, hw⟩
  subst w6
  exact ⟨_, rfl, fun _ => ⟨rfl, c2⟩, fun h => by simp at h⟩
theorem noh_last (h : NoHist w p) (p1 p2 step : Int) : Calls Tryz.prog 8 #[.pointer p, .agg #[.int .i64 p1, .int .i64 p2], .int .i64 step] w fun e w' => ∃ (r1 r2 r3 : Int) (r4 : Option Addr) (r4n r4c : Nat) (r5 : Bool), e = .returned (.tuple #[.agg #[.int .i64 r1, .int .i64 r2, .int .i64 r3, .slice r4 r4n r4c], .bool r5]) ∧
      ((r1 = 0 ∧ r2 = 0 ∧ r3 = 0 ∧ (r4, r4n, r4c) = ((none, 0, 0) : Sl) ∧ r5 = false) ∧ Chg [] w w') := by
  refine go_query_History_Last _ _ _ _ _ _ ?_
  unfold W_query_History_Last
  rintro b2 b1 w2 ⟨l2, u2⟩ ⟨l1, u1⟩ c2
  refine (h w2 c2).mono ?_
  rintro _ w3 ⟨_, rfl, rfl, hw⟩
  subst w3
  exact ⟨_, rfl, Same.refl _ _, fun _ w4 c4 => ⟨⟨rfl, rfl, rfl, rfl, rfl⟩, c2.trans c4 (fun i hi hlt => by simp at hi; omega)⟩, fun h => by simp at h⟩
theorem noh_notes (h : NoHist w p) (p1 p2 : Int) : Calls Tryz.prog 14 #[.pointer p, .agg #[.int .i64 p1, .int .i64 p2]] w fun e w' => ∃ (r : Option Addr) (rn rc : Nat), e = .returned (.slice r rn rc) ∧ (rn = 0 ∧ Chg [] w w') := by
 refine go_query_History_Notes _ _ _ _ _ ?_
 unfold W_query_History_Notes
 rintro b1 w1 _ c1
 refine (h w1 c1).mono ?_
 rintro _ w2 ⟨_, rfl, rfl, hw⟩
 subst w2
 exact ⟨_, rfl, Same.refl _ _, fun _ => ⟨rfl, c1⟩, fun h => by simp at h⟩
theorem noh_len (h : NoHist w p) : Calls Tryz.prog 15 #[.pointer p] w fun e w' => ∃ r : Int, e = .returned (.int .i64 r) ∧ (r = 0 ∧ w' = w) := by
 refine go_query_History_Len _ _ _ ?_
 unfold W_query_History_Len
 refine (h w (Chg.refl _ _)).mono ?_
 rintro _ w1 ⟨_, rfl, rfl, hw⟩
 subst w1
 exact ⟨_, rfl, fun _ => ⟨rfl, rfl⟩, fun h => by simp at h⟩
theorem noh_roots (h : NoHist w p) (p1 p2 step : Int) : Calls Tryz.prog 13 #[.pointer p, .agg #[.int .i64 p1, .int .i64 p2], .int .i64 step] w fun e w' => ∃ (r : Option Addr) (rn rc : Nat), e = .returned (.slice r rn rc) ∧ (rn = 0 ∧ Chg [] w w') := by
 refine go_query_History_Roots _ _ _ _ _ _ ?_
 unfold W_query_History_Roots
 refine v_alloc fun b1 w1 e1 hb1 c1 => ?_
 rintro b2 w2 ⟨l2, u2⟩ c2
 refine ⟨p, by rw [cell_of (c2.obj (by simp) hb1)]; rfl, ?_⟩
 refine (h w2 (c1.trans0 c2)).mono ?_
 rintro _ w3 ⟨_, rfl, rfl, hw⟩
 subst w3
 exact ⟨_, rfl, Same.refl _ _, fun _ => ⟨rfl, c1.trans0 c2⟩, fun h => by simp at h⟩
theorem noh_copy (h : NoHist w p) : Calls Tryz.prog 11 #[.pointer p] w fun e w' => ∃ r : Option Addr, e = .returned (.pointer r) ∧ (r = none ∧ w' = w) := by
 refine go_query_History_Copy _ _ _ ?_
 unfold W_query_History_Copy
 refine (h w (Chg.refl _ _)).mono ?_
 rintro _ w1 ⟨_, rfl, rfl, hw⟩
 subst w1
 exact ⟨_, rfl, fun _ => ⟨rfl, rfl⟩, fun h => by simp at h⟩
theorem noflow_who (set : Int) : Calls Tryz.prog 9 #[.pointer none, .int .u32 set] w fun e w' => ∃ (r : Option Addr) (rn rc : Nat) (r2 : Int), e = .returned (.tuple #[.slice r rn rc, .int .i64 r2]) ∧ (r2 = 1 ∧ Chg [] w w') := by
 refine go_query_Who _ _ _ _ ?_
 unfold W_query_Who
 rintro b1 w1 ⟨l1, u1⟩ c1
 refine (nofl_copy (isNone_nil w1)).mono ?_
 rintro _ w2 ⟨_, rfl, rfl, c2⟩
 exact ⟨_, rfl, Same.chg c2 (by simpa using u1), fun _ => ⟨rfl, c1.trans0 c2⟩, fun h => by simp at h⟩
end
theorem hist_copy {w : World} {b : Nat} {ns : List Nt} {cnt last : Int} {fp : List Nat} (h : HistAt w b ns cnt last fp) (hM : ∀ n ∈ ns, n.2.2.length ≤ 1000) :
  Calls Tryz.prog 11 #[.pointer (some ⟨b, 0, none⟩)] w fun e w' => ∃ r : Option Addr, e = .returned (.pointer r) ∧ (∃ b' fp', r = some ⟨b', 0, none⟩ ∧ HistAt w' b' ns cnt last fp' ∧ Chg [] w w' ∧ ∀ i ∈ fp', w.heap.size ≤ i) := by
 obtain ⟨m, tbl, g, h1, h2, h3, h4, h5, h6, h7, h8, h9⟩ := h.there
 refine go_query_History_Copy _ _ _ ?_
 unfold W_query_History_Copy
 refine (hist_none h).mono ?_
 rintro _ w1 ⟨_, rfl, rfl, hw⟩
 subst w1
 refine ⟨_, rfl, fun h => by simp at h, fun _ w2 c2 => ⟨_, rfl, cnt, by rw [add_at, cell_of (c2.obj (by simp) h1)]; rfl, last, by rw [add_at, cell_of (c2.obj (by simp) h1)]; rfl, ?_⟩⟩
 refine v_alloc fun b1 w3 e1 hb1 c3 => ?_
 refine v_alloc fun b2 w4 e2 hb2 c4 => ?_
 have s2 := c2.size
 have s3 := c3.size
 have s4 := c4.size
 have k1 := lt_of_heap hb1
 have k2 := lt_of_heap hb2
 have c04 := (c2.trans0 c3).trans0 c4
 have hM4 := h2.chg c04 (by simp)
 refine ⟨some m, by rw [cell_of (c04.obj (by simp) h1)]; rfl, ?_⟩
 obtain ⟨it, w5, hrg, c5, hit, hI5⟩ := iter_range (P := Tryz.prog) (T := 29) hM4 uHN
 have s5 := c5.size
 have hml := hM4.lt
 have hml0 := h2.lt
 refine ⟨_, w5, hrg, ?_⟩
 have hnm : it ≠ m := by omega
 have hitl := hI5.lt
 refine ⟨fun w6 => ∃ (done : List (Pl × Sl)) (tc : List (Pl × Sl)), IterAt w6 it m encP encSl tbl done ∧ MapIs w6 b1 encP encSl tc ∧ w6.heap[b2]? = some (.cells #[.map (some b1), .int .i64 cnt, .int .i64 last] 31 (0, 0)) ∧ Chg [] w w6 ∧ w5.heap.size ≤ w6.heap.size ∧
   (∀ p, (lookK p tc).isSome = true ↔ p ∈ done.map Prod.fst) ∧ (∀ p v, lookK p tc = some v → OwnNotes w6 w.heap.size v.1 v.2.1 v.2.2 (ofPl ns p)) ∧ (∀ p p' v v', lookK p tc = some v → lookK p' tc = some v' → p ≠ p' → ∀ i ∈ rowB v.1, i ∉ rowB v'.1),
  fun w6 => tbl.length - seenN w6 it, ⟨[], [], hI5, ⟨#[], 0, c5.obj (by simp) (c4.obj (by simp) hb1), rfl, by simp, by simp, by simp⟩, c5.obj (by simp) hb2, c04.trans0 c5, Nat.le_refl _, fun p => by simp [lookK_nil], fun p v hv => by simp [lookK_nil] at hv, fun p p' v v' hv => by simp [lookK_nil] at hv⟩, ?_⟩
 rintro w6 ⟨done, tc, hIt, hMc, hh2, c6, s6, hkeys, hown, hdis⟩
 rcases iter_next (P := Tryz.prog) hIt hnm encP_inj 0 with ⟨hnx, hall⟩ | ⟨k, v, w7, hkl, hnew, hrun, c7, hI7, hent⟩
 ·refine ⟨_, false, w6, hnx, rfl, fun h => by simp at h, fun _ => ?_⟩
  -- all was copied
  obtain ⟨gc, hgcn⟩ := Classical.axiomOfChoice (r := fun (p : Pl) (gg : List (Nt × Sl)) => (∀ v, lookK p tc = some v → gg.map Prod.fst = ofPl ns p ∧ RowAt w6 38 4 v.1 v.2.1 v.2.2 (gg.flatMap noteC) ∧ v.2.1 = gg.length ∧ ∀ x ∈ gg, FromAt w6 x.2 x.1.2.2 ∧ ∀ i ∈ rowB x.2.1, w.heap.size ≤ i) ∧ (lookK p tc = none → gg = [])) (fun p => by
   cases hv : lookK p tc with
   | none => exact ⟨[], ⟨fun v h => (by cases h), fun _ => rfl⟩⟩
   | some v =>
    obtain ⟨gg, g1, g2, g3, g4⟩ := (hown p v hv).there
    exact ⟨gg, ⟨fun v' h => (by cases h; exact ⟨g1, g2, g3, g4⟩), fun h => (by cases h)⟩⟩)
  have hgc := fun p => (hgcn p).1
  have hgn := fun p => (hgcn p).2
  have hnot : ∀ p, lookK p tc = none → ofPl ns p = [] := fun p hv => by
   have hnd : p ∉ done.map Prod.fst := fun hm => by
    have := (hkeys p).2 hm
    rw [hv] at this; simp at this
   have hnl : lookK p tbl = none := lookK_none.2 fun x hx e => hnd (List.mem_map.2 ⟨x, hall x hx, e⟩)
   have := h9 p
   rw [h6 p hnl] at this
   exact this.symm
  have mem : ∀ i, i ∈ List.range' w.heap.size (w6.heap.size - w.heap.size) ↔ w.heap.size ≤ i ∧ i < w6.heap.size := fun i => by
   rw [List.mem_range'_1]
   have := c6.size
   omega
  refine ⟨b2, List.range' w.heap.size (w6.heap.size - w.heap.size), rfl, ⟨⟨b1, tc, gc, hh2, hMc, (mem _).2 (by omega), (mem _).2 (by omega), fun p v hv => ?_, hgn, hdis, fun p x hx => ?_, fun p => ?_⟩, h.few, fun i hi => ((mem i).1 hi).2, h.last0, h.steps⟩, c6, fun i hi => ((mem i).1 hi).1⟩
  ·obtain ⟨q1, q2, q3, q4⟩ := hgc p v hv
   exact ⟨q2, q3, fun i hi => (mem i).2 ⟨(hown p v hv).new i hi, q2.lt i hi⟩⟩
  ·cases hv : lookK p tc with
   | none => rw [hgn p hv] at hx; simp at hx
   | some v =>
    obtain ⟨q1, q2, q3, q4⟩ := hgc p v hv
    exact ⟨(q4 x hx).1, fun i hi => (mem i).2 ⟨(q4 x hx).2 i hi, (q4 x hx).1.row.lt i hi⟩⟩
  ·cases hv : lookK p tc with
   | none => rw [hgn p hv, show ns.filter (fun n => decide (n.2.1 = p)) = ofPl ns p from rfl, hnot p hv]; rfl
   | some v => exact (hgc p v hv).1
 ·refine ⟨_, true, w7, hrun, rfl, fun _ => ⟨k.1, k.2, v.1, v.2.1, v.2.2, hent, ?_⟩, fun h => by simp at h⟩
  rintro b3 w10 ⟨l3, u3⟩ c10
  have s7 := c7.size
  have s10 := c10.size
  have hb2m : it ≠ b2 := by omega
  have hb1m : it ≠ b1 := by omega
  have c710 : Chg [it] w6 w10 := c7.trans c10.nil (fun i hi _ => hi)
  have c010 : Chg [] w w10 := c6.trans c710 (fun i hi hlt => by simp at hi; omega)
  have hh210 := c710.obj (by simp; exact fun e => hb2m e.symm) hh2
  refine ⟨some b1, by rw [cell_of hh210]; rfl, ?_⟩
  refine (hist_notes (h.chg c010 (by simp)) hM k.1 k.2).mono ?_
  rintro _ w11 ⟨r3, r3n, r3c, rfl, hO, c11⟩
  have s11 := c11.size
  have hh211 := c11.obj (by simp) hh210
  refine ⟨_, _, _, rfl, by rw [cell_of hh211]; rfl, Same.chg c11 (by simpa using u3), ?_⟩
  have c611 : Chg [it] w6 w11 := c710.trans c11.nil (fun i hi _ => hi)
  have hMc11 := hMc.chg c611 (by simp; exact fun e => hb1m e.symm)
  obtain ⟨w12, hup, c12, s12, hM12⟩ := hMc11.update (P := Tryz.prog) (T := 29) uHN keyPlace k ((r3, r3n, r3c) : Sl)
  refine ⟨w12, hup, ?_⟩
  have c612 : Chg [it, b1] w6 w12 := (c611.mono (g := [it, b1]) (fun i hi _ => by simp at hi; simp [hi])).trans (c12.mono (g := [it, b1]) (fun i hi _ => by simp at hi; simp [hi])) (fun i hi _ => hi)
  have hlook : ∀ p, lookK p (upd k ((r3, r3n, r3c) : Sl) tc) = if p = k then some (r3, r3n, r3c) else lookK p tc := fun p => lookK_upd _ _ _ _
  have hI12 : IterAt w12 it m encP encSl tbl (done ++ [(k, v)]) := ((hI7.chg c10 (by simp) (by simp)).chg c11 (by simp) (by simp)).chg c12 (by simp; omega) (by simp; omega)
  have hcount : seenN w12 it = done.length + 1 := by
   have := hI12.count
   simpa using this
  have hc6 := hIt.count
  have hmore := hIt.more hkl hnew
  have hiter : ∀ {e : TypeId} {sz : Nat} {r : Option Addr} {n c : Nat} {xs : List Value}, RowAt w6 e sz r n c xs → RowAt w12 e sz r n c xs := fun hr => hr.chg c612 (fun i hi hm => by
   rcases List.mem_cons.1 hm with rfl | hm
   ·obtain ⟨cur, hcur⟩ := row_obj hr hi
    obtain ⟨es, clk, since, c0, seen, ds, hi6, _⟩ := hIt
    rw [hcur] at hi6; cases hi6
   ·simp at hm; subst hm
    exact row_map hr hMc hi)
  have hown12 : ∀ p v, lookK p tc = some v → OwnNotes w12 w.heap.size v.1 v.2.1 v.2.2 (ofPl ns p) := fun p v hv => by
   obtain ⟨gg, g1, g2, g3, g4⟩ := (hown p v hv).there
   exact ⟨⟨gg, g1, hiter g2, g3, fun x hx => ⟨⟨hiter (g4 x hx).1.row, (g4 x hx).1.len, (g4 x hx).1.wide⟩, (g4 x hx).2⟩⟩, (hown p v hv).new⟩
  have hrlt : ∀ p v, lookK p tc = some v → ∀ i ∈ rowB v.1, i < w6.heap.size := fun p v hv i hi => by
   obtain ⟨gg, g1, g2, g3, g4⟩ := (hown p v hv).there
   exact g2.lt i hi
  refine ⟨⟨done ++ [(k, v)], _, hI12, hM12, c12.obj (by simp; omega) hh211, (c010.trans0 c11).trans c12 (fun i hi hlt => by simp at hi; omega), by omega, fun p => ?_, fun p v' hv' => ?_, fun p p' v' v2 hv' hv2 hne i hi hm => ?_⟩, ?_⟩
  ·rw [hlook, List.map_append, List.mem_append, ← hkeys]
   by_cases hp : p = k <;> simp [hp]
  ·rw [hlook] at hv'
   by_cases hp : p = k
   ·subst hp
    simp at hv'
    subst hv'
    obtain ⟨gg, g1, g2, g3, g4⟩ := hO.there
    have hb1f : ∀ {e : TypeId} {sz : Nat} {r : Option Addr} {n c : Nat} {xs : List Value}, RowAt w11 e sz r n c xs → RowAt w12 e sz r n c xs := fun hr => hr.chg c12 (fun i hi hm => by simp at hm; subst hm; exact row_map hr hMc11 hi)
    exact ⟨⟨gg, g1, hb1f g2, g3, fun x hx => ⟨⟨hb1f (g4 x hx).1.row, (g4 x hx).1.len, (g4 x hx).1.wide⟩, fun i hi => by have := (g4 x hx).2 i hi; omega⟩⟩, fun i hi => by have := hO.new i hi; omega⟩
   ·simp only [hp, if_false] at hv'
    exact hown12 p v' hv'
  ·rw [hlook] at hv' hv2
   by_cases hp : p = k
   ·have hp' : p' ≠ k := fun e => hne (hp.trans e.symm)
    simp only [hp, if_true, Option.some.injEq] at hv'
    simp only [hp', if_false] at hv2
    subst hv'
    have := hO.new i hi
    have := hrlt p' v2 hv2 i hm
    omega
   ·simp only [hp, if_false] at hv'
    by_cases hp' : p' = k
    ·simp only [hp', if_true, Option.some.injEq] at hv2
     subst hv2
     have := hO.new i hm
     have := hrlt p v' hv' i hi
     omega
    ·simp only [hp', if_false] at hv2
     exact hdis p p' v' v2 hv' hv2 hne i hi hm
  ·simp only []; omega
end Go.Proofs.YtfcfkhbkkfpehaaGreatDoor
end
section
namespace Go.Proofs.YtfcfkhbkkfpehaaGreatDoor
open Go Go.X
/- pomander/pomanderlaw14.QueryNil -/
def W_pomanderlaw14_QueryNil (l1 : Option Addr) (l1n : Nat) (l1c : Nat) (p1 : Int) (p2 : Int) (w : World) (R : Bool → World → Prop) : Prop :=
 ∀ (b1 : Nat) (w1 : World), (w.heap.size ≤ b1 ∧ b1 < w1.heap.size) → Chg [] w w1 → (Calls Tryz.prog 5 #[.slice l1 l1n l1c] w1 fun e w2 => ∃ (r2 : Bool), e = .returned (.bool r2) ∧ (Same w1 w2 [b1] ∧ ((r2 = true → Calls Tryz.prog 6 #[] w2 fun e w3 => ∃ (r3 : Bool), e = .returned (.bool r3) ∧ (Same w2 w3 [b1] ∧ (R r3 w3))) ∧ (r2 = false → ∀ b2 : Nat, b2 = World.size w2 → ∀ w4 : World, w4 = World.alloc w2 (.cells #[.map none, .int .i64 0, .int .i64 0] 31) → (Calls Tryz.prog 7 #[.pointer none, .int .i64 0, .slice none 0 0] w4 fun e w5 => ∃ (r4 : Int), e = .returned (.int .i64 r4) ∧ (Same w4 w5 [b1] ∧ (∀ b3 : Nat, b3 = World.size w5 → ∀ w6 : World, w6 = World.alloc w5 (.cells #[.int .i64 p1, .int .i64 p2, .slice none 0 0] 36) → (Calls Tryz.prog 7 #[.pointer (some (⟨b2, 0, none⟩ : Addr)), .int .i64 1, .slice (some (⟨b3, 0, none⟩ : Addr)) 1 1] w6 fun e w7 => ∃ (r5 : Int), e = .returned (.int .i64 r5) ∧ (Same w6 w7 [b1] ∧ (Calls Tryz.prog 8 #[.pointer none, .agg #[.int .i64 p1, .int .i64 p2], .int .i64 5] w7 fun e w8 => ∃ (r6 : Int) (r7 : Int) (r8 : Int) (r9 : Option Addr) (r9n : Nat) (r9c : Nat) (r10 : Bool), e = .returned (.tuple #[.agg #[.int .i64 r6, .int .i64 r7, .int .i64 r8, .slice r9 r9n r9c], .bool r10]) ∧ (Same w7 w8 [b1] ∧ (∀ (b4 : Nat) (w10 : World), (w8.heap.size ≤ b4 ∧ b4 < w10.heap.size) → Chg [] w8 w10 → (Calls Tryz.prog 9 #[.pointer none, .int .u32 1] w10 fun e w11 => ∃ (r11 : Option Addr) (r11n : Nat) (r11c : Nat) (r12 : Int), e = .returned (.tuple #[.slice r11 r11n r11c, .int .i64 r12]) ∧ (Same w10 w11 [b4, b1] ∧ (Calls Tryz.prog 10 #[.slice l1 l1n l1c] w11 fun e w12 => ∃ (r13 : Option Addr) (r14 : Option Addr) (r14n : Nat) (r14c : Nat) (r15 : Bool), e = .returned (.tuple #[.pointer r13, .slice r14 r14n r14c, .bool r15]) ∧ (Same w11 w12 [b4, b1] ∧ (Calls Tryz.prog 11 #[.pointer r13] w12 fun e w13 => ∃ (r16 : Option Addr), e = .returned (.pointer r16) ∧ (Same w12 w13 [b4, b1] ∧ (∀ b5 : Nat, b5 = World.size w13 → ∀ w14 : World, w14 = World.alloc w13 (.cells #[.int .i64 2, .int .i64 0, .slice none 0 0] 36) → (Calls Tryz.prog 7 #[.pointer r16, .int .i64 9223372036854775807, .slice (some (⟨b5, 0, none⟩ : Addr)) 1 1] w14 fun e w15 => ∃ (r17 : Int), e = .returned (.int .i64 r17) ∧ (Same w14 w15 [b4, b1] ∧ (∃ J1 : Bool → World → Prop, (∀ (b6 : Bool) (w16 : World), J1 b6 w16 → ∃ J2 : Bool → World → Prop, (∀ (b7 : Bool) (w18 : World), J2 b7 w18 → ∃ J3 : Bool → World → Prop, (∀ (b8 : Bool) (w20 : World), J3 b8 w20 → ∃ J4 : Bool → World → Prop, (∀ (b9 : Bool) (w22 : World), J4 b9 w22 → ∃ J5 : Bool → World → Prop, (∀ (b10 : Bool) (w24 : World), J5 b10 w24 → ∃ J6 : Bool → World → Prop, (∀ (b11 : Bool) (w26 : World), J6 b11 w26 → ∃ J7 : Bool → World → Prop, (∀ (b12 : Bool) (w28 : World), J7 b12 w28 → ∃ J8 : Bool → World → Prop, (∀ (b13 : Bool) (w31 : World), J8 b13 w31 → R b13 w31) ∧ ((b12 = true → Calls Tryz.prog 6 #[] w28 fun e w32 => ∃ (r26 : Bool), e = .returned (.bool r26) ∧ (J8 r26 w32)) ∧ (b12 = false → J8 false w28))) ∧ (((b11 && r17 == 0) = true → Calls Tryz.prog 15 #[.pointer r16] w26 fun e w29 => ∃ (r24 : Int), e = .returned (.int .i64 r24) ∧ (Calls Tryz.prog 15 #[.pointer r13] w29 fun e w30 => ∃ (r25 : Int), e = .returned (.int .i64 r25) ∧ (J7 (r24 == (IntKind.wrap .i64 (r25 + 1))) w30))) ∧ ((b11 && r17 == 0) = false → J7 false w26))) ∧ (((b10 && r15) = true → Calls Tryz.prog 15 #[.pointer r13] w24 fun e w27 => ∃ (r23 : Int), e = .returned (.int .i64 r23) ∧ (J6 (r23 == (r14n : Int)) w27)) ∧ ((b10 && r15) = false → J6 false w24))) ∧ ((b9 = true → Calls Tryz.prog 11 #[.pointer (some (⟨b2, 0, none⟩ : Addr))] w22 fun e w25 => ∃ (r22 : Option Addr), e = .returned (.pointer r22) ∧ (J5 (Option.isNone r22) w25)) ∧ (b9 = false → J5 false w22))) ∧ ((b8 = true → Calls Tryz.prog 15 #[.pointer none] w20 fun e w23 => ∃ (r21 : Int), e = .returned (.int .i64 r21) ∧ (J4 (r21 == 0) w23)) ∧ (b8 = false → J4 false w20))) ∧ ((b7 = true → Calls Tryz.prog 14 #[.pointer (some (⟨b2, 0, none⟩ : Addr)), .agg #[.int .i64 p1, .int .i64 p2]] w18 fun e w21 => ∃ (r20 : Option Addr) (r20n : Nat) (r20c : Nat), e = .returned (.slice r20 r20n r20c) ∧ (J3 ((r20n : Int) == 0) w21)) ∧ (b7 = false → J3 false w18))) ∧ (((b6 && r12 == 1) = true → Calls Tryz.prog 13 #[.pointer none, .agg #[.int .i64 p1, .int .i64 p2], .int .i64 5] w16 fun e w19 => ∃ (r19 : Option Addr) (r19n : Nat) (r19c : Nat), e = .returned (.slice r19 r19n r19c) ∧ (Same w16 w19 [b1] ∧ (J2 ((r19n : Int) == 0) w19))) ∧ ((b6 && r12 == 1) = false → J2 false w16))) ∧ ((((r4 == 1 && r5 == 1) && !r10) = true → Calls Tryz.prog 12 #[.agg #[.int .i64 r6, .int .i64 r7, .int .i64 r8, .slice r9 r9n r9c], .agg #[.int .i64 0, .int .i64 0, .int .i64 0, .slice none 0 0]] w15 fun e w17 => ∃ (r18 : Bool), e = .returned (.bool r18) ∧ (Same w15 w17 [b1] ∧ (J1 r18 w17))) ∧ (((r4 == 1 && r5 == 1) && !r10) = false → J1 false w15))))))))))))))))))))))))
set_option maxRecDepth 100000 in
theorem go_pomanderlaw14_QueryNil (l1 : Option Addr) (l1n : Nat) (l1c : Nat) (p1 : Int) (p2 : Int) (w : World) (R : Bool → World → Prop) (h : W_pomanderlaw14_QueryNil l1 l1n l1c p1 p2 w R) : Calls Tryz.prog 3 #[.slice l1 l1n l1c, .agg #[.int .i64 p1, .int .i64 p2]] w (fun e w' => ∃ (r1 : Bool), e = .returned (.bool r1) ∧ R r1 w') := by
 unfold W_pomanderlaw14_QueryNil at h
 refine enter (N := 121) Tryz.func3 rfl rfl ?_
 refine CW.seq ?_
 refine CW.region fun L hL => ?_
 obtain ⟨b1, hb_b1⟩ : ∃ b1, b1 = World.size w := ⟨_, rfl⟩
 obtain ⟨w1, hw_w1⟩ : ∃ w1, w1 = World.alloc w (.cells #[.int .i64 p1, .int .i64 p2] 25) := ⟨_, rfl⟩
 refine LW.val hL rfl (Wants.free rfl) rfl (boxE hb_b1 hw_w1 (Vl.box (v := .agg #[.int .i64 p1, .int .i64 p2]) rfl)) ?_
 have hB := Boxes.alloc (cs := [.int .i64 p1, .int .i64 p2]) (T := 25) (Boxes.nil w) hb_b1 hw_w1
 have hlo_b1 := sil_lo (Chg.refl [] w) hb_b1
 have hc_w1 := sil_alloc (Chg.refl [] w) hw_w1
 refine LW.rd hL rfl (Wants.free rfl) rfl (Rd.assign (v := .bool false) rfl) ?_
 refine LW.nil hL rfl ?_
 refine NW.then ?_
 refine CW.seq ?_
 refine CW.seq ?_
 refine CW.region fun L hL => ?_
 refine LW.rd hL rfl (Wants.free rfl) rfl (Rd.move (v := .slice l1 l1n l1c) rfl) ?_
 replace h := h b1 w1 ⟨hlo_b1, lt_of_heap (hB.at (i := 0) rfl)⟩ hc_w1
 refine LW.call hL rfl (Wants.free rfl) rfl (Cl.fn (f := 5) rfl Tryz.func5 (by kernel_rfl) rfl) h (fun e w2 h_ => ?_)
 clear h
 obtain ⟨r2, rfl, h⟩ := h_
 obtain ⟨hsm1, h⟩ := h
 replace hB := Boxes.sameS hB hsm1 (by simp)
 refine ⟨_, rfl, ?_⟩
 refine LW.nil hL rfl ?_
 refine NW.then ?_
 refine CW.cond rfl (fun hb1 => ?_) (fun hb1 => ?_)
 ·replace h := h.1 hb1
  refine CW.seq ?_
  refine CW.region fun L hL => ?_
  refine LW.call hL rfl (Wants.free rfl) rfl (Cl.fn (f := 6) rfl Tryz.func6 (by kernel_rfl) rfl) h (fun e w3 h_ => ?_)
  clear h
  obtain ⟨r3, rfl, h⟩ := h_
  obtain ⟨hsm2, h⟩ := h
  replace hB := Boxes.sameS hB hsm2 (by simp)
  refine ⟨_, rfl, ?_⟩
  refine LW.rd hL rfl (Wants.free rfl) rfl (Rd.assign (v := .bool r3) rfl) ?_
  refine LW.nil hL rfl ?_
  refine NW.then ?_
  refine CW.ret ?_
  refine RW.then ?_
  exact res1 rfl rfl ⟨r3, rfl, h⟩
 ·replace h := h.2 hb1
  refine CW.skip ?_
  refine NW.then ?_
  refine CW.seq ?_
  refine CW.region fun L hL => ?_
  refine LW.rd hL rfl (Wants.free rfl) rfl (Rd.assign (v := .pointer none) rfl) ?_
  refine LW.nil hL rfl ?_
  refine NW.then ?_
  refine CW.seq ?_
  refine CW.region fun L hL => ?_
  refine LW.rd hL rfl (Wants.free rfl) rfl (Rd.build (v := .agg #[.map none, .int .i64 0, .int .i64 0]) rfl (fun _ => by kernel_rfl)) ?_
  obtain ⟨b2, hb_b2⟩ : ∃ b2, b2 = World.size w2 := ⟨_, rfl⟩
  obtain ⟨w4, hw_w4⟩ : ∃ w4, w4 = World.alloc w2 (.cells #[.map none, .int .i64 0, .int .i64 0] 31) := ⟨_, rfl⟩
  replace h := h b2 hb_b2 w4 hw_w4
  refine LW.val hL rfl (Wants.free rfl) rfl (boxE hb_b2 hw_w4 (Vl.box (v := .agg #[.map none, .int .i64 0, .int .i64 0]) rfl)) ?_
  replace hB := hB.grow hw_w4
  refine LW.rd hL rfl (Wants.free rfl) rfl (Rd.assign (v := .pointer (some (⟨b2, 0, none⟩ : Addr))) rfl) ?_
  refine LW.nil hL rfl ?_
  refine NW.then ?_
  refine CW.seq ?_
  refine CW.region fun L hL => ?_
  refine LW.rd hL rfl (Wants.free rfl) rfl (Rd.move (v := .pointer none) rfl) ?_
  refine LW.call hL rfl (Wants.free rfl) rfl (Cl.fn (f := 7) rfl Tryz.func7 (by kernel_rfl) rfl) h (fun e w5 h_ => ?_)
  clear h
  obtain ⟨r4, rfl, h⟩ := h_
  obtain ⟨hsm3, h⟩ := h
  replace hB := Boxes.sameS hB hsm3 (by simp)
  refine ⟨_, rfl, ?_⟩
  refine LW.rd hL rfl (Wants.free rfl) rfl (Rd.assign (v := .int .i64 r4) rfl) ?_
  refine LW.nil hL rfl ?_
  refine NW.then ?_
  refine CW.seq ?_
  refine CW.region fun L hL => ?_
  refine LW.rd hL rfl (Wants.free rfl) rfl (Rd.move (v := .pointer (some (⟨b2, 0, none⟩ : Addr))) rfl) ?_
  refine LW.rd hL rfl (Wants.free rfl) rfl (Rd.ldN (cs := [.int .i64 p1, .int .i64 p2]) rfl (by kernel_rfl) (by kernel_rfl) (cellsS (box_cells (hB.at (i := 0) rfl) rfl))) ?_
  refine LW.rd hL rfl (Wants.free rfl) rfl (Rd.build (v := .agg #[.int .i64 p1, .int .i64 p2, .slice none 0 0]) rfl (fun _ => by kernel_rfl)) ?_
  obtain ⟨b3, hb_b3⟩ : ∃ b3, b3 = World.size w5 := ⟨_, rfl⟩
  obtain ⟨w6, hw_w6⟩ : ∃ w6, w6 = World.alloc w5 (.cells #[.int .i64 p1, .int .i64 p2, .slice none 0 0] 36) := ⟨_, rfl⟩
  replace h := h b3 hb_b3 w6 hw_w6
  refine LW.val hL rfl (Wants.free rfl) rfl (sliceE (n := 1) hb_b3 hw_w6 (fun w => Vl.buildSlice (vs := [(0, .agg #[.int .i64 p1, .int .i64 p2, .slice none 0 0])]) rfl (by kernel_rfl))) ?_
  replace hB := hB.grow hw_w6
  refine LW.call hL rfl (Wants.free rfl) rfl (Cl.fn (f := 7) rfl Tryz.func7 (by kernel_rfl) rfl) h (fun e w7 h_ => ?_)
  clear h
  obtain ⟨r5, rfl, h⟩ := h_
  obtain ⟨hsm4, h⟩ := h
  replace hB := Boxes.sameS hB hsm4 (by simp)
  refine ⟨_, rfl, ?_⟩
  refine LW.rd hL rfl (Wants.free rfl) rfl (Rd.assign (v := .int .i64 r5) rfl) ?_
  refine LW.nil hL rfl ?_
  refine NW.then ?_
  refine CW.seq ?_
  refine CW.region fun L hL => ?_
  refine LW.rd hL rfl (Wants.free rfl) rfl (Rd.move (v := .pointer none) rfl) ?_
  refine LW.rd hL rfl (Wants.free rfl) rfl (Rd.ldN (cs := [.int .i64 p1, .int .i64 p2]) rfl (by kernel_rfl) (by kernel_rfl) (cellsS (box_cells (hB.at (i := 0) rfl) rfl))) ?_
  refine LW.call hL rfl (Wants.free rfl) rfl (Cl.fn (f := 8) rfl Tryz.func8 (by kernel_rfl) rfl) h (fun e w8 h_ => ?_)
  clear h
  obtain ⟨r6, r7, r8, r9, r9n, r9c, r10, rfl, h⟩ := h_
  obtain ⟨hsm5, h⟩ := h
  replace hB := Boxes.sameS hB hsm5 (by simp)
  refine ⟨_, rfl, ?_⟩
  refine LW.rd hL rfl (Wants.free rfl) rfl (Rd.move (v := .tuple #[.agg #[.int .i64 r6, .int .i64 r7, .int .i64 r8, .slice r9 r9n r9c], .bool r10]) rfl) ?_
  refine LW.rd hL rfl (Wants.free rfl) rfl (Rd.extract (v := .agg #[.int .i64 r6, .int .i64 r7, .int .i64 r8, .slice r9 r9n r9c]) rfl rfl) ?_
  refine LW.rd hL rfl (Wants.free rfl) rfl (Rd.extract (v := .bool r10) rfl rfl) ?_
  obtain ⟨b4, hb_b4⟩ : ∃ b4, b4 = World.size w8 := ⟨_, rfl⟩
  obtain ⟨w9, hw_w9⟩ : ∃ w9, w9 = World.alloc w8 (.cells #[.int .i64 0, .int .i64 0, .int .i64 0, .slice none 0 0] 38) := ⟨_, rfl⟩
  refine LW.val hL rfl (Wants.free rfl) rfl (boxE hb_b4 hw_w9 (Vl.alloc (z := .agg #[.int .i64 0, .int .i64 0, .int .i64 0, .slice none 0 0]) (by kernel_rfl))) ?_
  replace hB := Boxes.alloc (cs := [.int .i64 0, .int .i64 0, .int .i64 0, .slice none 0 0]) (T := 38) hB hb_b4 hw_w9
  have hlo_b4 := sil_lo (Chg.refl [] w8) hb_b4
  have hc_w9 := sil_alloc (Chg.refl [] w8) hw_w9
  obtain ⟨w10, hw_w10⟩ : ∃ x, x = setCells w9 (⟨b4, 0, none⟩ : Addr) 0 [.int .i64 r6, .int .i64 r7, .int .i64 r8, .slice r9 r9n r9c] := ⟨_, rfl⟩
  refine LW.eff hL rfl (Wants.free rfl) rfl (stNE hw_w10 (Ef.stN (cs := [.int .i64 r6, .int .i64 r7, .int .i64 r8, .slice r9 r9n r9c]) rfl rfl (by kernel_rfl) (List.forall_mem_cons.2 ⟨rfl, (List.forall_mem_cons.2 ⟨rfl, (List.forall_mem_cons.2 ⟨rfl, (List.forall_mem_cons.2 ⟨rfl, (List.forall_mem_nil _)⟩)⟩)⟩)⟩) (has_of (hB.at (i := 0) rfl) (by simp)) (free_of' (hB.at (i := 0) rfl)))) ?_
  replace hB : Boxes w10 [(b4, [.int .i64 r6, .int .i64 r7, .int .i64 r8, .slice r9 r9n r9c], 38), (b1, [.int .i64 p1, .int .i64 p2], 25)] := Boxes.store (vs := [.int .i64 r6, .int .i64 r7, .int .i64 r8, .slice r9 r9n r9c]) (i := 0) (o := 0) hB rfl rfl rfl rfl hw_w10
  have hc_w10 := sil_new hc_w9 (sil_cN hw_w10) hlo_b4
  refine LW.rd hL rfl (Wants.free rfl) rfl (Rd.assign (v := .bool r10) rfl) ?_
  refine LW.nil hL rfl ?_
  refine NW.then ?_
  refine CW.seq ?_
  refine CW.region fun L hL => ?_
  replace h := h b4 w10 ⟨hlo_b4, lt_of_heap (hB.at (i := 0) rfl)⟩ hc_w10
  refine LW.call hL rfl (Wants.free rfl) rfl (Cl.fn (f := 9) rfl Tryz.func9 (by kernel_rfl) rfl) h (fun e w11 h_ => ?_)
  clear h
  obtain ⟨r11, r11n, r11c, r12, rfl, h⟩ := h_
  obtain ⟨hsm6, h⟩ := h
  replace hB := Boxes.sameS hB hsm6 (by simp)
  refine ⟨_, rfl, ?_⟩
  refine LW.rd hL rfl (Wants.free rfl) rfl (Rd.move (v := .tuple #[.slice r11 r11n r11c, .int .i64 r12]) rfl) ?_
  refine LW.rd hL rfl (Wants.free rfl) rfl (Rd.extract (v := .slice r11 r11n r11c) rfl rfl) ?_
  refine LW.rd hL rfl (Wants.free rfl) rfl (Rd.extract (v := .int .i64 r12) rfl rfl) ?_
  refine LW.rd hL rfl (Wants.free rfl) rfl (Rd.assign (v := .slice r11 r11n r11c) rfl) ?_
  refine LW.rd hL rfl (Wants.free rfl) rfl (Rd.assign (v := .int .i64 r12) rfl) ?_
  refine LW.nil hL rfl ?_
  refine NW.then ?_
  refine CW.seq ?_
  refine CW.region fun L hL => ?_
  refine LW.rd hL rfl (Wants.free rfl) rfl (Rd.move (v := .slice l1 l1n l1c) rfl) ?_
  refine LW.call hL rfl (Wants.free rfl) rfl (Cl.fn (f := 10) rfl Tryz.func10 (by kernel_rfl) rfl) h (fun e w12 h_ => ?_)
  clear h
  obtain ⟨r13, r14, r14n, r14c, r15, rfl, h⟩ := h_
  obtain ⟨hsm7, h⟩ := h
  replace hB := Boxes.sameS hB hsm7 (by simp)
  refine ⟨_, rfl, ?_⟩
  refine LW.rd hL rfl (Wants.free rfl) rfl (Rd.move (v := .tuple #[.pointer r13, .slice r14 r14n r14c, .bool r15]) rfl) ?_
  refine LW.rd hL rfl (Wants.free rfl) rfl (Rd.extract (v := .pointer r13) rfl rfl) ?_
  refine LW.rd hL rfl (Wants.free rfl) rfl (Rd.extract (v := .slice r14 r14n r14c) rfl rfl) ?_
  refine LW.rd hL rfl (Wants.free rfl) rfl (Rd.extract (v := .bool r15) rfl rfl) ?_
  refine LW.rd hL rfl (Wants.free rfl) rfl (Rd.assign (v := .pointer r13) rfl) ?_
  refine LW.rd hL rfl (Wants.free rfl) rfl (Rd.assign (v := .slice r14 r14n r14c) rfl) ?_
  refine LW.rd hL rfl (Wants.free rfl) rfl (Rd.assign (v := .bool r15) rfl) ?_
  refine LW.nil hL rfl ?_
  refine NW.then ?_
  refine CW.seq ?_
  refine CW.region fun L hL => ?_
  refine LW.rd hL rfl (Wants.free rfl) rfl (Rd.move (v := .pointer r13) rfl) ?_
  refine LW.call hL rfl (Wants.free rfl) rfl (Cl.fn (f := 11) rfl Tryz.func11 (by kernel_rfl) rfl) h (fun e w13 h_ => ?_)
  clear h
  obtain ⟨r16, rfl, h⟩ := h_
  obtain ⟨hsm8, h⟩ := h
  replace hB := Boxes.sameS hB hsm8 (by simp)
  refine ⟨_, rfl, ?_⟩
  refine LW.rd hL rfl (Wants.free rfl) rfl (Rd.assign (v := .pointer r16) rfl) ?_
  refine LW.nil hL rfl ?_
  refine NW.then ?_
  refine CW.seq ?_
  refine CW.region fun L hL => ?_
  refine LW.rd hL rfl (Wants.free rfl) rfl (Rd.move (v := .pointer r16) rfl) ?_
  refine LW.rd hL rfl (Wants.free rfl) rfl (Rd.build (v := .agg #[.int .i64 2, .int .i64 0]) rfl (fun _ => by kernel_rfl)) ?_
  refine LW.rd hL rfl (Wants.free rfl) rfl (Rd.build (v := .agg #[.int .i64 2, .int .i64 0, .slice none 0 0]) rfl (fun _ => by kernel_rfl)) ?_
  obtain ⟨b5, hb_b5⟩ : ∃ b5, b5 = World.size w13 := ⟨_, rfl⟩
  obtain ⟨w14, hw_w14⟩ : ∃ w14, w14 = World.alloc w13 (.cells #[.int .i64 2, .int .i64 0, .slice none 0 0] 36) := ⟨_, rfl⟩
  replace h := h b5 hb_b5 w14 hw_w14
  refine LW.val hL rfl (Wants.free rfl) rfl (sliceE (n := 1) hb_b5 hw_w14 (fun w => Vl.buildSlice (vs := [(0, .agg #[.int .i64 2, .int .i64 0, .slice none 0 0])]) rfl (by kernel_rfl))) ?_
  replace hB := hB.grow hw_w14
  refine LW.call hL rfl (Wants.free rfl) rfl (Cl.fn (f := 7) rfl Tryz.func7 (by kernel_rfl) rfl) h (fun e w15 h_ => ?_)
  clear h
  obtain ⟨r17, rfl, h⟩ := h_
  obtain ⟨hsm9, h⟩ := h
  replace hB := Boxes.sameS hB hsm9 (by simp)
  refine ⟨_, rfl, ?_⟩
  refine LW.rd hL rfl (Wants.free rfl) rfl (Rd.assign (v := .int .i64 r17) rfl) ?_
  refine LW.nil hL rfl ?_
  refine NW.then ?_
  refine CW.seq ?_
  refine CW.region fun L hL => ?_
  refine LW.rd hL rfl (Wants.free rfl) rfl (Rd.move (v := .int .i64 r4) rfl) ?_
  refine LW.rd hL rfl (Wants.free rfl) rfl (Rd.bin (v := .bool (r4 == 1)) rfl rfl (fun w => by kernel_rfl)) ?_
  refine LW.rd hL rfl (Wants.free rfl) rfl (Rd.move (v := .bool (r4 == 1)) rfl) ?_
  suffices K1 : L 6 [(3, .pointer (some (⟨b1, 0, none⟩ : Addr))), (4, .bool false), (5, .pointer none), (6, .pointer (some (⟨b2, 0, none⟩ : Addr))), (9, .pointer (some (⟨b4, 0, none⟩ : Addr))), (10, .bool r10), (12, .int .i64 r12), (13, .pointer r13), (14, .slice r14 r14n r14c), (15, .bool r15), (16, .pointer r16), (17, .int .i64 r17), (58, .bool (r4 == 1 && r5 == 1))] w15 by
   rcases Bool.eq_false_or_eq_true (r4 == 1) with hb3 | hb3
   ·skip
    refine LW.rd hL rfl (Wants.on rfl rfl rfl rfl rfl hb3) rfl (Rd.move (v := .int .i64 r5) rfl) ?_
    refine LW.rd hL rfl (Wants.on rfl rfl rfl rfl rfl hb3) rfl (Rd.bin (v := .bool (r5 == 1)) rfl rfl (fun w => by kernel_rfl)) ?_
    refine LW.rd hL rfl (Wants.free rfl) rfl (Rd.pickT rfl hb3 rfl) ?_
    exact LW.sub hL (by exact ⟨rfl, rfl, rfl, rfl, rfl, rfl, rfl, rfl, rfl, rfl, rfl, rfl, (by rw [hb3]; rfl), trivial⟩) K1
   ·skip
    refine LW.skip hL rfl (Skips.on rfl rfl rfl rfl rfl hb3) rfl ?_
    refine LW.skip hL rfl (Skips.on rfl rfl rfl rfl rfl hb3) rfl ?_
    refine LW.rd hL rfl (Wants.free rfl) rfl (Rd.pickF rfl hb3 rfl) ?_
    exact LW.sub hL (by exact ⟨rfl, rfl, rfl, rfl, rfl, rfl, rfl, rfl, rfl, rfl, rfl, rfl, (by rw [hb3]; rfl), trivial⟩) K1
  refine LW.rd hL rfl (Wants.free rfl) rfl (Rd.move (v := .bool (r4 == 1 && r5 == 1)) rfl) ?_
  suffices K2 : L 10 [(3, .pointer (some (⟨b1, 0, none⟩ : Addr))), (4, .bool false), (5, .pointer none), (6, .pointer (some (⟨b2, 0, none⟩ : Addr))), (9, .pointer (some (⟨b4, 0, none⟩ : Addr))), (12, .int .i64 r12), (13, .pointer r13), (14, .slice r14 r14n r14c), (15, .bool r15), (16, .pointer r16), (17, .int .i64 r17), (62, .bool ((r4 == 1 && r5 == 1) && !r10))] w15 by
   rcases Bool.eq_false_or_eq_true (r4 == 1 && r5 == 1) with hb5 | hb5
   ·skip
    refine LW.rd hL rfl (Wants.on rfl rfl rfl rfl rfl hb5) rfl (Rd.move (v := .bool r10) rfl) ?_
    refine LW.rd hL rfl (Wants.on rfl rfl rfl rfl rfl hb5) rfl (Rd.un (v := .bool (!r10)) rfl (fun _ => by kernel_rfl)) ?_
    refine LW.rd hL rfl (Wants.free rfl) rfl (Rd.pickT rfl hb5 rfl) ?_
    exact LW.sub hL (by exact ⟨rfl, rfl, rfl, rfl, rfl, rfl, rfl, rfl, rfl, rfl, rfl, (by rw [hb5]; rfl), trivial⟩) K2
   ·skip
    refine LW.skip hL rfl (Skips.on rfl rfl rfl rfl rfl hb5) rfl ?_
    refine LW.skip hL rfl (Skips.on rfl rfl rfl rfl rfl hb5) rfl ?_
    refine LW.rd hL rfl (Wants.free rfl) rfl (Rd.pickF rfl hb5 rfl) ?_
    exact LW.sub hL (by exact ⟨rfl, rfl, rfl, rfl, rfl, rfl, rfl, rfl, rfl, rfl, rfl, (by rw [hb5]; rfl), trivial⟩) K2
  refine LW.rd hL rfl (Wants.free rfl) rfl (Rd.move (v := .bool ((r4 == 1 && r5 == 1) && !r10)) rfl) ?_
  obtain ⟨J1, hJ1, h1_J1, h0_J1⟩ := h
  suffices K3 : ∀ (b6 : Bool) (w16 : World), Boxes w16 [(b1, [.int .i64 p1, .int .i64 p2], 25)] → J1 b6 w16 → L 15 [(3, .pointer (some (⟨b1, 0, none⟩ : Addr))), (4, .bool false), (5, .pointer none), (6, .pointer (some (⟨b2, 0, none⟩ : Addr))), (12, .int .i64 r12), (13, .pointer r13), (14, .slice r14 r14n r14c), (15, .bool r15), (16, .pointer r16), (17, .int .i64 r17), (67, .bool b6)] w16 by
   rcases Bool.eq_false_or_eq_true ((r4 == 1 && r5 == 1) && !r10) with hb6 | hb6
   ·have h := h1_J1 hb6
    refine LW.rd hL rfl (Wants.on rfl rfl rfl rfl rfl hb6) rfl (Rd.ldN (cs := [.int .i64 r6, .int .i64 r7, .int .i64 r8, .slice r9 r9n r9c]) rfl (by kernel_rfl) (by kernel_rfl) (cellsS (box_cells (hB.at (i := 0) rfl) rfl))) ?_
    refine LW.rd hL rfl (Wants.on rfl rfl rfl rfl rfl hb6) rfl (Rd.build (v := .agg #[.int .i64 0, .int .i64 0, .int .i64 0, .slice none 0 0]) rfl (fun _ => by kernel_rfl)) ?_
    refine LW.call hL rfl (Wants.on rfl rfl rfl rfl rfl hb6) rfl (Cl.fn (f := 12) rfl Tryz.func12 (by kernel_rfl) rfl) h (fun e w17 h_ => ?_)
    clear h
    obtain ⟨r18, rfl, h⟩ := h_
    obtain ⟨hsm10, h⟩ := h
    replace hB := Boxes.sameS (hB.sel [1] (by decide) rfl) hsm10 (by simp)
    refine ⟨_, rfl, ?_⟩
    refine LW.rd hL rfl (Wants.free rfl) rfl (Rd.pickT rfl hb6 rfl) ?_
    exact LW.sub hL (by exact ⟨rfl, rfl, rfl, rfl, rfl, rfl, rfl, rfl, rfl, rfl, rfl, trivial⟩) (K3 r18 w17 (by exact hB) h)
   ·have h := h0_J1 hb6
    refine LW.skip hL rfl (Skips.on rfl rfl rfl rfl rfl hb6) rfl ?_
    refine LW.skip hL rfl (Skips.on rfl rfl rfl rfl rfl hb6) rfl ?_
    refine LW.skip hL rfl (Skips.on rfl rfl rfl rfl rfl hb6) rfl ?_
    refine LW.rd hL rfl (Wants.free rfl) rfl (Rd.pickF rfl hb6 rfl) ?_
    exact LW.sub hL (by exact ⟨rfl, rfl, rfl, rfl, rfl, rfl, rfl, rfl, rfl, rfl, rfl, trivial⟩) (K3 false w15 (by exact (hB.sel [1] (by decide) rfl)) h)
  intro b6 w16 hB h_
  have h := hJ1 b6 w16 h_; clear h_
  refine LW.rd hL rfl (Wants.free rfl) rfl (Rd.move (v := .bool b6) rfl) ?_
  suffices K4 : L 19 [(3, .pointer (some (⟨b1, 0, none⟩ : Addr))), (4, .bool false), (5, .pointer none), (6, .pointer (some (⟨b2, 0, none⟩ : Addr))), (13, .pointer r13), (14, .slice r14 r14n r14c), (15, .bool r15), (16, .pointer r16), (17, .int .i64 r17), (71, .bool (b6 && r12 == 1))] w16 by
   rcases Bool.eq_false_or_eq_true b6 with hb8 | hb8
   ·skip
    refine LW.rd hL rfl (Wants.on rfl rfl rfl rfl rfl hb8) rfl (Rd.move (v := .int .i64 r12) rfl) ?_
    refine LW.rd hL rfl (Wants.on rfl rfl rfl rfl rfl hb8) rfl (Rd.bin (v := .bool (r12 == 1)) rfl rfl (fun w => by kernel_rfl)) ?_
    refine LW.rd hL rfl (Wants.free rfl) rfl (Rd.pickT rfl hb8 rfl) ?_
    exact LW.sub hL (by exact ⟨rfl, rfl, rfl, rfl, rfl, rfl, rfl, rfl, rfl, (by rw [hb8]; rfl), trivial⟩) K4
   ·skip
    refine LW.skip hL rfl (Skips.on rfl rfl rfl rfl rfl hb8) rfl ?_
    refine LW.skip hL rfl (Skips.on rfl rfl rfl rfl rfl hb8) rfl ?_
    refine LW.rd hL rfl (Wants.free rfl) rfl (Rd.pickF rfl hb8 rfl) ?_
    exact LW.sub hL (by exact ⟨rfl, rfl, rfl, rfl, rfl, rfl, rfl, rfl, rfl, (by rw [hb8]; rfl), trivial⟩) K4
  refine LW.rd hL rfl (Wants.free rfl) rfl (Rd.move (v := .bool (b6 && r12 == 1)) rfl) ?_
  obtain ⟨J2, hJ2, h1_J2, h0_J2⟩ := h
  suffices K5 : ∀ (b7 : Bool) (w18 : World), Boxes w18 [(b1, [.int .i64 p1, .int .i64 p2], 25)] → J2 b7 w18 → L 26 [(3, .pointer (some (⟨b1, 0, none⟩ : Addr))), (4, .bool false), (5, .pointer none), (6, .pointer (some (⟨b2, 0, none⟩ : Addr))), (13, .pointer r13), (14, .slice r14 r14n r14c), (15, .bool r15), (16, .pointer r16), (17, .int .i64 r17), (78, .bool b7)] w18 by
   rcases Bool.eq_false_or_eq_true (b6 && r12 == 1) with hb9 | hb9
   ·have h := h1_J2 hb9
    refine LW.rd hL rfl (Wants.on rfl rfl rfl rfl rfl hb9) rfl (Rd.move (v := .pointer none) rfl) ?_
    refine LW.rd hL rfl (Wants.on rfl rfl rfl rfl rfl hb9) rfl (Rd.ldN (cs := [.int .i64 p1, .int .i64 p2]) rfl (by kernel_rfl) (by kernel_rfl) (cellsS (box_cells (hB.at (i := 0) rfl) rfl))) ?_
    refine LW.call hL rfl (Wants.on rfl rfl rfl rfl rfl hb9) rfl (Cl.fn (f := 13) rfl Tryz.func13 (by kernel_rfl) rfl) h (fun e w19 h_ => ?_)
    clear h
    obtain ⟨r19, r19n, r19c, rfl, h⟩ := h_
    obtain ⟨hsm11, h⟩ := h
    replace hB := Boxes.sameS hB hsm11 (by simp)
    refine ⟨_, rfl, ?_⟩
    refine LW.rd hL rfl (Wants.on rfl rfl rfl rfl rfl hb9) rfl (Rd.builtin (v := .int .i64 (r19n : Int)) rfl (fun _ _ => by kernel_rfl)) ?_
    refine LW.rd hL rfl (Wants.on rfl rfl rfl rfl rfl hb9) rfl (Rd.bin (v := .bool ((r19n : Int) == 0)) rfl rfl (fun w => by kernel_rfl)) ?_
    refine LW.rd hL rfl (Wants.free rfl) rfl (Rd.pickT rfl hb9 rfl) ?_
    exact LW.sub hL (by exact ⟨rfl, rfl, rfl, rfl, rfl, rfl, rfl, rfl, rfl, rfl, trivial⟩) (K5 ((r19n : Int) == 0) w19 (by exact hB) h)
   ·have h := h0_J2 hb9
    refine LW.skip hL rfl (Skips.on rfl rfl rfl rfl rfl hb9) rfl ?_
    refine LW.skip hL rfl (Skips.on rfl rfl rfl rfl rfl hb9) rfl ?_
    refine LW.skip hL rfl (Skips.on rfl rfl rfl rfl rfl hb9) rfl ?_
    refine LW.skip hL rfl (Skips.on rfl rfl rfl rfl rfl hb9) rfl ?_
    refine LW.skip hL rfl (Skips.on rfl rfl rfl rfl rfl hb9) rfl ?_
    refine LW.rd hL rfl (Wants.free rfl) rfl (Rd.pickF rfl hb9 rfl) ?_
    exact LW.sub hL (by exact ⟨rfl, rfl, rfl, rfl, rfl, rfl, rfl, rfl, rfl, rfl, trivial⟩) (K5 false w16 (by exact hB) h)
  intro b7 w18 hB h_
  have h := hJ2 b7 w18 h_; clear h_
  refine LW.rd hL rfl (Wants.free rfl) rfl (Rd.move (v := .bool b7) rfl) ?_
  obtain ⟨J3, hJ3, h1_J3, h0_J3⟩ := h
  suffices K6 : ∀ (b8 : Bool) (w20 : World), J3 b8 w20 → L 33 [(4, .bool false), (5, .pointer none), (6, .pointer (some (⟨b2, 0, none⟩ : Addr))), (13, .pointer r13), (14, .slice r14 r14n r14c), (15, .bool r15), (16, .pointer r16), (17, .int .i64 r17), (85, .bool b8)] w20 by
   rcases Bool.eq_false_or_eq_true b7 with hb10 | hb10
   ·have h := h1_J3 hb10
    refine LW.rd hL rfl (Wants.on rfl rfl rfl rfl rfl hb10) rfl (Rd.move (v := .pointer (some (⟨b2, 0, none⟩ : Addr))) rfl) ?_
    refine LW.rd hL rfl (Wants.on rfl rfl rfl rfl rfl hb10) rfl (Rd.ldN (cs := [.int .i64 p1, .int .i64 p2]) rfl (by kernel_rfl) (by kernel_rfl) (cellsS (box_cells (hB.at (i := 0) rfl) rfl))) ?_
    refine LW.call hL rfl (Wants.on rfl rfl rfl rfl rfl hb10) rfl (Cl.fn (f := 14) rfl Tryz.func14 (by kernel_rfl) rfl) h (fun e w21 h_ => ?_)
    clear h
    obtain ⟨r20, r20n, r20c, rfl, h⟩ := h_
    refine ⟨_, rfl, ?_⟩
    refine LW.rd hL rfl (Wants.on rfl rfl rfl rfl rfl hb10) rfl (Rd.builtin (v := .int .i64 (r20n : Int)) rfl (fun _ _ => by kernel_rfl)) ?_
    refine LW.rd hL rfl (Wants.on rfl rfl rfl rfl rfl hb10) rfl (Rd.bin (v := .bool ((r20n : Int) == 0)) rfl rfl (fun w => by kernel_rfl)) ?_
    refine LW.rd hL rfl (Wants.free rfl) rfl (Rd.pickT rfl hb10 rfl) ?_
    exact LW.sub hL (by exact ⟨rfl, rfl, rfl, rfl, rfl, rfl, rfl, rfl, rfl, trivial⟩) (K6 ((r20n : Int) == 0) w21 h)
   ·have h := h0_J3 hb10
    refine LW.skip hL rfl (Skips.on rfl rfl rfl rfl rfl hb10) rfl ?_
    refine LW.skip hL rfl (Skips.on rfl rfl rfl rfl rfl hb10) rfl ?_
    refine LW.skip hL rfl (Skips.on rfl rfl rfl rfl rfl hb10) rfl ?_
    refine LW.skip hL rfl (Skips.on rfl rfl rfl rfl rfl hb10) rfl ?_
    refine LW.skip hL rfl (Skips.on rfl rfl rfl rfl rfl hb10) rfl ?_
    refine LW.rd hL rfl (Wants.free rfl) rfl (Rd.pickF rfl hb10 rfl) ?_
    exact LW.sub hL (by exact ⟨rfl, rfl, rfl, rfl, rfl, rfl, rfl, rfl, rfl, trivial⟩) (K6 false w18 h)
  intro b8 w20 h_
  have h := hJ3 b8 w20 h_; clear h_
  refine LW.rd hL rfl (Wants.free rfl) rfl (Rd.move (v := .bool b8) rfl) ?_
  obtain ⟨J4, hJ4, h1_J4, h0_J4⟩ := h
  suffices K7 : ∀ (b9 : Bool) (w22 : World), J4 b9 w22 → L 38 [(4, .bool false), (6, .pointer (some (⟨b2, 0, none⟩ : Addr))), (13, .pointer r13), (14, .slice r14 r14n r14c), (15, .bool r15), (16, .pointer r16), (17, .int .i64 r17), (90, .bool b9)] w22 by
   rcases Bool.eq_false_or_eq_true b8 with hb11 | hb11
   ·have h := h1_J4 hb11
    refine LW.rd hL rfl (Wants.on rfl rfl rfl rfl rfl hb11) rfl (Rd.move (v := .pointer none) rfl) ?_
    refine LW.call hL rfl (Wants.on rfl rfl rfl rfl rfl hb11) rfl (Cl.fn (f := 15) rfl Tryz.func15 (by kernel_rfl) rfl) h (fun e w23 h_ => ?_)
    clear h
    obtain ⟨r21, rfl, h⟩ := h_
    refine ⟨_, rfl, ?_⟩
    refine LW.rd hL rfl (Wants.on rfl rfl rfl rfl rfl hb11) rfl (Rd.bin (v := .bool (r21 == 0)) rfl rfl (fun w => by kernel_rfl)) ?_
    refine LW.rd hL rfl (Wants.free rfl) rfl (Rd.pickT rfl hb11 rfl) ?_
    exact LW.sub hL (by exact ⟨rfl, rfl, rfl, rfl, rfl, rfl, rfl, rfl, trivial⟩) (K7 (r21 == 0) w23 h)
   ·have h := h0_J4 hb11
    refine LW.skip hL rfl (Skips.on rfl rfl rfl rfl rfl hb11) rfl ?_
    refine LW.skip hL rfl (Skips.on rfl rfl rfl rfl rfl hb11) rfl ?_
    refine LW.skip hL rfl (Skips.on rfl rfl rfl rfl rfl hb11) rfl ?_
    refine LW.rd hL rfl (Wants.free rfl) rfl (Rd.pickF rfl hb11 rfl) ?_
    exact LW.sub hL (by exact ⟨rfl, rfl, rfl, rfl, rfl, rfl, rfl, rfl, trivial⟩) (K7 false w20 h)
  intro b9 w22 h_
  have h := hJ4 b9 w22 h_; clear h_
  refine LW.rd hL rfl (Wants.free rfl) rfl (Rd.move (v := .bool b9) rfl) ?_
  obtain ⟨J5, hJ5, h1_J5, h0_J5⟩ := h
  suffices K8 : ∀ (b10 : Bool) (w24 : World), J5 b10 w24 → L 43 [(4, .bool false), (13, .pointer r13), (14, .slice r14 r14n r14c), (15, .bool r15), (16, .pointer r16), (17, .int .i64 r17), (95, .bool b10)] w24 by
   rcases Bool.eq_false_or_eq_true b9 with hb12 | hb12
   ·have h := h1_J5 hb12
    refine LW.rd hL rfl (Wants.on rfl rfl rfl rfl rfl hb12) rfl (Rd.move (v := .pointer (some (⟨b2, 0, none⟩ : Addr))) rfl) ?_
    refine LW.call hL rfl (Wants.on rfl rfl rfl rfl rfl hb12) rfl (Cl.fn (f := 11) rfl Tryz.func11 (by kernel_rfl) rfl) h (fun e w25 h_ => ?_)
    clear h
    obtain ⟨r22, rfl, h⟩ := h_
    refine ⟨_, rfl, ?_⟩
    refine LW.rd hL rfl (Wants.on rfl rfl rfl rfl rfl hb12) rfl (Rd.bin (v := .bool (Option.isNone r22)) rfl rfl (fun w => ptr_nil_eq (by kernel_rfl) r22 w)) ?_
    refine LW.rd hL rfl (Wants.free rfl) rfl (Rd.pickT rfl hb12 rfl) ?_
    exact LW.sub hL (by exact ⟨rfl, rfl, rfl, rfl, rfl, rfl, rfl, trivial⟩) (K8 (Option.isNone r22) w25 h)
   ·have h := h0_J5 hb12
    refine LW.skip hL rfl (Skips.on rfl rfl rfl rfl rfl hb12) rfl ?_
    refine LW.skip hL rfl (Skips.on rfl rfl rfl rfl rfl hb12) rfl ?_
    refine LW.skip hL rfl (Skips.on rfl rfl rfl rfl rfl hb12) rfl ?_
    refine LW.rd hL rfl (Wants.free rfl) rfl (Rd.pickF rfl hb12 rfl) ?_
    exact LW.sub hL (by exact ⟨rfl, rfl, rfl, rfl, rfl, rfl, rfl, trivial⟩) (K8 false w22 h)
  intro b10 w24 h_
  have h := hJ5 b10 w24 h_; clear h_
  refine LW.rd hL rfl (Wants.free rfl) rfl (Rd.move (v := .bool b10) rfl) ?_
  suffices K9 : L 46 [(4, .bool false), (13, .pointer r13), (14, .slice r14 r14n r14c), (16, .pointer r16), (17, .int .i64 r17), (98, .bool (b10 && r15))] w24 by
   rcases Bool.eq_false_or_eq_true b10 with hb14 | hb14
   ·skip
    refine LW.rd hL rfl (Wants.on rfl rfl rfl rfl rfl hb14) rfl (Rd.move (v := .bool r15) rfl) ?_
    refine LW.rd hL rfl (Wants.free rfl) rfl (Rd.pickT rfl hb14 rfl) ?_
    exact LW.sub hL (by exact ⟨rfl, rfl, rfl, rfl, rfl, (by rw [hb14]; rfl), trivial⟩) K9
   ·skip
    refine LW.skip hL rfl (Skips.on rfl rfl rfl rfl rfl hb14) rfl ?_
    refine LW.rd hL rfl (Wants.free rfl) rfl (Rd.pickF rfl hb14 rfl) ?_
    exact LW.sub hL (by exact ⟨rfl, rfl, rfl, rfl, rfl, (by rw [hb14]; rfl), trivial⟩) K9
  refine LW.rd hL rfl (Wants.free rfl) rfl (Rd.move (v := .bool (b10 && r15)) rfl) ?_
  obtain ⟨J6, hJ6, h1_J6, h0_J6⟩ := h
  suffices K10 : ∀ (b11 : Bool) (w26 : World), J6 b11 w26 → L 53 [(4, .bool false), (13, .pointer r13), (16, .pointer r16), (17, .int .i64 r17), (105, .bool b11)] w26 by
   rcases Bool.eq_false_or_eq_true (b10 && r15) with hb15 | hb15
   ·have h := h1_J6 hb15
    refine LW.rd hL rfl (Wants.on rfl rfl rfl rfl rfl hb15) rfl (Rd.move (v := .pointer r13) rfl) ?_
    refine LW.call hL rfl (Wants.on rfl rfl rfl rfl rfl hb15) rfl (Cl.fn (f := 15) rfl Tryz.func15 (by kernel_rfl) rfl) h (fun e w27 h_ => ?_)
    clear h
    obtain ⟨r23, rfl, h⟩ := h_
    refine ⟨_, rfl, ?_⟩
    refine LW.rd hL rfl (Wants.on rfl rfl rfl rfl rfl hb15) rfl (Rd.move (v := .slice r14 r14n r14c) rfl) ?_
    refine LW.rd hL rfl (Wants.on rfl rfl rfl rfl rfl hb15) rfl (Rd.builtin (v := .int .i64 (r14n : Int)) rfl (fun _ _ => by kernel_rfl)) ?_
    refine LW.rd hL rfl (Wants.on rfl rfl rfl rfl rfl hb15) rfl (Rd.bin (v := .bool (r23 == (r14n : Int))) rfl rfl (fun w => by kernel_rfl)) ?_
    refine LW.rd hL rfl (Wants.free rfl) rfl (Rd.pickT rfl hb15 rfl) ?_
    exact LW.sub hL (by exact ⟨rfl, rfl, rfl, rfl, rfl, trivial⟩) (K10 (r23 == (r14n : Int)) w27 h)
   ·have h := h0_J6 hb15
    refine LW.skip hL rfl (Skips.on rfl rfl rfl rfl rfl hb15) rfl ?_
    refine LW.skip hL rfl (Skips.on rfl rfl rfl rfl rfl hb15) rfl ?_
    refine LW.skip hL rfl (Skips.on rfl rfl rfl rfl rfl hb15) rfl ?_
    refine LW.skip hL rfl (Skips.on rfl rfl rfl rfl rfl hb15) rfl ?_
    refine LW.skip hL rfl (Skips.on rfl rfl rfl rfl rfl hb15) rfl ?_
    refine LW.rd hL rfl (Wants.free rfl) rfl (Rd.pickF rfl hb15 rfl) ?_
    exact LW.sub hL (by exact ⟨rfl, rfl, rfl, rfl, rfl, trivial⟩) (K10 false w24 h)
  intro b11 w26 h_
  have h := hJ6 b11 w26 h_; clear h_
  refine LW.rd hL rfl (Wants.free rfl) rfl (Rd.move (v := .bool b11) rfl) ?_
  suffices K11 : L 57 [(4, .bool false), (13, .pointer r13), (16, .pointer r16), (109, .bool (b11 && r17 == 0))] w26 by
   rcases Bool.eq_false_or_eq_true b11 with hb17 | hb17
   ·skip
    refine LW.rd hL rfl (Wants.on rfl rfl rfl rfl rfl hb17) rfl (Rd.move (v := .int .i64 r17) rfl) ?_
    refine LW.rd hL rfl (Wants.on rfl rfl rfl rfl rfl hb17) rfl (Rd.bin (v := .bool (r17 == 0)) rfl rfl (fun w => by kernel_rfl)) ?_
    refine LW.rd hL rfl (Wants.free rfl) rfl (Rd.pickT rfl hb17 rfl) ?_
    exact LW.sub hL (by exact ⟨rfl, rfl, rfl, (by rw [hb17]; rfl), trivial⟩) K11
   ·skip
    refine LW.skip hL rfl (Skips.on rfl rfl rfl rfl rfl hb17) rfl ?_
    refine LW.skip hL rfl (Skips.on rfl rfl rfl rfl rfl hb17) rfl ?_
    refine LW.rd hL rfl (Wants.free rfl) rfl (Rd.pickF rfl hb17 rfl) ?_
    exact LW.sub hL (by exact ⟨rfl, rfl, rfl, (by rw [hb17]; rfl), trivial⟩) K11
  refine LW.rd hL rfl (Wants.free rfl) rfl (Rd.move (v := .bool (b11 && r17 == 0)) rfl) ?_
  obtain ⟨J7, hJ7, h1_J7, h0_J7⟩ := h
  suffices K12 : ∀ (b12 : Bool) (w28 : World), J7 b12 w28 → L 65 [(4, .bool false), (117, .bool b12)] w28 by
   rcases Bool.eq_false_or_eq_true (b11 && r17 == 0) with hb18 | hb18
   ·have h := h1_J7 hb18
    refine LW.rd hL rfl (Wants.on rfl rfl rfl rfl rfl hb18) rfl (Rd.move (v := .pointer r16) rfl) ?_
    refine LW.call hL rfl (Wants.on rfl rfl rfl rfl rfl hb18) rfl (Cl.fn (f := 15) rfl Tryz.func15 (by kernel_rfl) rfl) h (fun e w29 h_ => ?_)
    clear h
    obtain ⟨r24, rfl, h⟩ := h_
    refine ⟨_, rfl, ?_⟩
    refine LW.rd hL rfl (Wants.on rfl rfl rfl rfl rfl hb18) rfl (Rd.move (v := .pointer r13) rfl) ?_
    refine LW.call hL rfl (Wants.on rfl rfl rfl rfl rfl hb18) rfl (Cl.fn (f := 15) rfl Tryz.func15 (by kernel_rfl) rfl) h (fun e w30 h_ => ?_)
    clear h
    obtain ⟨r25, rfl, h⟩ := h_
    refine ⟨_, rfl, ?_⟩
    refine LW.rd hL rfl (Wants.on rfl rfl rfl rfl rfl hb18) rfl (Rd.bin (v := .int .i64 (IntKind.wrap .i64 (r25 + 1))) rfl rfl (fun w => by kernel_rfl)) ?_
    refine LW.rd hL rfl (Wants.on rfl rfl rfl rfl rfl hb18) rfl (Rd.bin (v := .bool (r24 == (IntKind.wrap .i64 (r25 + 1)))) rfl rfl (fun w => by kernel_rfl)) ?_
    refine LW.rd hL rfl (Wants.free rfl) rfl (Rd.pickT rfl hb18 rfl) ?_
    exact LW.sub hL (by exact ⟨rfl, rfl, trivial⟩) (K12 (r24 == (IntKind.wrap .i64 (r25 + 1))) w30 h)
   ·have h := h0_J7 hb18
    refine LW.skip hL rfl (Skips.on rfl rfl rfl rfl rfl hb18) rfl ?_
    refine LW.skip hL rfl (Skips.on rfl rfl rfl rfl rfl hb18) rfl ?_
    refine LW.skip hL rfl (Skips.on rfl rfl rfl rfl rfl hb18) rfl ?_
    refine LW.skip hL rfl (Skips.on rfl rfl rfl rfl rfl hb18) rfl ?_
    refine LW.skip hL rfl (Skips.on rfl rfl rfl rfl rfl hb18) rfl ?_
    refine LW.skip hL rfl (Skips.on rfl rfl rfl rfl rfl hb18) rfl ?_
    refine LW.rd hL rfl (Wants.free rfl) rfl (Rd.pickF rfl hb18 rfl) ?_
    exact LW.sub hL (by exact ⟨rfl, rfl, trivial⟩) (K12 false w26 h)
  intro b12 w28 h_
  have h := hJ7 b12 w28 h_; clear h_
  refine LW.rd hL rfl (Wants.free rfl) rfl (Rd.move (v := .bool b12) rfl) ?_
  obtain ⟨J8, hJ8, h1_J8, h0_J8⟩ := h
  suffices K13 : ∀ (b13 : Bool) (w31 : World), J8 b13 w31 → L 68 [(4, .bool false), (120, .bool b13)] w31 by
   rcases Bool.eq_false_or_eq_true b12 with hb19 | hb19
   ·have h := h1_J8 hb19
    refine LW.call hL rfl (Wants.on rfl rfl rfl rfl rfl hb19) rfl (Cl.fn (f := 6) rfl Tryz.func6 (by kernel_rfl) rfl) h (fun e w32 h_ => ?_)
    clear h
    obtain ⟨r26, rfl, h⟩ := h_
    refine ⟨_, rfl, ?_⟩
    refine LW.rd hL rfl (Wants.free rfl) rfl (Rd.pickT rfl hb19 rfl) ?_
    exact LW.sub hL (by exact ⟨rfl, rfl, trivial⟩) (K13 r26 w32 h)
   ·have h := h0_J8 hb19
    refine LW.skip hL rfl (Skips.on rfl rfl rfl rfl rfl hb19) rfl ?_
    refine LW.rd hL rfl (Wants.free rfl) rfl (Rd.pickF rfl hb19 rfl) ?_
    exact LW.sub hL (by exact ⟨rfl, rfl, trivial⟩) (K13 false w28 h)
  intro b13 w31 h_
  have h := hJ8 b13 w31 h_; clear h_
  refine LW.rd hL rfl (Wants.free rfl) rfl (Rd.assign (v := .bool b13) rfl) ?_
  refine LW.nil hL rfl ?_
  refine NW.then ?_
  refine CW.ret ?_
  exact res1 rfl rfl ⟨b13, rfl, h⟩
end Go.Proofs.YtfcfkhbkkfpehaaGreatDoor
end
section
/- QueryNil: the walk. -/
namespace Go.Proofs.YtfcfkhbkkfpehaaGreatDoor
open Go Go.RowKit Go.X Go.XR
theorem touch_none {w : World} {b5 : Nat} {y : Pl} (h5 : w.heap[b5]? = some (.cells #[.int .i64 y.1, .int .i64 y.2, .slice none 0 0] 36 (0, 0))) (hy : i64s y.1 ∧ i64s y.2) : TouchesAt w (fun i => i = b5) (some ⟨b5, 0, none⟩) 1 [(y, [])] := by
 refine ⟨rfl, fun j t ht => ?_⟩
 match j, ht with
 | 0, ht =>
  simp at ht; subst ht
  exact ⟨hy.1, hy.2, ⟨b5, 0, none⟩, _, _, _, rfl, rfl, by simpa [add_at] using cellsAt_of h5, rfl, fun j z hz => by simp at hz⟩
 | j + 1, ht => simp at ht
theorem qnil_walk {w : World} {S : Nat → Prop} {p : Option Addr} {n c : Nat} {l : List AddV} (h : AddsAt w S p n l) (hn : n ≤ maxLen) (hS : ∀ i, S i → i < w.heap.size) (p1 p2 : Int) (hp1 : i64s p1) (hp2 : i64s p2) :
  Calls Tryz.prog 3 #[.slice p n c, .agg #[.int .i64 p1, .int .i64 p2]] w fun e w' => ∃ r : Bool, e = .returned (.bool r) ∧ (r = true ∧ Chg [] w w') := by
 refine go_pomanderlaw14_QueryNil _ _ _ _ _ _ _ ?_
 unfold W_pomanderlaw14_QueryNil
 rintro b1 w1 ⟨l1, u1⟩ c1
 refine (vast14 (h.chg (f := []) c1 (by simp)) hn).mono ?_
 rintro _ w2 ⟨vb, rfl, hv, c2⟩
 have s1 := c1.size
 have s2 := c2.size
 have c02 := c1.trans0 c2
 have same : ∀ {A B : World}, Chg [] A B → b1 < A.heap.size → Same A B [b1] := fun hc hb => Same.chg hc (by simpa using hb)
 refine ⟨vb, rfl, same c2 u1, fun _ => ?_, fun hvb => ?_⟩
 ·refine (known_ok w2).mono ?_
  rintro _ w3 ⟨_, rfl, rfl, c3⟩
  exact ⟨_, rfl, same c3 (by omega), rfl, c02.trans0 c3⟩
 have hsm := hv hvb
 refine v_alloc fun b2 w4 e2 hb2 c4 => ?_
 have s4 := c4.size
 have k2 := lt_of_heap hb2
 refine (noh_add (S := S) (ts := []) (noHist_nil w4) ⟨rfl, fun j t ht => by simp at ht⟩ (by simp) 0).mono ?_
 rintro _ w5 ⟨_, rfl, rfl, c5⟩
 have s5 := c5.size
 refine ⟨_, rfl, same c5 (by omega), ?_⟩
 refine v_alloc fun b3 w6 e3 hb3 c6 => ?_
 have s6 := c6.size
 have z6 := noHist_zero (c6.obj (by simp) (c5.obj (by simp) hb2))
 refine (noh_add z6 (touch_none (y := (p1, p2)) hb3 ⟨hp1, hp2⟩) (by simp) 1).mono ?_
 rintro _ w7 ⟨_, rfl, rfl, c7⟩
 have s7 := c7.size
 refine ⟨_, rfl, same c7 (by omega), ?_⟩
 refine (noh_last (noHist_nil w7) p1 p2 5).mono ?_
 rintro _ w8 ⟨_, _, _, _, _, _, _, rfl, ⟨rfl, rfl, rfl, eq, rfl⟩, c8⟩
 cases eq
 have s8 := c8.size
 refine ⟨_, _, _, _, _, _, _, rfl, same c8 (by omega), ?_⟩
 rintro b4 w10 ⟨l4, u4⟩ c10
 have s10 := c10.size
 have same2 : ∀ {A B : World}, Chg [] A B → b4 < A.heap.size → Same A B [b4, b1] := fun hc hb => Same.chg hc (by simp; omega)
 refine (noflow_who (w := w10) 1).mono ?_
 rintro _ w11 ⟨_, _, _, _, rfl, rfl, c11⟩
 have s11 := c11.size
 refine ⟨_, _, _, _, rfl, same2 c11 u4, ?_⟩
 have c211 := ((((((c4.trans0 c5).trans0 c6).trans0 c7).trans0 c8).trans0 c10).trans0 c11)
 have c011 := c02.trans0 c211
 have s011 := c011.size
 refine (made14 (h.chg (f := []) c011 (by simp)) (fun i hi => by have := hS i hi; omega) hsm).mono ?_
 rintro _ w12 ⟨_, r14, r14n, r14c, _, rfl, rfl, c12, ba, fpa, rfl, hHa, hfpa, hNa, _⟩
 have s12 := c12.size
 obtain ⟨ns, hns⟩ : ∃ ns, ns = (madeA l).1 := ⟨_, rfl⟩
 obtain ⟨la, hla⟩ : ∃ la, la = (madeA l).2 := ⟨_, rfl⟩
 rw [← hns, ← hla] at hHa
 rw [← hns] at hNa
 have few : ns.length ≤ 300 := by
  have := madeA_few l hsm l.length
  rw [List.take_length, ← hns] at this
  have := hsm.1; omega
 have six : ∀ nt ∈ ns, nt.2.2.length ≤ 1000 := fun nt hnt => by have := madeA_small l (fun x hx => (hsm.2 x hx).2) nt (by rw [← hns]; exact hnt); omega
 refine ⟨_, _, _, _, _, rfl, same2 c12 (by omega), ?_⟩
 refine (hist_copy hHa six).mono ?_
 rintro _ w13 ⟨_, rfl, bc, fpc, rfl, hHc, c13, hfpc⟩
 have s13 := c13.size
 refine ⟨_, rfl, same2 c13 (by omega), ?_⟩
 refine v_alloc fun b5 w14 e5 hb5 c14 => ?_
 have s14 := c14.size
 have hltc := hHc.lt
 have hla0 := hHa.last0
 refine (hist_add (hHc.chg c14 (by simp)) (touch_none (y := (2, 0)) hb5 ⟨by simp [i64s], by simp [i64s]⟩) (fun i hi hSi => by have := hltc i hi; omega) (by simp) (by simp; omega) (step := 9223372036854775807) (by simp [i64s])).mono ?_
 rintro _ w15 ⟨r17, rfl, fpd, c15, hfpd, hres⟩
 rw [if_neg (by omega)] at hres
 obtain ⟨rfl, hHd⟩ := hres
 have s15 := c15.size
 have hnew : (ns ++ newN 9223372036854775807 [(((2, 0) : Pl), ([] : List Pl))]).length = ns.length + 1 := by
  rw [List.length_append]; rfl
 rw [hnew] at hHd
 refine ⟨_, rfl, Same.of c15 (fun i hi => by
  simp at hi
  exact ⟨by omega, fun hm => by have := hfpc i hm; omega⟩), ?_⟩
 -- what still stands behind the add
 have hlta := hHa.lt
 have c1215 : Chg fpc w12 w15 := (c13.nil.trans c14.nil (fun i hi _ => hi)).trans c15 (fun i hi _ => hi)
 have hHa15 := hHa.chg c1215 (fun i hi hm => by have := hlta i hi; have := hfpc i hm; omega)
 have c615 : Chg fpc w6 w15 := (((((c7.nil (f := fpc)).trans c8.nil (fun i hi _ => hi)).trans c10.nil (fun i hi _ => hi)).trans c11.nil (fun i hi _ => hi)).trans c12.nil (fun i hi _ => hi)).trans c1215 (fun i hi _ => hi)
 have hb215 := c615.obj (fun hm => by have := hfpc _ hm; omega) (c6.obj (by simp) (c5.obj (by simp) hb2))
 have c015 : Chg [] w w15 := (c011.trans0 c12).trans c1215 (fun i hi hlt => by have := hfpc i hi; omega)
 have hNl := hNa.len
 -- the answers, one by one
 refine ⟨fun b w16 => b = true ∧ Chg [] w15 w16, ?_, fun _ => ?_, fun hbad => by simp at hbad⟩
 rotate_left
 ·refine (alike14 (w := w15) (n1 := (0, (0, 0), [])) (n2 := (0, (0, 0), [])) (q1 := (none, 0, 0)) (q2 := (none, 0, 0)) ⟨rfl, fun j x hj => by simp at hj⟩ ⟨rfl, fun j x hj => by simp at hj⟩ (by simp)).mono ?_
  rintro _ w17 ⟨_, rfl, rfl, c17⟩
  exact ⟨_, rfl, same c17 (by omega), by simp, c17⟩
 rintro _ w16 ⟨rfl, c16⟩
 have s16 := c16.size
 refine ⟨fun b w18 => b = true ∧ Chg [] w15 w18, ?_, fun _ => ?_, fun hbad => by simp at hbad⟩
 rotate_left
 ·refine (noh_roots (noHist_nil w16) p1 p2 5).mono ?_
  rintro _ w19 ⟨_, _, _, rfl, rfl, c19⟩
  exact ⟨_, _, _, rfl, same c19 (by omega), by simp, c16.trans0 c19⟩
 rintro _ w18 ⟨rfl, c18⟩
 have z18 := noHist_zero (c18.obj (by simp) hb215)
 refine ⟨fun b w20 => b = true ∧ Chg [] w15 w20, ?_, fun _ => ?_, fun hbad => by simp at hbad⟩
 rotate_left
 ·refine (noh_notes z18 p1 p2).mono ?_
  rintro _ w21 ⟨_, _, _, rfl, rfl, c21⟩
  exact ⟨_, _, _, rfl, by simp, c18.trans0 c21⟩
 rintro _ w20 ⟨rfl, c20⟩
 refine ⟨fun b w22 => b = true ∧ Chg [] w15 w22, ?_, fun _ => ?_, fun hbad => by simp at hbad⟩
 rotate_left
 ·refine (noh_len (noHist_nil w20)).mono ?_
  rintro _ w23 ⟨_, rfl, rfl, hw⟩
  subst w23
  exact ⟨_, rfl, by simp, c20⟩
 rintro _ w22 ⟨rfl, c22⟩
 have z22 := noHist_zero (c22.obj (by simp) hb215)
 refine ⟨fun b w24 => b = true ∧ Chg [] w15 w24, ?_, fun _ => ?_, fun hbad => by simp at hbad⟩
 rotate_left
 ·refine (noh_copy z22).mono ?_
  rintro _ w25 ⟨_, rfl, rfl, hw⟩
  subst w25
  exact ⟨_, rfl, by simp, c22⟩
 rintro _ w24 ⟨rfl, c24⟩
 refine ⟨fun b w26 => b = true ∧ Chg [] w15 w26, ?_, fun _ => ?_, fun hbad => by simp at hbad⟩
 rotate_left
 ·refine (hist_len (hHa15.chg c24 (by simp))).mono ?_
  rintro _ w27 ⟨_, rfl, rfl, hw⟩
  subst w27
  exact ⟨_, rfl, by simp [hNl], c24⟩
 rintro _ w26 ⟨rfl, c26⟩
 refine ⟨fun b w28 => b = true ∧ Chg [] w15 w28, ?_, fun _ => ?_, fun hbad => by simp at hbad⟩
 rotate_left
 ·refine (hist_len (hHd.chg c26 (by simp))).mono ?_
  rintro _ w29 ⟨_, rfl, rfl, hw⟩
  subst w29
  refine ⟨_, rfl, ?_⟩
  refine (hist_len (hHa15.chg c26 (by simp))).mono ?_
  rintro _ w30 ⟨_, rfl, rfl, hw⟩
  subst w30
  refine ⟨_, rfl, ?_, c26⟩
  rw [wr (by omega) (by omega)]; simp
 rintro _ w28 ⟨rfl, c28⟩
 refine ⟨fun b w31 => b = true ∧ Chg [] w15 w31, fun b w31 hh => ⟨hh.1, c015.trans0 hh.2⟩, fun _ => ?_, fun hbad => by simp at hbad⟩
 refine (known_ok w28).mono ?_
 rintro _ w32 ⟨_, rfl, rfl, c32⟩
 exact ⟨_, rfl, rfl, c28.trans0 c32⟩
end Go.Proofs.YtfcfkhbkkfpehaaGreatDoor
end
section
/- Arguments that came in, opened: adds; steps. -/
namespace Go.Proofs.YtfcfkhbkkfpehaaGreatDoor
open Go Go.RowKit Go.X Go.ChangeShapes Go.WideShapes Go.ChangeAt
theorem un2 : Tryz.prog.underlying 2 = some (.int .i64) := by kernel_rfl
section
variable {H : Type} {enc : TypeId × Value → H} {w : World} {base : Nat} {spare : Nat → Bool} {held : Bool} {fuel : Nat} {cs : List Value} {x : DataW H × List MemPlace}
theorem open_slice_c {t e : TypeId} {fuel : Nat} {cs : List Value} {x : DataW H × List MemPlace} (ht : Tryz.prog.underlying t = some (.slice e)) (h : DataW.trod enc Tryz.prog w base spare held fuel t cs = some x) :
  ∃ (p : Option Addr) (len cap : Nat), cs = [.slice p len cap] ∧ len ≤ maxLen ∧ len ≤ cap ∧ ∀ i, i < len → ∃ (a : Addr) (cs' : List Value) (n : Nat) (y : DataW H × List MemPlace), p = some a ∧ CellsAt w (a.add (i * Tryz.prog.cellsOf e)) 0 cs' ∧ cs'.length = Tryz.prog.cellsOf e ∧ DataW.trod enc Tryz.prog w base spare held n e cs' = some y := by
 obtain ⟨p, len, cap, rfl, hl, hel⟩ := open_slice ht h
 refine ⟨p, len, cap, rfl, hl, ?_, hel⟩
 rcases DataW.trod_slice ht h with ⟨h0, _⟩ | ⟨a, len', cap', elems, rest, n, _, h0, rfl, hb, hl', hm, _⟩
 ·cases h0; exact Nat.le_refl _
 ·cases h0; omega
theorem open_add (h : DataW.trod enc Tryz.prog w base spare held fuel 77 cs = some x) : ∃ (y : AddV) (q : Option Addr) (qn qc : Nat), cs = [.int .i64 y.1, .slice q qn qc] ∧ i64s y.1 ∧ qn ≤ maxLen ∧ TouchesAt w (oldS w) q qn y.2 ∧ ∀ t ∈ y.2, t.2.length ≤ maxLen := by
 obtain ⟨xs, n, _, _, hl, hlen, hf⟩ := DataW.trod_struct Tryz.underlying77 h
 have h0 : DataW.trod enc Tryz.prog w base spare held n 2 ((cs.drop 0).take (Tryz.prog.cellsOf 2)) = xs[0]? := hf 0 _ rfl
 have h1 : DataW.trod enc Tryz.prog w base spare held n 75 ((cs.drop 1).take (Tryz.prog.cellsOf 75)) = xs[1]? := hf 1 _ rfl
 rw [show Tryz.prog.cellsOf 2 = 1 by kernel_rfl] at h0
 rw [show Tryz.prog.cellsOf 75 = 1 by kernel_rfl] at h1
 rw [show Tryz.prog.cellsOf 77 = 2 by kernel_rfl] at hl
 rw [List.getElem?_eq_getElem (by rw [hlen]; decide)] at h0 h1
 obtain ⟨st, e0, _, w1⟩ := DataW.trod_int un2 h0
 obtain ⟨q, qn, qc, ts, e1, hq, hts, hin⟩ := open_touches h1
 obtain ⟨c0, c1, rfl⟩ := len2 hl
 simp at e0 e1
 subst e0 e1
 exact ⟨(st, ts), q, qn, qc, rfl, wf_i64 w1, hq, hts, hin⟩
theorem open_adds (h : DataW.trod enc Tryz.prog w base spare held fuel 22 cs = some x) : ∃ p n c l, cs = [.slice p n c] ∧ n ≤ maxLen ∧ n ≤ c ∧ AddsAt w (oldS w) p n l := by
 obtain ⟨p, n, c, rfl, hn, hnc, hel⟩ := open_slice_c Tryz.underlying22 h
 obtain ⟨l, hl, hq⟩ := list_of (Q := fun j (y : AddV) => i64s y.1 ∧ ∃ a q qn qc, p = some a ∧ oldS w a.block ∧ CellsAt w (a.add (j * 2)) 0 [.int .i64 y.1, .slice q qn qc] ∧ TouchesAt w (oldS w) q qn y.2 ∧ qn ≤ maxLen ∧ ∀ t ∈ y.2, t.2.length ≤ maxLen) (n := n) (fun i hi => by
  obtain ⟨a, cs', m, y, ha, hc, _, hy⟩ := hel i hi
  obtain ⟨z, q, qn, qc, rfl, k1, k2, k3, k4⟩ := open_add hy
  rw [show Tryz.prog.cellsOf 77 = 2 by kernel_rfl] at hc
  exact ⟨z, k1, a, q, qn, qc, ha, by have := cellsAt_lt hc; rwa [add_block] at this, hc, k3, k2, k4⟩)
 exact ⟨p, n, c, l, rfl, hn, hnc, ⟨hl, hq⟩⟩
end
end Go.Proofs.YtfcfkhbkkfpehaaGreatDoor
end
section
/- What every row's step needs. -/
namespace Go.Proofs.YtfcfkhbkkfpehaaGreatDoor
open Go Go.RowKit Go.X
theorem ownX : ownKnob Tryz.prog.godebug = none := by kernel_rfl
theorem laidOutX : laidOutB Tryz.prog = true := by kernel_rfl
end Go.Proofs.YtfcfkhbkkfpehaaGreatDoor
end
