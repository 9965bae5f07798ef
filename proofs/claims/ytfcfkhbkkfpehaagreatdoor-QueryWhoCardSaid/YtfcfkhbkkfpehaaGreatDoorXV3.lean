/- Texts of the claim, merged: XFlow2 XFlow3 XIter XLoc XRange XG3 XMapIter XG10 XOrder XPSort XPCollect XQ5 XQSort. -/
import Derived.Test.YtfcfkhbkkfpehaaGreatDoorXV2
import Derived.Maps.RangeRun
import Derived.RangeFuncSeq
import Derived.RangeFuncRecord
import Derived.RangeFuncLeaves
import Derived.TacticsIn
import Derived.Test.YtfcfkhbkkfpehaaGreatDoorProg
import Derived.Shelf.SlSortCmp.WholeK
import Derived.Sort.OwnSortedInts
import Derived.Shelf.SlSortCmp.NoneTotal
set_option linter.unusedSectionVars false
set_option linter.unusedSimpArgs false
set_option linter.unusedVariables false
section
/- Flows: get, put, keep, Mark, New. -/
namespace Go.Proofs.YtfcfkhbkkfpehaaGreatDoor
open Go Go.RowKit Go.X
def i64s (n : Int) : Prop := -9223372036854775808 ≤ n ∧ n ≤ 9223372036854775807
theorem nd_swap {A B B' C : List Nat} {n : Nat} (h : (A ++ (B ++ C)).Nodup) (hB' : B'.Nodup) (hs : ∀ i ∈ B', i ∈ B ∨ n ≤ i) (hA : ∀ i ∈ A, i < n) (hC : ∀ i ∈ C, i < n) : (A ++ (B' ++ C)).Nodup := by
 rw [List.nodup_append] at h ⊢
 obtain ⟨h1, h2, h3⟩ := h
 rw [List.nodup_append] at h2
 obtain ⟨h4, h5, h6⟩ := h2
 refine ⟨h1, ?_, ?_⟩
 ·rw [List.nodup_append]
  refine ⟨hB', h5, fun a ha c hc e => ?_⟩
  rcases hs a ha with h | h
  ·exact h6 a h c hc e
  ·have := hC c hc; omega
 ·intro a ha c hc e
  rcases List.mem_append.1 hc with hc | hc
  ·rcases hs c hc with h | h
   ·exact h3 a ha c (List.mem_append.2 (.inl h)) e
   ·have := hA a ha; omega
  ·exact h3 a ha c (List.mem_append.2 (.inr hc)) e
def putP (g : Int × Int → Int) (p : Int × Int) (set : Int) : Int × Int → Int := fun q => if q = p then set else g q
theorem flow_put {w : World} {b : Nat} {F : Fl} {fp : List Nat} (h : FlowAt w b F fp) {p1 p2 set : Int} (hm : mayP F.fr F.se (p1, p2)) (hs0 : 0 ≤ set) (hs1 : set < 65536) :
  Calls Tryz.prog 39 #[.pointer (some ⟨b, 0, none⟩), .agg #[.int .i64 p1, .int .i64 p2], .int .u32 set] w fun e w' => e = .returned (.tuple #[]) ∧
   (∃ fp', FlowAt w' b { F with g := putP F.g (p1, p2) set } fp' ∧ Chg fp w w' ∧ ∀ i ∈ fp', i ∈ fp ∨ w.heap.size ≤ i) := by
 have hlt := h.lt
 have hnd := h.nodup
 have hw := h.wide
 obtain ⟨T, m, d, r, l, fpT, fpm, fpd, gm, gd, h1, h2, h3, h4, h5, h6, h7, h8, h9, rfl⟩ := h.there
 have hm' := hm
 unfold mayP boundP at hm'
 simp only [] at hm'
 have hnd0 := hnd
 simp only [List.nodup_cons, List.mem_cons, List.mem_append, not_or, List.nodup_append] at hnd
 obtain ⟨⟨nbr, nbT, nbm, nbd⟩, ⟨nrT, nrm, nrd⟩, ndT, ⟨ndm, ndd, nmd⟩, nTmd⟩ := hnd
 have hcase : ∀ {w1 : World}, Chg [] w w1 → w1.heap[b]? = some (.cells #[.int .i64 F.fr, .int .i64 F.se, .pointer (some ⟨T, 0, none⟩), .pointer (some ⟨m, 0, none⟩), .pointer (some ⟨d, 0, none⟩), .map (some r)] 101 (0, 0)) := fun c => c.obj (by simp) h1
 refine ok_flow_Flow_put _ _ _ _ _ _ ?_
 unfold V_flow_Flow_put
 refine v_alloc fun b1 w1 e1 hb1 c1 => ?_
 refine ⟨p1, by rw [cell_of hb1]; rfl, fun hk => ?_, fun hk => ⟨p1, by rw [cell_of hb1]; rfl, fun hk2 => ?_, fun hk2 => ?_⟩⟩
 ·have hk' : p1 = 10 := by simpa using hk
  subst hk'
  simp at hm'
  refine v_drew fun w2 c2 => ?_
  have c02 := c1.trans0 c2
  refine ⟨_, rfl, _, by rw [add_at, cell_of (hcase c02)]; rfl, p2, by rw [cell_of (c2.obj (by simp) hb1)]; rfl, ?_⟩
  refine (shadow_setp (h3.chg c02 (by simp)) ⟨by omega, by omega⟩ hs0).mono ?_
  rintro _ w3 ⟨r1, rfl, hr⟩
  rw [if_neg (by omega), if_pos (by omega)] at hr
  obtain ⟨rfl, fpm', hS, c3, hf⟩ := hr
  have c03 : Chg fpm w w3 := c02.nil.trans c3 (fun _ h _ => h)
  have hf' : ∀ i ∈ fpm', i ∈ fpm ∨ w.heap.size ≤ i := fun i hi => (hf i hi).imp id (fun h => Nat.le_trans c02.size h)
  refine ⟨_, rfl, b :: r :: (fpT ++ (fpm' ++ fpd)), ⟨⟨T, m, d, r, l, fpT, fpm', fpd, putG gm p2 set, gd, c03.obj nbm h1, h2.chg c03 (fun i hi hm => nTmd i hi i (.inl hm) rfl), hS, h4.chg c03 (fun i hi hm => nmd i hm i hi rfl), h5.chg c03 nrm, ?_, ?_, ?_, h9, rfl⟩, ?_⟩, ?_, ?_⟩
  ·intro n; simp only [putP, putG]
   by_cases e : n = p2 <;> simp [e, h6]
  ·intro n; simp [putP, h7]
  ·intro p hp1 hp2; simp only [putP]
   rw [if_neg (by intro e; rw [e] at hp1; exact hp1 rfl)]; exact h8 p hp1 hp2
  ·have := nd_swap (A := b :: r :: fpT) (B := fpm) (B' := fpm') (C := fpd) (n := w.heap.size) (by simpa using hnd0) hS.nodup hf' (fun i hi => hlt i (by simp at hi ⊢; rcases hi with h | h | h <;> simp [h])) (fun i hi => hlt i (by simp [hi]))
   simpa using this
  ·exact c03.mono (fun i hi _ => by simp [hi])
  ·intro i hi
   simp only [List.mem_cons, List.mem_append] at hi ⊢
   rcases hi with h | h | h | h | h
   ·simp [h]
   ·simp [h]
   ·simp [h]
   ·rcases hf' i h with h | h <;> simp [h]
   ·simp [h]
 ·have hk' : p1 = 12 := by simpa using hk2
  subst hk'
  simp at hm'
  refine v_drew fun w2 c2 => ?_
  have c02 := c1.trans0 c2
  refine ⟨_, rfl, _, by rw [add_at, cell_of (hcase c02)]; rfl, p2, by rw [cell_of (c2.obj (by simp) hb1)]; rfl, ?_⟩
  refine (shadow_setp (h4.chg c02 (by simp)) ⟨by omega, by omega⟩ hs0).mono ?_
  rintro _ w3 ⟨r1, rfl, hr⟩
  rw [if_neg (by omega), if_pos (by omega)] at hr
  obtain ⟨rfl, fpd', hS, c3, hf⟩ := hr
  have c03 : Chg fpd w w3 := c02.nil.trans c3 (fun _ h _ => h)
  have hf' : ∀ i ∈ fpd', i ∈ fpd ∨ w.heap.size ≤ i := fun i hi => (hf i hi).imp id (fun h => Nat.le_trans c02.size h)
  refine ⟨_, rfl, b :: r :: (fpT ++ (fpm ++ fpd')), ⟨⟨T, m, d, r, l, fpT, fpm, fpd', gm, putG gd p2 set, c03.obj nbd h1, h2.chg c03 (fun i hi hm => nTmd i hi i (.inr hm) rfl), h3.chg c03 (fun i hi hm => nmd i hi i hm rfl), hS, h5.chg c03 nrd, ?_, ?_, ?_, h9, rfl⟩, ?_⟩, ?_, ?_⟩
  ·intro n; simp [putP, h6]
  ·intro n; simp only [putP, putG]
   by_cases e : n = p2 <;> simp [e, h7]
  ·intro p hp1 hp2; simp only [putP]
   rw [if_neg (by intro e; rw [e] at hp2; exact hp2 rfl)]; exact h8 p hp1 hp2
  ·have := nd_swap (A := b :: r :: (fpT ++ fpm)) (B := fpd) (B' := fpd') (C := []) (n := w.heap.size) (by simpa using hnd0) hS.nodup hf' (fun i hi => hlt i (by simp at hi ⊢; rcases hi with h | h | h | h <;> simp [h])) (by simp)
   simpa using this
  ·exact c03.mono (fun i hi _ => by simp [hi])
  ·intro i hi
   simp only [List.mem_cons, List.mem_append] at hi ⊢
   rcases hi with h | h | h | h | h
   ·simp [h]
   ·simp [h]
   ·simp [h]
   ·simp [h]
   ·rcases hf' i h with h | h <;> simp [h]
 ·have hk' : p1 ≠ 10 := by simpa using hk
  have hk2' : p1 ≠ 12 := by simpa using hk2
  refine ⟨fun hz => ?_, fun hz => ?_⟩
  ·have hz' : set = 0 := by simpa using hz
   subst hz'
   refine v_drew fun w2 c2 => ?_
   have c02 := c1.trans0 c2
   obtain ⟨w3, hd, c3, _, hm3⟩ := (h5.chg c02 (by simp)).delete (P := Tryz.prog) (T := 99) u143 keyPlace (p1, p2) (ty := 0)
   have c03 : Chg [r] w w3 := c02.nil.trans c3 (fun _ h _ => h)
   refine ⟨_, rfl, _, by rw [add_at, cell_of (hcase c02)]; rfl, p1, p2, cellsAt_of (c2.obj (by simp) hb1), w3, hd, ?_⟩
   refine ⟨b :: r :: (fpT ++ (fpm ++ fpd)), ⟨⟨T, m, d, r, _, fpT, fpm, fpd, gm, gd, c03.obj (by simpa using nbr) h1, h2.chg c03 (fun i hi hm => nrT (by simp at hm; exact hm ▸ hi)), h3.chg c03 (fun i hi hm => nrm (by simp at hm; exact hm ▸ hi)), h4.chg c03 (fun i hi hm => nrd (by simp at hm; exact hm ▸ hi)), hm3, ?_, ?_, ?_, ?_, rfl⟩, hnd0⟩, ?_, fun i hi => .inl hi⟩
   ·intro n; simp only [putP]; rw [if_neg (by intro e; exact hk' (congrArg Prod.fst e).symm)]; exact h6 n
   ·intro n; simp only [putP]; rw [if_neg (by intro e; exact hk2' (congrArg Prod.fst e).symm)]; exact h7 n
   ·intro p hp1 hp2; simp only [putP]
    simp only [lookK_del]
    by_cases e : p = (p1, p2)
    ·simp [e]
    ·simp [e, h8 p hp1 hp2]
   ·intro x hx; exact h9 x (List.mem_filter.1 hx).1
   ·exact c03.mono (by simp)
  ·have hz' : set ≠ 0 := by simpa using hz
   refine v_drew fun w2 c2 => ?_
   have c02 := c1.trans0 c2
   obtain ⟨w3, hd, c3, _, hm3⟩ := (h5.chg c02 (by simp)).update (P := Tryz.prog) (T := 99) u143 keyPlace (p1, p2) set
   have c03 : Chg [r] w w3 := c02.nil.trans c3 (fun _ h _ => h)
   refine ⟨_, rfl, _, by rw [add_at, cell_of (hcase c02)]; rfl, p1, p2, cellsAt_of (c2.obj (by simp) hb1), w3, hd, ?_⟩
   refine ⟨b :: r :: (fpT ++ (fpm ++ fpd)), ⟨⟨T, m, d, r, _, fpT, fpm, fpd, gm, gd, c03.obj (by simpa using nbr) h1, h2.chg c03 (fun i hi hm => nrT (by simp at hm; exact hm ▸ hi)), h3.chg c03 (fun i hi hm => nrm (by simp at hm; exact hm ▸ hi)), h4.chg c03 (fun i hi hm => nrd (by simp at hm; exact hm ▸ hi)), hm3, ?_, ?_, ?_, ?_, rfl⟩, hnd0⟩, ?_, fun i hi => .inl hi⟩
   ·intro n; simp only [putP]; rw [if_neg (by intro e; exact hk' (congrArg Prod.fst e).symm)]; exact h6 n
   ·intro n; simp only [putP]; rw [if_neg (by intro e; exact hk2' (congrArg Prod.fst e).symm)]; exact h7 n
   ·intro p hp1 hp2; simp only [putP]
    simp only [lookK_upd]
    by_cases e : p = (p1, p2)
    ·simp [e]
    ·simp [e, h8 p hp1 hp2]
   ·intro x hx
    unfold upd at hx
    split at hx
    ·obtain ⟨y, hy, rfl⟩ := List.mem_map.1 hx
     by_cases e : y.1 = (p1, p2)
     ·rw [if_pos e]; exact ⟨hk', hk2', hm, by show 0 < set; omega, hs1⟩
     ·rw [if_neg e]; exact h9 y hy
    ·rcases List.mem_append.1 hx with hx | hx
     ·exact h9 x hx
     ·simp at hx; subst hx; exact ⟨hk', hk2', hm, by show 0 < set; omega, hs1⟩
   ·exact c03.mono (by simp)
theorem flow_keep {w : World} {b : Nat} {F : Fl} {fp : List Nat} (h : FlowAt w b F fp) {set : Int} (hs0 : 0 ≤ set) :
  Calls Tryz.prog 38 #[.pointer (some ⟨b, 0, none⟩), .int .u32 set] w fun e w' => ∃ r : Int, e = .returned (.int .i64 r) ∧
   (r = keepE F.most F.sets set ∧ ∃ fp', FlowAt w' b { F with sets := keepS F.most F.sets set } fp' ∧ Chg fp w w' ∧ ∀ i ∈ fp', i ∈ fp ∨ w.heap.size ≤ i) := by
 have hlt := h.lt
 have hnd := h.nodup
 obtain ⟨T, m, d, r, l, fpT, fpm, fpd, gm, gd, h1, h2, h3, h4, h5, h6, h7, h8, h9, rfl⟩ := h.there
 have hnd0 := hnd
 simp only [List.nodup_cons, List.mem_cons, List.mem_append, not_or, List.nodup_append] at hnd
 obtain ⟨⟨nbr, nbT, nbm, nbd⟩, ⟨nrT, nrm, nrd⟩, ndT, ⟨ndm, ndd, nmd⟩, nTmd⟩ := hnd
 refine ok_flow_Flow_keep _ _ _ _ ?_
 unfold V_flow_Flow_keep
 refine ⟨_, rfl, _, by rw [add_at, cell_of h1]; rfl, ?_⟩
 refine (table_keep h2 hs0).mono ?_
 rintro _ w3 ⟨r1, r2, rfl, rfl, fpT', hT, c3, hf⟩
 refine ⟨_, _, rfl, rfl, b :: r :: (fpT' ++ (fpm ++ fpd)), ⟨⟨T, m, d, r, l, fpT', fpm, fpd, gm, gd, c3.obj nbT h1, hT, h3.chg c3 (fun i hi hm => nTmd i hm i (.inl hi) rfl), h4.chg c3 (fun i hi hm => nTmd i hm i (.inr hi) rfl), h5.chg c3 nrT, h6, h7, h8, h9, rfl⟩, ?_⟩, ?_, ?_⟩
 ·have := nd_swap (A := [b, r]) (B := fpT) (B' := fpT') (C := fpm ++ fpd) (n := w.heap.size) (by simpa using hnd0) hT.nodup hf (fun i hi => hlt i (by simp at hi ⊢; rcases hi with h | h <;> simp [h])) (fun i hi => hlt i (by simp at hi ⊢; rcases hi with h | h <;> simp [h]))
  simpa using this
 ·exact c3.mono (fun i hi _ => by simp [hi])
 ·intro i hi
  simp only [List.mem_cons, List.mem_append] at hi ⊢
  rcases hi with h | h | h | h | h
  ·simp [h]
  ·simp [h]
  ·rcases hf i h with h | h <;> simp [h]
  ·simp [h]
  ·simp [h]
def flowNew (fr se most : Int) : Fl := ⟨fr, se, most, [0], fun _ => 0⟩
def rightP (fr se most : Int) : Prop := 1 ≤ fr ∧ fr ≤ 32 ∧ 1 ≤ se ∧ se ≤ 32 ∧ 1 ≤ most ∧ most ≤ 65536
instance (fr se most : Int) : Decidable (rightP fr se most) := by unfold rightP; exact inferInstance
theorem flow_new (w : World) (fr se most : Int) :
  Calls Tryz.prog 16 #[.agg #[.int .i64 fr, .int .i64 se], .int .i64 most] w fun e w' => ∃ (r1 : Option Addr) (r2 : Int), e = .returned (.tuple #[.pointer r1, .int .i64 r2]) ∧
   (Chg [] w w' ∧ if rightP fr se most then r2 = 0 ∧ ∃ b fp, r1 = some ⟨b, 0, none⟩ ∧ FlowAt w' b (flowNew fr se most) fp ∧ ∀ i ∈ fp, w.heap.size ≤ i else r1 = none ∧ r2 = 2) := by
 refine ok_flow_New _ _ _ _ _ ?_
 unfold V_flow_New
 refine v_alloc fun b1 w1 e1 hb1 c1 => ?_
 refine (table_new w1 most).mono ?_
 rintro _ w2 ⟨r3, r4, rfl, c2, ht⟩
 have hb2 := c2.obj (by simp) hb1
 refine ⟨_, _, rfl, fr, by rw [cell_of hb2]; rfl, ?_⟩
 refine (shadow_new w2 fr).mono ?_
 rintro _ w3 ⟨r5, r6, rfl, c3, hm⟩
 have hb3 := c3.obj (by simp) hb2
 refine ⟨_, _, rfl, se, by rw [cell_of hb3]; rfl, ?_⟩
 refine (shadow_new w3 se).mono ?_
 rintro _ w4 ⟨r7, r8, rfl, c4, hd⟩
 have hb4 := c4.obj (by simp) hb3
 have c04 : Chg [] w w4 := ((c1.trans0 c2).trans0 c3).trans0 c4
 refine ⟨_, _, rfl, fun hbad => ?_, fun hgood => ?_⟩
 ·refine ⟨c04, ?_⟩
  rw [if_neg]
  ·exact ⟨rfl, rfl⟩
  ·rintro ⟨k1, k2, k3, k4, k5, k6⟩
   rw [if_pos ⟨k5, k6⟩] at ht
   rw [if_pos ⟨k1, k2⟩] at hm
   rw [if_pos ⟨k3, k4⟩] at hd
   simp [ht.1, hm.1, hd.1] at hbad
 simp at hgood
 by_cases k1 : 1 ≤ most ∧ most ≤ 65536
 case neg => rw [if_neg k1] at ht; omega
 by_cases k2 : 1 ≤ fr ∧ fr ≤ 32
 case neg => rw [if_neg k2] at hm; omega
 by_cases k3 : 1 ≤ se ∧ se ≤ 32
 case neg => rw [if_neg k3] at hd; omega
 rw [if_pos k1] at ht
 rw [if_pos k2] at hm
 rw [if_pos k3] at hd
 obtain ⟨rfl, T, fpT, rfl, hT, fT⟩ := ht
 obtain ⟨rfl, m, fpm, rfl, hM, fM⟩ := hm
 obtain ⟨rfl, d, fpd, rfl, hD, fD⟩ := hd
 refine ⟨fr, se, cellsAt_of hb4, ?_⟩
 refine v_alloc fun b2 w5 e5 h5 c5 => ?_
 refine v_alloc fun b3 w6 e6 h6 c6 => ?_
 have c06 := (c04.trans0 c5).trans0 c6
 have l5 : b2 < w5.heap.size := lt_of_heap h5
 have s1 := c1.size
 have s2 := c2.size
 have s3 := c3.size
 have s4 := c4.size
 have s5 := c5.size
 have lT := hT.lt
 have lM := hM.lt
 have lD := hD.lt
 refine ⟨c06, ?_⟩
 rw [if_pos ⟨k2.1, k2.2, k3.1, k3.2, k1.1, k1.2⟩]
 have hmap : MapIs w5 b2 encP (fun n : Int => .int .u32 n) [] := ⟨#[], 0, h5, rfl, by simp, by simp, by simp⟩
 have c26 := ((c3.trans0 c4).trans0 c5).trans0 c6
 have c36 := (c4.trans0 c5).trans0 c6
 have c46 := c5.trans0 c6
 refine ⟨rfl, b3, b3 :: b2 :: (fpT ++ (fpm ++ fpd)), rfl, ⟨⟨T, m, d, b2, [], fpT, fpm, fpd, fun _ => 0, fun _ => 0, h6, hT.chg c26 (by simp), hM.chg c36 (by simp), hD.chg c46 (by simp), hmap.chg c6 (by simp), fun _ => rfl, fun _ => rfl, fun _ _ _ => rfl, by simp, rfl⟩, ?_⟩, ?_⟩
 ·simp only [List.nodup_cons, List.mem_cons, List.mem_append, not_or, List.nodup_append]
  refine ⟨⟨by omega, fun h => ?_, fun h => ?_, fun h => ?_⟩, ⟨fun h => ?_, fun h => ?_, fun h => ?_⟩, hT.nodup, ⟨hM.nodup, hD.nodup, fun a ha c hc e => ?_⟩, fun a ha c hc e => ?_⟩
  ·have := lT _ h; omega
  ·have := lM _ h; omega
  ·have := lD _ h; omega
  ·have := lT _ h; omega
  ·have := lM _ h; omega
  ·have := lD _ h; omega
  ·have := lM _ ha; have := fD _ hc; omega
  ·have := lT _ ha
   rcases hc with hc | hc
   ·have := fM _ hc; omega
   ·have := fD _ hc; omega
 ·intro i hi
  simp only [List.mem_cons, List.mem_append] at hi
  rcases hi with h | h | h | h | h
  ·omega
  ·omega
  ·have := fT i h; omega
  ·have := fM i h; omega
  ·have := fD i h; omega
end Go.Proofs.YtfcfkhbkkfpehaaGreatDoor
end
section
/- Flows: Mark, Get, together, right, Decides; places and touches that lie somewhere. -/
namespace Go.Proofs.YtfcfkhbkkfpehaaGreatDoor
open Go Go.RowKit Go.X
def fillP (g : Int × Int → Int) (p : Int × Int) (set : Int) : Nat → Int × Int → Int
 | 0 => g
 | n + 1 => putP (fillP g p set n) (p.1, p.2 + n) set
def markE (F : Fl) (p : Int × Int) (n set : Int) : Int :=
 if ¬ mayP F.fr F.se p ∨ 65536 ≤ set then 2 else if n < 0 ∨ 65536 < n ∨ (0 < n ∧ ¬ mayP F.fr F.se (p.1, p.2 + n - 1)) then 4 else keepE F.most F.sets set
def markF (F : Fl) (p : Int × Int) (n set : Int) : Fl := if markE F p n set = 0 then { F with sets := keepS F.most F.sets set, g := fillP F.g p set n.toNat } else F
theorem keepS_bad {most : Int} {sets : List Int} {set : Int} (h : keepE most sets set ≠ 0) : keepS most sets set = sets := by
 unfold keepE at h; unfold keepS
 split at h
 ·rename_i h1; rw [if_pos (.inl h1)]
 split at h
 ·simp at h
 split at h
 ·rename_i h1; rw [if_pos (.inr (.inr h1))]
 ·simp at h
theorem grow_trans {fp fp' fp'' : List Nat} {w w' w'' : World} (c : Chg fp w w') (f : ∀ i ∈ fp', i ∈ fp ∨ w.heap.size ≤ i) (c' : Chg fp' w' w'') (f' : ∀ i ∈ fp'', i ∈ fp' ∨ w'.heap.size ≤ i) :
  Chg fp w w'' ∧ ∀ i ∈ fp'', i ∈ fp ∨ w.heap.size ≤ i :=
 ⟨c.trans c' (fun i hi hlt => (f i hi).resolve_right (by omega)), fun i hi => by
  rcases f' i hi with h | h
  ·exact f i h
  ·exact .inr (Nat.le_trans c.size h)⟩
theorem flow_mark {w : World} {b : Nat} {F : Fl} {fp : List Nat} (h : FlowAt w b F fp) {p1 p2 n set : Int} (hp : i64s p2) (hs0 : 0 ≤ set) :
  Calls Tryz.prog 18 #[.pointer (some ⟨b, 0, none⟩), .agg #[.int .i64 p1, .int .i64 p2], .int .i64 n, .int .u32 set] w fun e w' => ∃ r : Int, e = .returned (.int .i64 r) ∧
   (r = markE F (p1, p2) n set ∧ ∃ fp', FlowAt w' b (markF F (p1, p2) n set) fp' ∧ Chg fp w w' ∧ ∀ i ∈ fp', i ∈ fp ∨ w.heap.size ≤ i) := by
 have hwide := h.wide
 refine ok_flow_Flow_Mark _ _ _ _ _ _ _ ?_
 unfold V_flow_Flow_Mark
 refine v_alloc fun b1 w1 e1 hb1 c1 => ?_
 refine (flow_none (h.chg c1 (by simp))).mono ?_
 rintro _ w2 ⟨_, rfl, rfl, hw⟩
 subst w2
 refine ⟨_, rfl, fun h => by simp at h, fun _ => ⟨p1, p2, cellsAt_of hb1, ?_⟩⟩
 refine (flow_may (h.chg c1 (by simp)) p1 p2).mono ?_
 rintro _ w3 ⟨_, rfl, rfl, c3⟩
 have c03 := c1.trans0 c3
 have hb3 := c3.obj (by simp) hb1
 refine ⟨_, rfl, fun hbad => ?_, fun hgood => ?_⟩
 ·have hb : ¬ mayP F.fr F.se (p1, p2) ∨ 65536 ≤ set := by simpa using hbad
  have hE : markE F (p1, p2) n set = 2 := by unfold markE; rw [if_pos hb]
  exact ⟨hE.symm, fp, by unfold markF; rw [if_neg (by omega)]; exact h.chg c03 (by simp), c03.nil, fun i hi => .inl hi⟩
 have hg : mayP F.fr F.se (p1, p2) ∧ set < 65536 := by simpa using hgood
 have hm := hg.1
 unfold mayP boundP at hm
 simp only [] at hm
 have hp2 : 0 ≤ p2 ∧ p2 < 2147483648 := by
  refine ⟨hm.2.2.1, ?_⟩
  have := hm.2.2.2
  split at this
  ·omega
  split at this
  ·omega
  split at this
  ·omega
  split at this
  ·omega
  split at this
  ·omega
  split at this <;> omega
 have hnot : ¬ (¬ mayP F.fr F.se (p1, p2) ∨ 65536 ≤ set) := by
  rintro (h | h)
  ·exact h hg.1
  ·omega
 refine ⟨fun b2 w4 => Chg [] w w4 ∧ w4.heap[b1]? = some (.cells #[.int .i64 p1, .int .i64 p2] 25 (0, 0)) ∧ b2 = decide (n < 0 ∨ 65536 < n ∨ (0 < n ∧ ¬ mayP F.fr F.se (p1, p2 + n - 1))), ?_, fun hn => ?_, fun hn => ?_⟩
 rotate_left
 ·have hn' : 0 ≤ n ∧ n ≤ 65536 := by simpa using hn
  refine ⟨_, fun b3 w5 h => h, fun hpos => ?_, fun hpos => ?_⟩
  ·have hpos' : 0 < n := by simpa using hpos
   refine ⟨p1, by rw [cell_of hb3]; rfl, p2, by rw [cell_of hb3]; rfl, ?_⟩
   rw [wr (n := p2 + n) (by omega) (by omega), wr (by omega) (by omega)]
   refine (flow_may (h.chg c03 (by simp)) p1 (p2 + n - 1)).mono ?_
   rintro _ w6 ⟨_, rfl, rfl, c6⟩
   refine ⟨_, rfl, c03.trans0 c6, c6.obj (by simp) hb3, ?_⟩
   rw [← decide_not]
   exact decide_eq_decide.2 ⟨fun h => .inr (.inr ⟨hpos', h⟩), fun h => by
    rcases h with h | h | h
    ·omega
    ·omega
    ·exact h.2⟩
  ·have hpos' : ¬ 0 < n := by simpa using hpos
   refine ⟨c03, hb3, ?_⟩
   symm; rw [decide_eq_false_iff_not]; omega
 ·have hn' : n < 0 ∨ 65536 < n := by simpa using hn
  refine ⟨c03, hb3, ?_⟩
  symm; rw [decide_eq_true_eq]; omega
 rintro b2 w4 ⟨c04, hb4, rfl⟩
 refine ⟨fun hbad => ?_, fun hok => ?_⟩
 ·rw [decide_eq_true_eq] at hbad
  have hE : markE F (p1, p2) n set = 4 := by unfold markE; rw [if_neg hnot, if_pos hbad]
  exact ⟨hE.symm, fp, by unfold markF; rw [if_neg (by omega)]; exact h.chg c04 (by simp), c04.nil, fun i hi => .inl hi⟩
 rw [decide_eq_false_iff_not] at hok
 have hE : markE F (p1, p2) n set = keepE F.most F.sets set := by unfold markE; rw [if_neg hnot, if_neg hok]
 refine (flow_keep (h.chg c04 (by simp)) hs0).mono ?_
 rintro _ w7 ⟨r5, rfl, rfl, fp', hF, c7, hf⟩
 obtain ⟨c07, hf07⟩ := grow_trans (fp := fp) (fp' := fp) c04.nil (fun i hi => .inl hi) c7 hf
 have hlt := h.lt
 have hb7 : w7.heap[b1]? = some (.cells #[.int .i64 p1, .int .i64 p2] 25 (0, 0)) := c7.obj (fun hm => by have := hlt _ hm; omega) hb4
 refine ⟨_, rfl, fun hbad => ?_, fun hz => ?_⟩
 ·have hbad' : keepE F.most F.sets set ≠ 0 := by simpa using hbad
  refine ⟨hE.symm, fp', ?_, c07, hf07⟩
  unfold markF; rw [if_neg (by rw [hE]; exact hbad')]
  rw [keepS_bad hbad'] at hF; exact hF
 have hz' : keepE F.most F.sets set = 0 := by simpa using hz
 have hn0 : 0 ≤ n ∧ n ≤ 65536 := by omega
 refine ⟨fun s w' => ∃ i : Nat, s = (i : Int) ∧ (i : Int) ≤ n ∧ w'.heap[b1]? = some (.cells #[.int .i64 p1, .int .i64 p2] 25 (0, 0)) ∧ ∃ fp', FlowAt w' b { F with sets := keepS F.most F.sets set, g := fillP F.g (p1, p2) set i } fp' ∧ Chg fp w w' ∧ ∀ i ∈ fp', i ∈ fp ∨ w.heap.size ≤ i ∧ i ≠ b1,
  fun s _ => (n - s).toNat, ⟨0, rfl, by omega, hb7, fp', hF, c07, fun i hi => ?_⟩, ?_⟩
 ·rcases hf i hi with h | h
  ·exact .inl h
  ·exact .inr ⟨Nat.le_trans c04.size h, fun e => by have := lt_of_heap hb4; omega⟩
 rintro _ w8 ⟨i, rfl, hi, hb8, fp8, hF8, c8, hf8⟩
 refine ⟨fun hlt8 => ?_, fun hge => ?_⟩
 ·have hlt' : (i : Int) < n := by simpa using hlt8
  refine ⟨p1, by rw [cell_of hb8]; rfl, p2, by rw [cell_of hb8]; rfl, ?_⟩
  rw [wr (n := p2 + i) (by omega) (by omega)]
  have hmi : mayP F.fr F.se (p1, p2 + i) := by
   have h1 : mayP F.fr F.se (p1, p2 + n - 1) := Classical.byContradiction fun h => hok (.inr (.inr ⟨by omega, h⟩))
   unfold mayP at h1 hg ⊢
   simp only [] at h1 hg ⊢
   omega
  refine (flow_put hF8 hmi hs0 hg.2).mono ?_
  rintro _ w9 ⟨rfl, fp9, hF9, c9, hf9⟩
  rw [wr (by omega) (by omega)]
  refine ⟨rfl, ⟨i + 1, by omega, by omega, c9.obj (fun hm => ?_) hb8, fp9, hF9, ?_, ?_⟩, by simp only []; omega⟩
  ·rcases hf8 _ hm with h | h
   ·have := hlt _ h; omega
   ·exact h.2 rfl
  ·exact c8.trans c9 (fun j hj hl => (hf8 j hj).resolve_right (fun h => by omega))
  ·intro j hj
   rcases hf9 j hj with h | h
   ·exact hf8 j h
   ·exact .inr ⟨Nat.le_trans c8.size h, fun e => by have := lt_of_heap hb8; omega⟩
 ·have hge' : ¬ (i : Int) < n := by simpa using hge
  have : n.toNat = i := by omega
  refine ⟨by rw [hE, hz'], fp8, ?_, c8, fun j hj => (hf8 j hj).imp id And.left⟩
  unfold markF; rw [if_pos (by rw [hE]; exact hz'), this]; exact hF8
/-! ### Places and touches -/
structure PlacesAt (w : World) (S : Nat → Prop) (p : Option Addr) (n : Nat) (ps : List (Int × Int)) : Prop where
 length : ps.length = n
 each : ∀ j x, ps[j]? = some x → i64s x.1 ∧ i64s x.2 ∧ ∃ a, p = some a ∧ S a.block ∧ CellsAt w (a.add (j * 2)) 0 [.int .i64 x.1, .int .i64 x.2]
theorem PlacesAt.chg {w w' : World} {S : Nat → Prop} {p : Option Addr} {n : Nat} {ps : List (Int × Int)} {f : List Nat} (h : PlacesAt w S p n ps) (hc : Chg f w w') (hf : ∀ i ∈ f, ¬ S i) : PlacesAt w' S p n ps :=
 ⟨h.length, fun j x hx => let ⟨h1, h2, a, h3, h4, h5⟩ := h.each j x hx; ⟨h1, h2, a, h3, h4, hc.cells (by rw [add_block]; exact fun hm => hf _ hm h4) h5⟩⟩
abbrev Tch := (Int × Int) × List (Int × Int)
structure TouchesAt (w : World) (S : Nat → Prop) (p : Option Addr) (n : Nat) (ts : List Tch) : Prop where
 length : ts.length = n
 each : ∀ j t, ts[j]? = some t → i64s t.1.1 ∧ i64s t.1.2 ∧ ∃ a q qn qc, p = some a ∧ S a.block ∧ CellsAt w (a.add (j * 3)) 0 [.int .i64 t.1.1, .int .i64 t.1.2, .slice q qn qc] ∧ PlacesAt w S q qn t.2
theorem TouchesAt.chg {w w' : World} {S : Nat → Prop} {p : Option Addr} {n : Nat} {ts : List Tch} {f : List Nat} (h : TouchesAt w S p n ts) (hc : Chg f w w') (hf : ∀ i ∈ f, ¬ S i) : TouchesAt w' S p n ts :=
 ⟨h.length, fun j x hx => let ⟨h1, h2, a, q, qn, qc, h3, h4, h5, h6⟩ := h.each j x hx; ⟨h1, h2, a, q, qn, qc, h3, h4, hc.cells (by rw [add_block]; exact fun hm => hf _ hm h4) h5, h6.chg hc hf⟩⟩
theorem get_of {α : Type} {l : List α} {j : Nat} (h : j < l.length) : ∃ x, l[j]? = some x := ⟨l[j], List.getElem?_eq_getElem h⟩
theorem take_snoc {α : Type} {l : List α} {j : Nat} {x : α} (h : l[j]? = some x) : l.take (j + 1) = l.take j ++ [x] := by
 rw [List.take_add_one, h]; rfl
def joinP (g : Int × Int → Int) (ps : List (Int × Int)) : Int := ps.foldl (fun s p => bits .or .u32 s (g p)) 0
def rightT (fr se : Int) (t : Tch) : Prop := (t.1 = (0, 0) ∨ mayP fr se t.1) ∧ ∀ p ∈ t.2, mayP fr se p
instance (fr se : Int) (t : Tch) : Decidable (rightT fr se t) := by unfold rightT; exact inferInstance
end Go.Proofs.YtfcfkhbkkfpehaaGreatDoor
end
section
/- Going over a map: the engine's rule for an entry; what the steps yield, by the kit's laws. -/
namespace Go.X
open Go Go.RowKit Go.MapKept Go.ChangeMaps
section
variable {P : Program} {N : Nat} {D : List Deferred} {E : Env} {w w' : World} {d : Option Nat} {T : TypeId} {p : String} {af : Array Edge} {g : Option (Nat × Bool)} {S : World → Prop} {v : Value}
theorem Rd.entry {x : Operand} {vx : Value} (hx : opd E x = some vx) (hl : ∀ w, S w → (Instr.entry vx).run P w = .ok v w) : Rd P N D E ⟨d, .entry x, T, p, af, g⟩ v S := fun a ha w hS => by
 simp [execOp, ha.eval hx, hl w hS]
end
section
variable {P : Program} {K V : Type} [DecidableEq K] {ke : K → Value} {ve : V → Value} {kt et T : TypeId} {w w' : World} {it m : Nat} {l done : List (K × V)}
def IterAt (w : World) (it m : Nat) (ke : K → Value) (ve : V → Value) (l done : List (K × V)) : Prop :=
 ∃ (es : Array MapEntry) (clk since c0 : Nat) (seen : Array Nat) (ds : List MapEntry), w.heap[it]? = some (.mapIter (some m) since seen c0) ∧ since ≤ c0 ∧ since ≤ clk ∧ w.heap[m]? = some (.map es clk) ∧ (∀ x ∈ es.toList, x.born < since) ∧
  es.toList.map (fun (e : MapEntry) => (e.key, e.val)) = l.map (fun (p : K × V) => (ke p.1, ve p.2)) ∧ (l.map Prod.fst).Nodup ∧ (es.toList.map (·.born)).Nodup ∧
  ds.map (·.born) = seen.toList ∧ (∀ d ∈ ds, d ∈ es.toList) ∧ ds.map (fun (e : MapEntry) => (e.key, e.val)) = done.map (fun (p : K × V) => (ke p.1, ve p.2)) ∧ (∀ x ∈ done, x ∈ l) ∧ (done.map Prod.fst).Nodup
theorem IterAt.chg {f : List Nat} (h : IterAt w it m ke ve l done) (hc : Chg f w w') (h1 : it ∉ f) (h2 : m ∉ f) : IterAt w' it m ke ve l done := by
 obtain ⟨es, clk, since, c0, seen, ds, a, b, b', c, rest⟩ := h
 exact ⟨es, clk, since, c0, seen, ds, hc.obj h1 a, b, b', hc.obj h2 c, rest⟩
theorem iter_range (h : MapIs w m ke ve l) (hm : P.underlying T = some (.map kt et)) :
  ∃ it w', (Instr.range T (.map (some m))).run P w = .ok (.pointer (some ⟨it, 0, none⟩)) w' ∧ Chg [] w w' ∧ it = w.heap.size ∧ IterAt w' it m ke ve l [] := by
 obtain ⟨es, clk, hb, he, hn, hbn, hbd⟩ := h
 refine ⟨w.heap.size, w.alloc (.mapIter (some m) clk #[] clk), ?_, Chg.alloc _ _, rfl, es, clk, clk, clk, #[], [], heap_new w _, Nat.le_refl _, Nat.le_refl _, (Chg.alloc w _).obj (by simp) hb, hbn, he, hn, hbd, rfl, by simp, rfl, by simp, by simp⟩
 simp [Instr.range, run_underlying hm, MapKept.run_getObj_map hb, newObj, Result.andThen]
 rfl
theorem iter_next (h : IterAt w it m ke ve l done) (hne : it ≠ m) (hinj : ∀ a b, ke a = ke b → a = b) (ty : TypeId) :
  ((Instr.next (.pointer (some ⟨it, 0, none⟩)) false ty).run P w = .ok (.tuple #[.bool false]) w ∧ ∀ x ∈ l, x ∈ done) ∨
  (∃ (k : K) (v : V) (w' : World), (k, v) ∈ l ∧ k ∉ done.map Prod.fst ∧ (Instr.next (.pointer (some ⟨it, 0, none⟩)) false ty).run P w = .ok (.tuple #[.bool true, ke k, ve v]) w' ∧ Chg [it] w w' ∧
   IterAt w' it m ke ve l (done ++ [(k, v)]) ∧ (Instr.entry (.pointer (some ⟨it, 0, none⟩))).run P w' = .ok (.tuple #[ke k, ve v]) w') := by
 obtain ⟨es, clk, since, c0, seen, ds, h1, h2, h2', h3, h4, h5, h6, h7, h8, h9, h10, h11, h12⟩ := h
 have keyuniq : ∀ e ∈ es.toList, ∀ e' ∈ es.toList, e.key = e'.key → e = e' := by
  intro e he e' he' hk
  obtain ⟨i, hi⟩ := List.getElem?_of_mem he
  obtain ⟨j, hj⟩ := List.getElem?_of_mem he'
  have pi : (l.map (fun (p : K × V) => (ke p.1, ve p.2)))[i]? = some (e.key, e.val) := by rw [← h5, List.getElem?_map, hi]; rfl
  have pj : (l.map (fun (p : K × V) => (ke p.1, ve p.2)))[j]? = some (e'.key, e'.val) := by rw [← h5, List.getElem?_map, hj]; rfl
  rw [List.getElem?_map] at pi pj
  cases li : l[i]? with
  | none => rw [li] at pi; cases pi
  | some a =>
   cases lj : l[j]? with
   | none => rw [lj] at pj; cases pj
   | some b =>
    rw [li] at pi; rw [lj] at pj
    simp at pi pj
    have hab : a.1 = b.1 := hinj _ _ (by rw [pi.1, pj.1, hk])
    have e1 : (l.map Prod.fst)[i]? = (l.map Prod.fst)[j]? := by simp [li, lj, hab]
    have hlt : i < (l.map Prod.fst).length := by have := (List.getElem?_eq_some_iff.1 li).1; simpa using this
    have := (List.getElem?_inj hlt h6).1 e1
    subst this
    rw [hi] at hj; cases hj; rfl
 rcases run_next_at (P := P) w ty it m since c0 seen es clk h1 h3 h4 h2 with ⟨k1, k2⟩ | ⟨e, he, w1, hw1, hrun⟩
 ·left
  refine ⟨k2, fun x hx => ?_⟩
  have hx' : (ke x.1, ve x.2) ∈ es.toList.map (fun (e : MapEntry) => (e.key, e.val)) := h5 ▸ List.mem_map.2 ⟨x, hx, rfl⟩
  obtain ⟨e, he, hee⟩ := List.mem_map.1 hx'
  have hseen : e.born ∈ seen.toList := by
   refine Classical.byContradiction fun hn => ?_
   have hl : e ∈ (leftOf es seen) := by
    unfold leftOf
    rw [Array.mem_filter]
    exact ⟨by simpa using he, by simpa using hn⟩
   have := Array.size_pos_of_mem hl
   omega
  rw [← h8] at hseen
  obtain ⟨d, hd, hde⟩ := List.mem_map.1 hseen
  have hdd : (d.key, d.val) ∈ done.map (fun (p : K × V) => (ke p.1, ve p.2)) := h10 ▸ List.mem_map.2 ⟨d, hd, rfl⟩
  obtain ⟨y, hy, hye⟩ := List.mem_map.1 hdd
  have hborn : d = e := by
   obtain ⟨i, hi⟩ := List.getElem?_of_mem (h9 d hd)
   obtain ⟨j, hj⟩ := List.getElem?_of_mem he
   have e1 : (es.toList.map (·.born))[i]? = (es.toList.map (·.born))[j]? := by rw [List.getElem?_map, List.getElem?_map, hi, hj]; simp [hde]
   have hlt : i < (es.toList.map (·.born)).length := by have := (List.getElem?_eq_some_iff.1 hi).1; simpa using this
   have := (List.getElem?_inj hlt h7).1 e1
   subst this
   rw [hi] at hj; cases hj; rfl
  have hk : y.1 = x.1 := hinj _ _ ((congrArg Prod.fst hye).trans (by rw [hborn]; exact congrArg Prod.fst hee))
  have hyl := h11 y hy
  have hxy : y = x := by
   have a1 : lookK y.1 l = some y.2 := (lookK_iff h6).2 hyl
   have a2 : lookK x.1 l = some x.2 := (lookK_iff h6).2 hx
   rw [hk, a2] at a1
   exact Prod.ext hk (by simpa using a1.symm)
  rw [← hxy]; exact hy
 ·right
  have he' : e ∈ es.toList ∧ e.born ∉ seen.toList := by
   unfold leftOf at he
   simpa using he
  have hm : (e.key, e.val) ∈ l.map (fun (p : K × V) => (ke p.1, ve p.2)) := h5 ▸ List.mem_map.2 ⟨e, he'.1, rfl⟩
  obtain ⟨⟨k, v⟩, hkl, hkv⟩ := List.mem_map.1 hm
  simp only [Prod.mk.injEq] at hkv
  obtain ⟨hk, hv⟩ := hkv
  have hnew : k ∉ done.map Prod.fst := by
   intro hmem
   obtain ⟨y, hy, rfl⟩ := List.mem_map.1 hmem
   have hyd : (ke y.1, ve y.2) ∈ ds.map (fun (e : MapEntry) => (e.key, e.val)) := h10 ▸ List.mem_map.2 ⟨y, hy, rfl⟩
   obtain ⟨d, hd, hde⟩ := List.mem_map.1 hyd
   have := keyuniq d (h9 d hd) e he'.1 ((congrArg Prod.fst hde).trans hk)
   subst this
   exact he'.2 (h8 ▸ List.mem_map.2 ⟨d, hd, rfl⟩)
  have hw1' : Chg [] w w1 := by rcases hw1 with rfl | rfl; exact Chg.refl _ _; exact Chg.drew _
  have hput : Chg [it] w1 (setBlock w1 it (.mapIter (some m) since (seen.push e.born) clk)) := Chg.put
  have hit1 := hw1'.obj (by simp) h1
  have hm1 := hw1'.obj (by simp) h3
  have hit2 : (setBlock w1 it (.mapIter (some m) since (seen.push e.born) clk)).heap[it]? = some (.mapIter (some m) since (seen.push e.born) clk) := (MapKept.heap_set hit1).1
  have hm2 := hput.obj (by simpa using Ne.symm hne) hm1
  refine ⟨k, v, _, hkl, hnew, by rw [hk, hv]; exact hrun, hw1'.nil.trans hput (fun _ h _ => h), ?_, ?_⟩
  ·refine ⟨es, clk, since, clk, seen.push e.born, ds ++ [e], hit2, h2', h2', hm2, h4, h5, h6, h7, by simp [h8], fun d hd => ?_, by simp [h10, hk, hv], fun x hx => ?_, ?_⟩
   ·rcases List.mem_append.1 hd with hd | hd
    ·exact h9 d hd
    ·simp at hd; rw [hd]; exact he'.1
   ·rcases List.mem_append.1 hx with hx | hx
    ·exact h11 x hx
    ·simp at hx; rw [hx]; exact hkl
   ·rw [List.map_append, List.nodup_append]
    refine ⟨h12, by simp, fun a ha b hb e => ?_⟩
    simp at hb; subst hb; subst e; exact hnew ha
  ·rw [hk, hv]
   exact run_entry_at _ it m since seen es clk e hit2 hm2 he'.1 h7
end
theorem nodup_sub_length {α : Type} : ∀ {a b : List α}, a.Nodup → (∀ x ∈ a, x ∈ b) → a.length ≤ b.length
 | [], _, _, _ => Nat.zero_le _
 | x :: a, b, h, hs => by
  obtain ⟨s, t, rfl⟩ := List.append_of_mem (hs x (.head _))
  have := nodup_sub_length (a := a) (b := s ++ t) (List.nodup_cons.1 h).2 (fun y hy => by
   have h1 := hs y (.tail _ hy)
   have hne : y ≠ x := fun e => (List.nodup_cons.1 h).1 (e ▸ hy)
   simp only [List.mem_append, List.mem_cons] at h1 ⊢
   rcases h1 with h1 | h1 | h1
   ·exact .inl h1
   ·exact absurd h1 hne
   ·exact .inr h1)
  simp at this ⊢; omega
def seenN (w : World) (it : Nat) : Nat := match w.heap[it]? with | some (.mapIter _ _ seen _) => seen.size | _ => 0
theorem IterAt.count {K V : Type} [DecidableEq K] {ke : K → Value} {ve : V → Value} {w : World} {it m : Nat} {l done : List (K × V)} (h : IterAt w it m ke ve l done) : seenN w it = done.length := by
 obtain ⟨es, clk, since, c0, seen, ds, h1, h2, h2', h3, h4, h5, h6, h7, h8, h9, h10, h11, h12⟩ := h
 unfold seenN
 rw [h1]
 have a := congrArg List.length h8
 have b := congrArg List.length h10
 simp at a b
 simp only []
 omega
theorem IterAt.more {K V : Type} [DecidableEq K] {ke : K → Value} {ve : V → Value} {w : World} {it m : Nat} {l done : List (K × V)} (h : IterAt w it m ke ve l done) {k : K} {v : V} (hk : (k, v) ∈ l) (hn : k ∉ done.map Prod.fst) : done.length < l.length := by
 obtain ⟨es, clk, since, c0, seen, ds, h1, h2, h2', h3, h4, h5, h6, h7, h8, h9, h10, h11, h12⟩ := h
 have := nodup_sub_length (a := k :: done.map Prod.fst) (b := l.map Prod.fst) (List.nodup_cons.2 ⟨hn, h12⟩) (fun x hx => by
  rcases List.mem_cons.1 hx with rfl | hx
  ·exact List.mem_map.2 ⟨_, hk, rfl⟩
  ·obtain ⟨y, hy, rfl⟩ := List.mem_map.1 hx
   exact List.mem_map.2 ⟨y, h11 y hy, rfl⟩)
 simp at this; omega
theorem IterAt.sub {K V : Type} [DecidableEq K] {ke : K → Value} {ve : V → Value} {w : World} {it m : Nat} {l done : List (K × V)} (h : IterAt w it m ke ve l done) : (∀ x ∈ done, x ∈ l) ∧ (done.map Prod.fst).Nodup ∧ (l.map Prod.fst).Nodup := by
 obtain ⟨es, clk, since, c0, seen, ds, h1, h2, h2', h3, h4, h5, h6, h7, h8, h9, h10, h11, h12⟩ := h
 exact ⟨h11, h12, h6⟩
end Go.X
end
section
/- Boxes of a function's own, of which nobody else knows: what stands in them. -/
namespace Go.X
open Go Go.RowKit
structure Boxes (w : World) (l : List (Nat × List Value × TypeId)) : Prop where
 heap : ∀ x ∈ l, w.heap[x.1]? = some (.cells x.2.1.toArray x.2.2 (0, 0))
 nodup : (l.map (·.1)).Nodup
def Same (w w' : World) (l : List Nat) : Prop := ∀ b ∈ l, w'.heap[b]? = w.heap[b]?
theorem Same.of {f : List Nat} {w w' : World} {l : List Nat} (h : Chg f w w') (hl : ∀ b ∈ l, b < w.heap.size ∧ b ∉ f) : Same w w' l := fun b hb => h.block b (hl b hb).1 (hl b hb).2
theorem Same.chg {w w' : World} {l : List Nat} (h : Chg [] w w') (hl : ∀ b ∈ l, b < w.heap.size) : Same w w' l := Same.of h fun b hb => ⟨hl b hb, by simp⟩
theorem Same.refl (w : World) (l : List Nat) : Same w w l := fun _ _ => rfl
section
variable {w w' w1 w0 : World} {l l' : List (Nat × List Value × TypeId)} {b o i : Nat} {cs cs' vs : List Value} {T : TypeId} {v : Value} {M : List Nat} {x : Obj}
theorem Boxes.nil (w : World) : Boxes w [] := ⟨by simp, by simp⟩
theorem Boxes.at (h : Boxes w l) (hi : l[i]? = some (b, cs, T)) : w.heap[b]? = some (.cells cs.toArray T (0, 0)) := h.heap _ (List.mem_of_getElem? hi)
theorem Boxes.chg {f : List Nat} (h : Boxes w l) (hc : Chg f w w1) (hf : ∀ x ∈ l, x.1 ∉ f) : Boxes w1 l := ⟨fun x hx => hc.obj (hf x hx) (h.heap x hx), h.nodup⟩
theorem Boxes.grow (h : Boxes w l) (hw : w1 = World.alloc w x) : Boxes w1 l := h.chg (f := []) (by subst hw; exact Chg.alloc _ _) (by simp)
theorem Boxes.drew (h : Boxes w l) (hw : w1 = World.drew w) : Boxes w1 l := h.chg (f := []) (by subst hw; exact Chg.drew _) (by simp)
theorem Boxes.alloc (h : Boxes w l) (hb : b = World.size w) (hw : w1 = World.alloc w (.cells cs.toArray T)) : Boxes w1 ((b, cs, T) :: l) := by
 have h1 := h.grow hw
 refine ⟨fun y hy => ?_, ?_⟩
 ·rcases List.mem_cons.1 hy with rfl | hy
  ·subst hb hw; exact heap_new w _
  ·exact h1.heap y hy
 ·rw [List.map_cons, List.nodup_cons]
  refine ⟨fun hm => ?_, h.nodup⟩
  obtain ⟨y, hy, e⟩ := List.mem_map.1 hm
  have := lt_of_heap (h.heap y hy)
  subst hb
  change y.1 = w.heap.size at e
  omega
theorem Boxes.same (h : Boxes w l) (hs : Same w w1 (l.map (·.1))) : Boxes w1 l := ⟨fun x hx => (hs _ (List.mem_map.2 ⟨x, hx, rfl⟩)).trans (h.heap x hx), h.nodup⟩
theorem sel_nodup : ∀ (is : List Nat), is.Nodup → (l.map (·.1)).Nodup → ((is.filterMap (fun i => l[i]?)).map (·.1)).Nodup
 | [], _, _ => by simp
 | i :: is, hi, hl => by
  have ih := sel_nodup is (List.nodup_cons.1 hi).2 hl
  rw [List.filterMap_cons]
  cases hx : l[i]? with
  | none => exact ih
  | some x =>
   simp only [List.map_cons, List.nodup_cons]
   refine ⟨fun hm => ?_, ih⟩
   obtain ⟨y, hy, e⟩ := List.mem_map.1 hm
   obtain ⟨j, hj, hjy⟩ := List.mem_filterMap.1 hy
   have h1 : (l.map (·.1))[i]? = some x.1 := by simp [hx]
   have h2 : (l.map (·.1))[j]? = some x.1 := by simp [hjy, e]
   have hlt : i < (l.map (·.1)).length := (List.getElem?_eq_some_iff.1 h1).1
   have : i = j := (List.getElem?_inj hlt hl).1 (h1.trans h2.symm)
   subst this
   exact (List.nodup_cons.1 hi).1 hj
theorem Boxes.sel (h : Boxes w l) (is : List Nat) (hn : is.Nodup) (hl : is.filterMap (fun i => l[i]?) = l') : Boxes w l' := by
 subst hl
 refine ⟨fun x hx => ?_, sel_nodup is hn h.nodup⟩
 obtain ⟨j, _, hj⟩ := List.mem_filterMap.1 hx
 exact h.heap x (List.mem_of_getElem? hj)
theorem Boxes.put (h : Boxes w l) (hi : l[i]? = some (b, cs, T)) (hc : Chg [b] w w1) (hb : w1.heap[b]? = some (.cells cs'.toArray T (0, 0))) : Boxes w1 (l.set i (b, cs', T)) := by
 have hm : (l.set i (b, cs', T)).map (·.1) = l.map (·.1) := by
  rw [List.map_set]
  apply List.ext_getElem?
  intro j
  rw [List.getElem?_set]
  split
  ·rename_i e; subst e
   split
   ·simp [hi]
   ·rename_i hlt
    rw [List.getElem?_eq_none (by omega)]
  ·rfl
 refine ⟨fun x hx => ?_, by rw [hm]; exact h.nodup⟩
 obtain ⟨j, hj⟩ := List.getElem?_of_mem hx
 rw [List.getElem?_set] at hj
 split at hj
 ·split at hj
  ·cases hj; exact hb
  ·cases hj
 ·rename_i hne
  have hx' := h.heap x (List.mem_of_getElem? hj)
  refine hc.obj (fun hm => ?_) hx'
  simp at hm
  have h1 : (l.map (·.1))[j]? = some b := by simp [hj, hm]
  have h2 : (l.map (·.1))[i]? = some b := by simp [hi]
  have hlt : i < (l.map (·.1)).length := (List.getElem?_eq_some_iff.1 h2).1
  exact hne ((List.getElem?_inj hlt h.nodup).1 (h2.trans h1.symm))
theorem Boxes.store (h : Boxes w l) (hi : l[i]? = some (b, cs, T)) (hc : cs.take o ++ vs ++ cs.drop (o + vs.length) = cs') (hl : l.set i (b, cs', T) = l') (hle : Nat.ble (o + vs.length) cs.length = true) (hw : w1 = setCells w ⟨b, o, none⟩ 0 vs) : Boxes w1 l' := by
 subst hl hw hc
 have hle' := Nat.le_of_ble_eq_true hle
 refine h.put hi (Chg.setCells ⟨b, o, none⟩ vs 0 w) ?_
 have h1 := h.at hi
 have e : cs = cs.take o ++ (cs.drop o).take vs.length ++ cs.drop (o + vs.length) := by
  rw [← List.drop_drop, List.append_assoc, List.take_append_drop, List.take_append_drop]
 have ho : (cs.take o).length = o := by rw [List.length_take]; omega
 have := setCells_mid (w := w) (b := b) (t := T) (pre := cs.take o) (zs := (cs.drop o).take vs.length) (post := cs.drop (o + vs.length)) (vs := vs) (by rw [List.length_take, List.length_drop]; omega) (by rw [← e]; exact h1)
 rwa [ho] at this
theorem Boxes.store1 (h : Boxes w l) (hi : l[i]? = some (b, cs, T)) (hc : cs.take o ++ [v] ++ cs.drop (o + 1) = cs') (hl : l.set i (b, cs', T) = l') (hle : Nat.ble (o + 1) cs.length = true) (hw : w1 = World.setCell w ⟨b, o, none⟩ v) : Boxes w1 l' :=
 h.store (vs := [v]) hi hc hl hle (by rw [hw]; simp only [setCells, add_at, Nat.add_zero])
theorem box_cell {fr : Nat × Nat} (h : w.heap[b]? = some (.cells cs.toArray T fr)) (hv : cs[o]? = some v) : w.cell? ⟨b, o, none⟩ = some v := by
 rw [cell_of h]; simpa using hv
theorem box_cells {fr : Nat × Nat} (h : w.heap[b]? = some (.cells cs.toArray T fr)) (hv : (cs.drop o).take vs.length = vs) : CellsAt w ⟨b, o, none⟩ 0 vs := by
 have : ∀ (vs : List Value) (k : Nat), (∀ j v, vs[j]? = some v → cs[o + k + j]? = some v) → CellsAt w ⟨b, o, none⟩ k vs := by
  intro vs
  induction vs with
  | nil => intro k _; trivial
  | cons v vs ih =>
   intro k hk
   refine ⟨by rw [add_at]; exact box_cell h (by simpa using hk 0 v rfl), ih (k + 1) fun j u hj => ?_⟩
   have := hk (j + 1) u (by simpa using hj)
   rwa [show o + k + (j + 1) = o + (k + 1) + j by omega] at this
 refine this vs 0 fun j v hj => ?_
 rw [← hv, List.getElem?_take] at hj
 split at hj
 ·rw [List.getElem?_drop] at hj; simpa using hj
 ·cases hj
theorem sil_lo (h : Chg M w0 w) (hb : b = World.size w) : w0.heap.size ≤ b := by subst hb; exact h.size
theorem sil_alloc (h : Chg M w0 w) (hw : w1 = World.alloc w x) : Chg M w0 w1 := by subst hw; exact h.trans (g := []) (Chg.alloc _ _) (by simp)
theorem sil_drew (h : Chg M w0 w) (hw : w1 = World.drew w) : Chg M w0 w1 := by subst hw; exact h.trans (g := []) (Chg.drew _) (by simp)
theorem sil_cN {q : Addr} (hw : w1 = setCells w q 0 vs) : Chg [q.block] w w1 := by subst hw; exact Chg.setCells _ _ _ _
theorem sil_c1 {q : Addr} (hw : w1 = World.setCell w q v) : Chg [q.block] w w1 := by subst hw; exact Chg.setCell _ _ _
theorem sil_new (h : Chg M w0 w) (hc : Chg [b] w w1) (hb : w0.heap.size ≤ b) : Chg M w0 w1 := h.trans hc (fun i hi hlt => by simp at hi; omega)
theorem sil_more (h : Chg M w0 w) (hc : Chg [b] w w1) : Chg (M ++ [b]) w0 w1 := (h.mono (fun i hi _ => List.mem_append_left _ hi)).trans hc (fun i hi _ => by simp at hi; simp [hi])
theorem equalIn_map_nil {P : Program} (d : Nat) {t k e : TypeId} (m : Option Nat) (h : P.underlying t = some (.map k e)) (w : World) : (Op.equalIn (d + 1) t (.map m) (.map none)).run P w = .ok m.isNone w := by
 cases m <;> simp [Op.equalIn, run_underlying h]
theorem map_nil_eq {P : Program} {T : TypeId} {x y : Operand} (hT : (match P.underlying T with | some (.map _ _) => true | _ => false) = true) (m : Option Nat) (w : World) :
  ((do eqGuard .eql T x y (.map m) (.map none); binOp .eql T (.map m) (.map none) : Sem Value)).run P w = .ok (.bool (Option.isNone m)) w := by
 have h1 : (eqGuard .eql T x y (.map m) (.map none)).run P w = .ok () w := by simp [eqGuard]
 simp only [Sem.run_bind, h1, Result.andThen_ok]
 cases hu : P.underlying T with
 | none => rw [hu] at hT; cases hT
 | some u =>
  rw [hu] at hT
  cases u with
  | map k e =>
   simp only [binOp]
   have : (Op.equal T (.map m) (.map none)).run P w = .ok m.isNone w := by
    exact equalIn_map_nil 9999 m hu w
   simp [this]
  | _ => cases hT
end
section
variable {P : Program} {N : Nat} {D : List Deferred} {E : Env} {w w' : World} {d : Option Nat} {T : TypeId} {p : String} {af : Array Edge} {g : Option (Nat × Bool)} {S : World → Prop} {v : Value}
theorem Rd.makeInterface {t : TypeId} {x : Operand} {vx : Value} (hx : opd E x = some vx) (hr : ∀ w, (Instr.makeInterface t vx).run P w = .ok v w) : Rd P N D E ⟨d, .makeInterface t x, T, p, af, g⟩ v S := fun a ha w _ => by
 simp [execOp, ha.eval hx, hr]
theorem Rd.typeAssert {t u : TypeId} {ok : Bool} {x : Operand} {vx : Value} (hx : opd E x = some vx) (hr : ∀ w, (Instr.typeAssert vx t u ok).run P w = .ok v w) : Rd P N D E ⟨d, .typeAssert x t u ok, T, p, af, g⟩ v S := fun a ha w _ => by
 simp [execOp, ha.eval hx, hr]
theorem Vl.extern {f : Nat} {args : Array Operand} {ts : Array TypeId} {vs : List Value} (hx : opdL E args.toList = some vs) (hr : (callFunc f vs.toArray).run P w = .ok (.value v) w') :
  Vl P N D E ⟨d, .call ⟨.value (.func f), args, ts⟩, T, p, af, g⟩ w v w' := fun a ha => by
 have h1 : args.map a.eval = vs.toArray := opdL_map ha hx
 simp [execOp, resolve, Act.eval, Deferred.ofValue, invoke, h1, hr]
end
end Go.X
end
section
/- Ranges over functions: the engine's rules within a round; what an iterator does; the statement. -/
namespace Go.XR
open Go Go.X Go.RowKit
def FR (ro : Option Nat) : Fence := { Fence.wide with round := ro }
theorem FR.fn (ro : Option Nat) (f : FuncId) : (FR ro).fn f := trivial
theorem FR.callsIn {ro : Option Nat} {n : Nat} {P : Program} {f : FuncId} {args : Array Value} {w : World} {R : Ending → World → Prop} (h : Calls P f args w R) : CallsIn (FR ro) n P f args w R := callsIn_wide.2 h
def isDefer (o : Oper) : Bool := match o.op with | .defer _ => true | _ => false
theorem semAt_of {ro : Option Nat} {o : Oper} (h : isDefer o = false) (ρ : Operand → Value) : Oper.semAt ro ρ o = execOp ρ o :=
 Oper.semAt_eq ro ρ o fun c hc => by simp [isDefer, hc] at h
section
variable {ro : Option Nat} {P : Program} {N : Nat} {D : List Deferred} {Q : Exit → Act → World → Prop} {E : Env} {w w' : World}
def CW (ro : Option Nat) (P : Program) (N : Nat) (D : List Deferred) (c : Code) (Q : Exit → Act → World → Prop) (E : Env) (w : World) : Prop := ∀ a, Sat N D E a → c.wpIn (FR ro) 0 P Q a w
theorem CW.plain {c : Code} (h : X.CW P N D c Q E w) : CW none P N D c Q E w := fun a ha => wpIn_wide.2 (h a ha)
theorem _root_.Go.X.CW.plain' {c : Code} (h : X.CW P N D c Q E w) : CW none P N D c Q E w := fun a ha => wpIn_wide.2 (h a ha)
theorem CW.un {c : Code} (h : CW none P N D c Q E w) : X.CW P N D c Q E w := fun a ha => wpIn_wide.1 (h a ha)
theorem CW.sub {c : Code} {F : Env} (s : Sub E F) (h : CW ro P N D c Q E w) : CW ro P N D c Q F w := fun a ha => h a (ha.sub s)
theorem CW.seq {x y : Code} (h : CW ro P N D x (Exit.then (y.wpIn (FR ro) 0 P Q) Q) E w) : CW ro P N D (.seq x y) Q E w := fun a ha => wpIn_seq (h a ha)
theorem NW.then {y : Code} (h : CW ro P N D y Q E w) : NW N D (Exit.then (y.wpIn (FR ro) 0 P Q) Q) E w := fun a ha => h a ha
theorem CW.skip (h : NW N D Q E w) : CW ro P N D .skip Q E w := fun a ha => wpIn_skip (h a ha)
theorem CW.label {l : Nat} (h : NW N D Q E w) : CW ro P N D (.label l) Q E w := fun a ha => wpIn_label (h a ha)
theorem CW.cond {c : Operand} {x y : Code} {b : Bool} (hc : opd E c = some (.bool b)) (h1 : b = true → CW ro P N D x Q E w) (h2 : b = false → CW ro P N D y Q E w) : CW ro P N D (.cond c x y) Q E w :=
 fun a ha => wpIn_cond_split (ha.eval hc) (fun hb => h1 hb a ha) (fun hb => h2 hb a ha)
theorem CW.block {id : Nat} {c : Code} (h : CW ro P N D c (Exit.inBlock id Q) E w) : CW ro P N D (.block id c) Q E w := fun a ha => wpIn_block (h a ha)
theorem CW.exit {id : Nat} (h : XW N D id Q E w) : CW ro P N D (.exit id) Q E w := fun a ha => wpIn_exit (h a ha)
theorem CW.ret (h : RW N D Q E w) : CW ro P N D .ret Q E w := fun a ha => wpIn_ret (h a ha)
theorem CW.goto {l : Nat} (h : GW N D l Q E w) : CW ro P N D (.goto l) Q E w := fun a ha => wpIn_goto (h a ha)
theorem CW.cut {S : Type} {x y : Code} (Ek : S → Env) (I : S → World → Prop) (hk : ∀ s w, I s w → CW ro P N D y Q (Ek s) w)
  (h : CW ro P N D x (Exit.then (fun a w => ∃ s, Sat N D (Ek s) a ∧ I s w) Q) E w) : CW ro P N D (.seq x y) Q E w := fun a ha =>
 wpIn_seq (wpIn_mono (h a ha) fun e a' w' hq => by
  cases e with
  | normal => obtain ⟨s, hs, hI⟩ := hq; exact hk s w' hI a' hs
  | _ => exact hq)
theorem CW.loop {S : Type} {c : Code} (El : S → Env) (I : S → World → Prop) (μ : S → World → Nat) (s₀ : S) (hs : Sub (El s₀) E) (hI : I s₀ w)
  (round : ∀ s w, I s w → CW ro P N D c (Exit.then (fun a' w' => ∃ s', Sat N D (El s') a' ∧ (I s' w' ∧ μ s' w' < μ s w)) Q) (El s) w) : CW ro P N D (.loop c) Q E w := by
 intro a ha b k cs hro hb hr
 have key : ∀ j s a w, μ s w = j → Sat N D (El s) a → I s w →
   ∃ e a' w', Q e a' w' ∧ ArrivesIn (Machine.fenced P (FR ro)) P (lone (b.atR a (.code c :: .inLoop c :: k)) cs w) b k cs e a' w' := by
  intro j
  induction j using Nat.strongRecOn with
  | _ j ih =>
   intro s a w hn ha hI
   obtain ⟨e, a₁, w₁, hq, harr⟩ := round s w hI a ha b (.inLoop c :: k) cs hro hb hr
   cases e with
   | normal =>
    obtain ⟨s', hs', hI', hlt⟩ := hq
    obtain ⟨e₂, a₂, w₂, hq₂, harr₂⟩ := ih (μ s' w₁) (hn ▸ hlt) s' a₁ w₁ rfl hs' hI'
    exact ⟨e₂, a₂, w₂, hq₂, .of_steps (StepsIn.trans harr (.one (fenced_calm hb hr rfl) stepR_inLoop)) harr₂⟩
   | exit id => exact ⟨_, a₁, w₁, hq, .pass (x := .inLoop c) rfl (fun _ _ => .inl (by simp)) harr⟩
   | goto l => exact ⟨_, a₁, w₁, hq, .pass (x := .inLoop c) rfl (fun _ _ => .inl (by simp)) harr⟩
   | ret => exact ⟨_, a₁, w₁, hq, .pass (x := .inLoop c) rfl (fun _ _ => .inl (by simp)) harr⟩
   | panic ch => exact ⟨_, a₁, w₁, hq, .pass (x := .inLoop c) rfl (fun _ _ => .inl (by simp)) harr⟩
   | outgrown => exact ⟨_, a₁, w₁, hq, .pass (x := .inLoop c) rfl (fun _ _ => .inl (by simp)) harr⟩
 obtain ⟨e, a', w', hq, harr⟩ := key _ s₀ a w rfl (ha.sub hs) hI
 exact ⟨e, a', w', hq, .of_steps (.one (fenced_calm hb hr rfl) stepR_loop) harr⟩
end
/-! ### A region in the text's order -/
def CallsY (P : Program) (fv : Value) (args : Array Value) (w : World) (R : Ending → World → Prop) : Prop :=
 X.CallsV P fv args w R ∨ ∃ l, fv = .func (.yield l) #[] #[] ∧ YieldAt Fence.wide 0 P l args w R
theorem CallsY.mono {P : Program} {fv : Value} {args : Array Value} {w : World} {R R' : Ending → World → Prop} (h : CallsY P fv args w R) (k : ∀ e w', R e w' → R' e w') : CallsY P fv args w R' := by
 rcases h with ⟨f, cap, fn, h1, h2, h3, h4, h5⟩ | ⟨l, h1, fn, tmps, as', bd, h2, h3⟩
 ·exact .inl ⟨f, cap, fn, h1, h2, h3, h4, h5.mono k⟩
 ·exact .inr ⟨l, h1, fn, tmps, as', bd, h2, h3.mono k⟩
section
variable {ro : Option Nat} {P : Program} {N : Nat} {D : List Deferred} {ops : Array Oper} {Q : Exit → Act → World → Prop} {E : Env} {w w' : World} {L : Nat → Env → World → Prop} {i : Nat} {o : Oper} {v : Value}
def LW (ro : Option Nat) (P : Program) (N : Nat) (D : List Deferred) (ops : Array Oper) (Q : Exit → Act → World → Prop) (i : Nat) (E : Env) (w : World) : Prop :=
 ∀ a, Sat N D E a → wpListIn (FR ro) 0 P ops Q (ops.toList.drop i) a w
theorem CW.region {id : Nat} (h : ∀ L, L = LW ro P N D ops Q → L 0 E w) : CW ro P N D (.region id ops false) Q E w :=
 fun a ha => wpIn_region_list (by have := h _ rfl a ha; simpa using this)
theorem LW.step (hL : L = LW ro P N D ops Q) (ho : ops[i]? = some o) (hw : Wants N ops E o)
  (h : ∀ a, Sat N D E a → o.wpIn (FR ro) 0 P a w (wpListIn (FR ro) 0 P ops Q (ops.toList.drop (i + 1))) Q) : L i E w := by
 subst hL
 intro a ha
 rw [drop_at ho]
 unfold wpListIn
 rw [if_pos (hw _ _ ha)]
 exact h a ha
theorem LW.val (hL : L = LW ro P N D ops Q) (ho : ops[i]? = some o) (hw : Wants N ops E o) (hd : okd N o.dst = true)
  (hv : ∀ a, Sat N D E a → (execOp a.eval o).run P w = .ok (.value v) w') (k : L (i + 1) (putE o.dst v E) w') (hn : isDefer o = false := by rfl) : L i E w :=
 LW.step hL ho hw fun a ha => by
  refine ⟨fun _ _ => trivial, ?_⟩
  rw [semAt_of hn, hv a ha, Oper.uponIn_value]
  rw [hL] at k; exact k _ (ha.put hd)
theorem LW.rd (hL : L = LW ro P N D ops Q) (ho : ops[i]? = some o) (hw : Wants N ops E o) (hd : okd N o.dst = true)
  (hv : Rd P N D E o v (fun w' => w' = w)) (k : L (i + 1) (putE o.dst v E) w) (hn : isDefer o = false := by rfl) : L i E w := LW.val hL ho hw hd (fun a ha => hv a ha w rfl) k hn
theorem LW.eff (hL : L = LW ro P N D ops Q) (ho : ops[i]? = some o) (hw : Wants N ops E o) (hd : okd N o.dst = true)
  (hv : ∀ a, Sat N D E a → (execOp a.eval o).run P w = .ok .skip w') (k : L (i + 1) (putE o.dst undef E) w') (hn : isDefer o = false := by rfl) : L i E w :=
 LW.step hL ho hw fun a ha => by
  refine ⟨fun _ _ => trivial, ?_⟩
  rw [semAt_of hn, hv a ha, Oper.uponIn_skip]
  rw [hL] at k; exact k _ (ha.put hd)
theorem LW.call {f : Nat} {args : Array Value} {R : Ending → World → Prop} (hL : L = LW ro P N D ops Q) (ho : ops[i]? = some o) (hw : Wants N ops E o) (hd : okd N o.dst = true)
  (hv : ∀ a, Sat N D E a → (execOp a.eval o).run P w = .ok (.enter f args) w') (hc : Calls P f args w' R)
  (k : ∀ e w'', R e w'' → ∃ v, e = .returned v ∧ L (i + 1) (putE o.dst v E) w'') (hn : isDefer o = false := by rfl) : L i E w :=
 LW.step hL ho hw fun a ha => by
  refine ⟨fun _ _ => trivial, ?_⟩
  rw [semAt_of hn, hv a ha, Oper.uponIn_enter]
  refine ⟨fun h => (by cases h), FR.callsIn (hc.mono fun e w'' hR => ?_)⟩
  obtain ⟨v, rfl, hk⟩ := k e w'' hR
  rw [hL] at hk; exact hk _ (ha.put hd)
theorem LW.skip (hL : L = LW ro P N D ops Q) (ho : ops[i]? = some o) (hs : Skips N ops E o) (hd : okd N o.dst = true) (k : L (i + 1) (putE o.dst undef E) w) : L i E w := by
 subst hL
 intro a ha
 rw [drop_at ho]
 unfold wpListIn
 rw [if_neg (by rw [hs _ _ ha]; simp)]
 exact ⟨fun _ _ => trivial, k _ (ha.put hd)⟩
theorem LW.nil (hL : L = LW ro P N D ops Q) (hi : ops[i]? = none) (k : NW N D Q E w) : L i E w := by
 subst hL
 intro a ha
 have : ops.toList.drop i = [] := List.drop_eq_nil_of_le (by simpa using hi)
 rw [this]; exact k a ha
theorem LW.sub (hL : L = LW ro P N D ops Q) {F : Env} (s : Sub E F) (k : L i E w) : L i F w := by
 subst hL; exact fun a ha => k a (ha.sub s)
theorem LW.callY {x : Operand} {args : Array Operand} {ts : Array TypeId} {d : Option Nat} {T : TypeId} {p : String} {af : Array Edge} {gd : Option (Nat × Bool)} {fv : Value} {vs : List Value} {R : Ending → World → Prop}
  (hL : L = LW none P N D ops Q) (ho : ops[i]? = some ⟨d, .call ⟨.value x, args, ts⟩, T, p, af, gd⟩) (hw : Wants N ops E ⟨d, .call ⟨.value x, args, ts⟩, T, p, af, gd⟩) (hd : okd N d = true)
  (hx : opd E x = some fv) (ha' : opdL E args.toList = some vs) (hc : CallsY P fv vs.toArray w R)
  (k : ∀ e w'', R e w'' → ∃ v, e = .returned v ∧ L (i + 1) (putE d v E) w'') : L i E w := by
 rcases hc with ⟨f, cap, fn, rfl, h2, h3, h4, h5⟩ | ⟨l, rfl, fn, tmps, as', bd, h2, h3⟩
 ·exact LW.call hL ho hw hd (Cl.fv hx ha' h2 h3 h4) h5 k
 ·refine LW.step hL ho hw fun a ha => ⟨fun _ _ => trivial, ?_⟩
  have e1 : (execOp a.eval ⟨d, .call ⟨.value x, args, ts⟩, T, p, af, gd⟩).run P w = .ok (.round l fn tmps as' bd) w := by
   have e2 : args.map a.eval = vs.toArray := opdL_map ha ha'
   simp [execOp, resolve, ha.eval hx, Deferred.ofValue, invoke, e2, h2]
  rw [semAt_of rfl, e1, Oper.uponIn_round]
  refine ⟨fun h => (by cases h), h3.mono fun e w'' hR => ?_⟩
  obtain ⟨v, rfl, hk⟩ := k e w'' hR
  rw [hL] at hk; exact hk _ (ha.put hd)
end
/-! ### Iterators, and the statement -/
def InO (w0 : World) (O : List Nat) (W : World) : Prop := ∀ i ∈ O, w0.heap.size ≤ i ∧ i < W.heap.size
def Stab (w0 : World) (I : List Nat → World → Prop) : Prop := ∀ O O' W W', I O W → InO w0 O W → Chg O W W' → InO w0 O' W' → (∀ i ∈ O', i ∈ O ∨ W.heap.size ≤ i) → I O' W'
def Iterates {α : Type} (P : Program) (fv : Value) (enc : α → Array Value) (S Sp : List α → Prop) (keep : List Nat) (w : World) : Prop :=
 ∀ (W : World) (yv : Value) (I Ix : List Nat → List α → World → Prop), Chg [] w W → (∀ pre, Stab W (fun O => I O pre)) → (∀ pre, Stab W (fun O => Ix O pre)) → I [] [] W →
  (∀ Own pre x W1, InO W Own W1 → Sp (pre ++ [x]) → I Own pre W1 → CallsY P yv (enc x) W1 fun e W' => W1.heap.size ≤ W'.heap.size ∧
   ((e = .returned (.bool true) ∧ I Own (pre ++ [x]) W' ∧ Same W1 W' (keep ++ Own)) ∨ (e = .returned (.bool false) ∧ Ix Own (pre ++ [x]) W'))) →
  X.CallsV P fv #[yv] W fun e W' => (∃ v, e = .returned v) ∧ ∃ Own, InO W Own W' ∧ ((∃ xs, S xs ∧ I Own xs W') ∨ ∃ pre, Sp pre ∧ Ix Own pre W')
def envPs : List Tmp → List Value → Env → Env
 | p :: ps, v :: vs, E => envPs ps vs ((p, v) :: E)
 | _, _, E => E
theorem sat_ps {N : Nat} : ∀ (ps : List Tmp) (vs : List Value) (E : Env) (tmps : Array Value), (∀ p ∈ ps, Nat.blt p N = true) → Sat N [] E { tmps := tmps, defers := [] } →
  Sat N [] (envPs ps vs E) { tmps := (ps.zip vs).foldl (fun t (p, v) => t.setIfInBounds p v) tmps, defers := [] }
 | [], _, E, tmps, _, h => by simpa [envPs] using h
 | p :: ps, [], E, tmps, _, h => by simpa [envPs] using h
 | p :: ps, v :: vs, E, tmps, hp, h => by
  have h1 : Sat N [] ((p, v) :: E) { tmps := tmps.setIfInBounds p v, defers := [] } := by
   have := h.put (d := some p) (v := v) (by simpa [okd] using hp p (.head _))
   simpa [putE, Act.put] using this
  simpa [envPs] using sat_ps ps vs ((p, v) :: E) _ (fun q hq => hp q (.tail _ hq)) h1
theorem Chg.putObj {w : World} {l : Nat} (o : Obj) : Chg [l] w (w.putObj l o) := Chg.put
section
variable {P : Program} {N : Nat} {D : List Deferred} {Q : Exit → Act → World → Prop} {E : Env} {w : World} {α : Type}
def EndQ (keep O : List Nat) (I : List Nat → List α → World → Prop) (Ix : Code → List Nat → List α → World → Prop) (pre : List α) (W₂ : World) : Exit → Act → World → Prop
 | .normal, _, W' => W₂.heap.size ≤ W'.heap.size ∧ I O pre W' ∧ Same W₂ W' (keep ++ O)
 | .ret, _, W' => W₂.heap.size ≤ W'.heap.size ∧ Ix .ret O pre W' ∧ Same W₂ W' (keep ++ O)
 | .exit id, _, W' => W₂.heap.size ≤ W'.heap.size ∧ Ix (.exit id) O pre W' ∧ Same W₂ W' (keep ++ O)
 | .goto t, _, W' => W₂.heap.size ≤ W'.heap.size ∧ Ix (.goto t) O pre W' ∧ Same W₂ W' (keep ++ O)
 | .panic _, _, _ => False
 | .outgrown, _, _ => False
def BeginK (P : Program) (l : Nat) (keep O : List Nat) (I : List Nat → List α → World → Prop) (Ix : Code → List Nat → List α → World → Prop) (pre : List α) (x : α) (body : Code) (W : World) (a₁ : Act) (W₁ : World) : Prop :=
 Chg [] W W₁ ∧ ∀ W₂, Chg [l] W₁ W₂ → InO W O W₂ ∨ True → (∃ r, W₁.heap[l]? = some (.loop r)) → I O pre W₂ → body.wpIn (FR (some l)) 0 P (EndQ keep O I Ix (pre ++ [x]) W₂) a₁ W₂
def mk (d : Nat) : Deferred := { target := .collected d, args := #[] }
theorem CW.rangeFunc {g : Operand} {ps : Array Tmp} {assign body : Code} {gf : Nat} {fn : Func} {lb : Array Value} (hg : opd E g = some (.func (.func gf) #[] lb)) (hgf : P.funcs[gf]? = some fn) (hgn : (fn.name == "runtime.NumGoroutine") = false) (hgb : fn.body.isNone = false)
  {enc : α → Array Value} (hps : ∀ x, (enc x).size = ps.size) (hpN : ∀ p ∈ ps.toList, Nat.blt p N = true) {S Sp : List α → Prop} {keep : List Nat} (hseq : Iterates P (.func (.func gf) #[] lb) enc S Sp keep w)
  (I : List Nat → List α → World → Prop) (Ix : Code → List Nat → List α → World → Prop) (hI : ∀ pre, Stab w (fun O => I O pre)) (hIx : ∀ c pre, Stab w (fun O => Ix c O pre))
  (h0 : ∀ O W, Chg [] w W → InO w O W → I O [] W) (hkeep : ∀ i ∈ keep, i < w.heap.size)
  (hround : ∀ (l : Nat) (O : List Nat) (pre : List α) (x : α) (W : World), InO w O W → l ∈ O → Sp (pre ++ [x]) → I O pre W →
   CW (some l) P N [] assign (Exit.then (BeginK P l keep O I Ix pre x body W) (fun _ _ _ => False)) (envPs ps.toList (enc x).toList E) W)
  (hdone : ∀ (d : Nat) (O : List Nat) (xs : List α) (W : World), InO w O W → d ∈ O → W.heap[d]? = some (.deferred (some [])) → S xs → I O xs W → NW N (mk d :: D) Q E W)
  (hstop : ∀ (d : Nat) (c : Code) (O : List Nat) (pre : List α) (W : World), InO w O W → d ∈ O → W.heap[d]? = some (.deferred (some [])) → Sp pre → Ix c O pre W → CW none P N (mk d :: D) c Q E W) :
  CW none P N D (.rangeFunc g ps assign body) Q E w := by
 intro a ha
 refine wpIn_rangeFunc ?_
 intro fnc hfn
 have hro : (FR none).round = none := rfl
 rw [hro]
 obtain ⟨rec, hrec⟩ : ∃ rec : LoopState → Option Code → Loop, rec = fun st pe => { state := st, pending := pe, fn := fnc, tmps := a.tmps, params := ps, assign, body, defers := w.heap.size } := ⟨_, rfl⟩
 obtain ⟨W1, hW1⟩ : ∃ W1, (w.alloc (.deferred (some []))).alloc (.loop (rec .ready none)) = W1 := ⟨_, rfl⟩
 have hL1 : W1.heap[w.heap.size + 1]? = some (.loop (rec .ready none)) := by
  rw [← hW1]; have := World.alloc_heap_new (w.alloc (.deferred (some []))) (.loop (rec .ready none)); rwa [World.size_alloc] at this
 have hK1 : W1.heap[w.heap.size]? = some (.deferred (some [])) := by
  rw [← hW1]; exact (Below.heap_alloc _ _ _ (by simp)).trans (World.alloc_heap_new w _)
 have c1 : Chg [] w W1 := by rw [← hW1]; exact (Chg.alloc _ _).trans0 (Chg.alloc _ _)
 have hs1 : W1.heap.size = w.heap.size + 2 := by rw [← hW1]; simp
 generalize hl : w.heap.size + 1 = l at hL1
 have hsat0 : Sat N [] E { tmps := a.tmps, defers := [] } := ⟨ha.size, rfl, ha.get⟩
 refine ⟨l, [mk w.heap.size], W1, { target := .fn (.func gf) lb, args := #[.func (.yield l) #[] #[]] }, W1, gf, #[.func (.yield l) #[] #[]] ++ lb, W1, ?_, ?_, ?_, ?_, fun h => (by cases h), ?_⟩
 ·rw [← hW1, hrec, ← hl]; exact run_enterLoop_outer _ _ _ _ _
 ·simp only [resolve, ha.eval hg]
  simp [go_sem]
 ·intro f' hf'; trivial
 ·simp [invoke, go_sem, run_call hgf hgn hgb]
 refine FR.callsIn ?_
 have hOK : ∀ (A B : World) (Own Own' : List Nat), InO W1 Own A → InO W1 Own' B → (∀ i ∈ Own', i ∈ Own ∨ A.heap.size ≤ i) → Chg Own A B → W1.heap.size ≤ A.heap.size →
   InO w (Own ++ [l, w.heap.size]) A ∧ InO w (Own' ++ [l, w.heap.size]) B ∧ (∀ i ∈ Own' ++ [l, w.heap.size], i ∈ Own ++ [l, w.heap.size] ∨ A.heap.size ≤ i) ∧ Chg (Own ++ [l, w.heap.size]) A B ∧ l ∉ Own ∧ w.heap.size ∉ Own := by
  intro A B Own Own' h1 h2 h3 h4 h5
  have h6 := h4.size
  refine ⟨fun i hi => ?_, fun i hi => ?_, fun i hi => ?_, h4.mono (fun i hi _ => List.mem_append_left _ hi), fun hm => ?_, fun hm => ?_⟩
  ·rcases List.mem_append.1 hi with hi | hi
   ·have := h1 i hi; omega
   ·simp at hi; omega
  ·rcases List.mem_append.1 hi with hi | hi
   ·have := h2 i hi; omega
   ·simp at hi; omega
  ·rcases List.mem_append.1 hi with hi | hi
   ·exact (h3 i hi).imp (List.mem_append_left _) id
   ·exact .inl (List.mem_append_right _ hi)
  ·have := h1 _ hm; omega
  ·have := h1 _ hm; omega
 have hit := hseq W1 (.func (.yield l) #[] #[])
  (fun Own pre W => I (Own ++ [l, w.heap.size]) pre W ∧ W1.heap.size ≤ W.heap.size ∧ W.heap[l]? = some (.loop (rec .ready none)) ∧ W.heap[w.heap.size]? = some (.deferred (some [])))
  (fun Own pre W => ∃ c, Ix c (Own ++ [l, w.heap.size]) pre W ∧ W1.heap.size ≤ W.heap.size ∧ W.heap[l]? = some (.loop (rec .done (some c))) ∧ W.heap[w.heap.size]? = some (.deferred (some [])))
  c1
  (fun pre Own Own' A B h hO hc hO' hg => by
   obtain ⟨k1, k2, k3, k4, k5, k6⟩ := hOK A B Own Own' hO hO' hg hc h.2.1
   exact ⟨hI pre _ _ A B h.1 k1 k4 k2 k3, by have := hc.size; have := h.2.1; omega, hc.obj k5 h.2.2.1, hc.obj k6 h.2.2.2⟩)
  (fun pre Own Own' A B h hO hc hO' hg => by
   obtain ⟨c, h1, h2, h3, h4⟩ := h
   obtain ⟨k1, k2, k3, k4, k5, k6⟩ := hOK A B Own Own' hO hO' hg hc h2
   exact ⟨c, hIx c pre _ _ A B h1 k1 k4 k2 k3, by have := hc.size; omega, hc.obj k5 h3, hc.obj k6 h4⟩)
  ⟨h0 _ W1 c1 (fun i hi => by simp at hi; omega), Nat.le_refl _, hL1, hK1⟩ ?_
 ·obtain ⟨f', cap', fn', he, hf', hn', hb', hcalls⟩ := hit
  cases he
  refine hcalls.mono ?_
  rintro e W' ⟨⟨v, rfl⟩, Own, hOwn, hres⟩
  have hsz : ∀ {A : World} (o : Obj), (A.putObj l o).heap.size = A.heap.size := fun o => by simp [World.putObj]
  have hInO : ∀ {A : World}, W1.heap.size ≤ A.heap.size → InO W1 Own A → InO w (Own ++ [l, w.heap.size]) A := fun h1 h2 i hi => by
   rcases List.mem_append.1 hi with hi | hi
   ·have := h2 i hi; omega
   ·simp at hi; omega
  have hput : ∀ {A : World} (o : Obj) (J : List Nat → World → Prop), Stab w J → W1.heap.size ≤ A.heap.size → InO W1 Own A → J (Own ++ [l, w.heap.size]) A → J (Own ++ [l, w.heap.size]) (A.putObj l o) := fun o J hJ h1 h2 hj =>
   hJ _ _ _ _ hj (hInO h1 h2) ((Chg.putObj o).mono (fun i hi _ => by simp at hi; simp [hi])) (by
    have := hInO h1 h2
    intro i hi; rw [hsz]; exact this i hi) (fun i hi => .inl hi)
  rcases hres with ⟨xs, hS, hi, hle, hlp, hk⟩ | ⟨pre, hSp, c, hi, hle, hlp, hk⟩
  ·refine ⟨none, _, by have := run_endLoop (P := P) hlp (by rw [hrec]; simp); rw [hrec] at this; exact this, ?_⟩
   have hA : Sat N (mk w.heap.size :: D) E { a with defers := [mk w.heap.size] ++ a.defers } := ⟨ha.size, by simp [ha.defers], ha.get⟩
   exact hdone w.heap.size (Own ++ [l, w.heap.size]) xs _ (fun i hi' => by rw [hsz]; exact hInO hle hOwn i hi') (by simp) ((World.putObj_heap_other (by omega)).trans hk) hS (hput _ (fun O => I O xs) (hI xs) hle hOwn hi) _ hA
  ·refine ⟨some c, _, by have := run_endLoop (P := P) hlp (by rw [hrec]; simp); rw [hrec] at this; exact this, ?_⟩
   have hA : Sat N (mk w.heap.size :: D) E { a with defers := [mk w.heap.size] ++ a.defers } := ⟨ha.size, by simp [ha.defers], ha.get⟩
   exact hstop w.heap.size c (Own ++ [l, w.heap.size]) pre _ (fun i hi' => by rw [hsz]; exact hInO hle hOwn i hi') (by simp) ((World.putObj_heap_other (by omega)).trans hk) hSp (hput _ (fun O => Ix c O pre) (hIx c pre) hle hOwn hi) _ hA
 ·rintro Own pre x W hOwn hSp ⟨hI0, hle, hlp, hk⟩
  have hlt : l < W.heap.size := lt_of_heap hlp
  have hy := run_yield (P := P) (args := enc x) hlp (by rw [hrec]; exact hps x)
  rw [hrec] at hy
  have hInO : InO w (Own ++ [l, w.heap.size]) W := fun i hi => by
   rcases List.mem_append.1 hi with hi | hi
   ·have := hOwn i hi; omega
   ·simp at hi; omega
  have hrd := hround l (Own ++ [l, w.heap.size]) pre x W hInO (by simp) hSp hI0
  have hsat := sat_ps ps.toList (enc x).toList E a.tmps hpN hsat0
  have hr2 := hrd _ hsat
  have htm : (ps.zip (enc x)).foldl (fun t (p, v) => t.setIfInBounds p v) a.tmps = (ps.toList.zip (enc x).toList).foldl (fun t (p, v) => t.setIfInBounds p v) a.tmps := by
   rw [← Array.foldl_toList, Array.toList_zip]
  refine .inr ⟨l, rfl, fnc, _, assign, body, hy, ?_⟩
  rw [htm]
  refine roundIn_of_wpIn (F := Fence.wide) trivial ?_
  refine wpIn_mono hr2 ?_
  intro e a₁ W₁ hq
  cases e with
  | normal =>
   obtain ⟨hc1, hbody⟩ := hq
   have hl1 := hc1.obj (by simp) hlp
   have hk1 := hc1.obj (by simp) hk
   have hW2 := run_beginRound (P := P) hl1 (by rw [hrec])
   refine ⟨_, hW2, ?_⟩
   generalize hW2e : W₁.putObj l (.loop { rec .ready none with state := .busy }) = W₂ at hW2
   have c2 : Chg [l] W₁ W₂ := by rw [← hW2e]; exact Chg.putObj _
   have hl2 : W₂.heap[l]? = some (.loop { rec .ready none with state := .busy }) := by rw [← hW2e]; exact World.putObj_heap_same (lt_of_heap hl1)
   have hk2 : W₂.heap[w.heap.size]? = some (.deferred (some [])) := by rw [← hW2e]; exact (World.putObj_heap_other (by omega)).trans hk1
   have hs12 := hc1.size
   have hs22 := c2.size
   have hInO2 : InO w (Own ++ [l, w.heap.size]) W₂ := fun i hi => by have := hInO i hi; omega
   have hI2 : I (Own ++ [l, w.heap.size]) pre W₂ := by
    have h1 := hI pre _ (Own ++ [l, w.heap.size]) W W₁ hI0 hInO (hc1.mono (by simp)) (fun i hi => by have := hInO i hi; omega) (fun i hi => .inl hi)
    exact hI pre _ (Own ++ [l, w.heap.size]) W₁ W₂ h1 (fun i hi => by have := hInO i hi; omega) (c2.mono (fun i hi _ => by simp at hi; simp [hi])) hInO2 (fun i hi => .inl hi)
   have hb := hbody W₂ c2 (.inr trivial) ⟨_, hl1⟩ hI2
   refine wpIn_mono hb ?_
   have hsz : ∀ {A : World} (o : Obj), (A.putObj l o).heap.size = A.heap.size := fun o => by simp [World.putObj]
   have hput : ∀ {A : World} (o : Obj) (J : List Nat → World → Prop), Stab w J → W₂.heap.size ≤ A.heap.size → J (Own ++ [l, w.heap.size]) A → J (Own ++ [l, w.heap.size]) (A.putObj l o) := fun {A} o J hJ hle hj => by
    have hin : InO w (Own ++ [l, w.heap.size]) A := fun i hi => by have := hInO2 i hi; omega
    exact hJ _ _ _ _ hj hin ((Chg.putObj o).mono (fun i hi _ => by simp at hi; simp [hi])) (fun i hi => by rw [hsz]; exact hin i hi) (fun i hi => .inl hi)
   have hsame : ∀ {A : World} (o : Obj), Same W₂ A (keep ++ (Own ++ [l, w.heap.size])) → Same W (A.putObj l o) (keep ++ Own) := fun {A} o hs i hi => by
    have hne : i ≠ l := fun e => by
     subst e
     rcases List.mem_append.1 hi with h | h
     ·have := hkeep _ h; omega
     ·have := hOwn _ h; omega
    have hiW : i < W.heap.size := by
     rcases List.mem_append.1 hi with h | h
     ·have := hkeep _ h; have := c1.size; omega
     ·exact (hOwn _ h).2
    rw [World.putObj_heap_other hne, hs i (by
     rcases List.mem_append.1 hi with h | h
     ·exact List.mem_append_left _ h
     ·exact List.mem_append_right _ (List.mem_append_left _ h)), c2.block i (by omega) (by simpa using hne), hc1.block i hiW (by simp)]
   have fin : ∀ (jump : Option Code) (A : World), Same W₂ A (keep ++ (Own ++ [l, w.heap.size])) →
     (Instr.endRound l jump).run P A = .ok (.bool jump.isNone) (A.putObj l (.loop (rec (if jump.isNone then .ready else .done) jump))) ∧ (A.putObj l (.loop (rec (if jump.isNone then .ready else .done) jump))).heap[l]? = some (.loop (rec (if jump.isNone then .ready else .done) jump)) ∧
     (A.putObj l (.loop (rec (if jump.isNone then .ready else .done) jump))).heap[w.heap.size]? = some (.deferred (some [])) := fun jump A hs => by
    have hlA : A.heap[l]? = some (.loop { rec .ready none with state := .busy }) := (hs l (by simp)).trans hl2
    have hkA : A.heap[w.heap.size]? = some (.deferred (some [])) := (hs w.heap.size (by simp)).trans hk2
    have := run_endRound (P := P) jump hlA
    rw [hrec] at this ⊢
    exact ⟨this, World.putObj_heap_same (lt_of_heap hlA), (World.putObj_heap_other (by omega)).trans hkA⟩
   intro e a₃ A hp
   cases e with
   | normal =>
    obtain ⟨hle3, hi3, hs3⟩ := hp
    obtain ⟨f1, f2, f3⟩ := fin none A hs3
    exact ⟨_, _, f1, by rw [hsz]; omega, .inl ⟨rfl, ⟨hput _ (fun O => I O (pre ++ [x])) (hI _) hle3 hi3, by rw [hsz]; omega, f2, f3⟩, hsame _ hs3⟩⟩
   | ret =>
    obtain ⟨hle3, hi3, hs3⟩ := hp
    obtain ⟨f1, f2, f3⟩ := fin (some .ret) A hs3
    exact ⟨_, _, f1, by rw [hsz]; omega, .inr ⟨rfl, .ret, hput _ (fun O => Ix .ret O (pre ++ [x])) (hIx _ _) hle3 hi3, by rw [hsz]; omega, f2, f3⟩⟩
   | exit id =>
    obtain ⟨hle3, hi3, hs3⟩ := hp
    obtain ⟨f1, f2, f3⟩ := fin (some (.exit id)) A hs3
    exact ⟨_, _, f1, by rw [hsz]; omega, .inr ⟨rfl, .exit id, hput _ (fun O => Ix (.exit id) O (pre ++ [x])) (hIx _ _) hle3 hi3, by rw [hsz]; omega, f2, f3⟩⟩
   | goto t =>
    obtain ⟨hle3, hi3, hs3⟩ := hp
    obtain ⟨f1, f2, f3⟩ := fin (some (.goto t)) A hs3
    exact ⟨_, _, f1, by rw [hsz]; omega, .inr ⟨rfl, .goto t, hput _ (fun O => Ix (.goto t) O (pre ++ [x])) (hIx _ _) hle3 hi3, by rw [hsz]; omega, f2, f3⟩⟩
   | panic ch => exact hp.elim
   | outgrown => exact hp.elim
  | exit id => exact hq.elim
  | goto t => exact hq.elim
  | ret => exact hq.elim
  | panic ch => exact hq.elim
  | outgrown => exact hq.elim
theorem NW.begin {l : Nat} {keep O : List Nat} {I : List Nat → List α → World → Prop} {Ix : Code → List Nat → List α → World → Prop} {pre : List α} {x : α} {body : Code} {W W₁ : World} {Q' : Exit → Act → World → Prop}
  (hc : Chg [] W W₁) (h : ∀ W₂, Chg [l] W₁ W₂ → (∃ r, W₁.heap[l]? = some (.loop r)) → I O pre W₂ → CW (some l) P N [] body (EndQ keep O I Ix (pre ++ [x]) W₂) E W₂) :
  NW N [] (Exit.then (BeginK P l keep O I Ix pre x body W) Q') E W₁ := fun a ha => ⟨hc, fun W₂ c _ hl hi => h W₂ c hl hi a ha⟩
def IsFn (P : Program) (fv : Value) : Prop := ∃ gf fn lb, fv = .func (.func gf) #[] lb ∧ P.funcs[gf]? = some fn ∧ (fn.name == "runtime.NumGoroutine") = false ∧ fn.body.isNone = false
theorem CW.rangeV {g : Operand} {ps : Array Tmp} {assign body : Code} {fv : Value} (hg : opd E g = some fv) (hf : IsFn P fv)
  {enc : α → Array Value} (hps : ∀ x, (enc x).size = ps.size) (hpN : ∀ p ∈ ps.toList, Nat.blt p N = true) {S Sp : List α → Prop} {keep : List Nat} (hseq : Iterates P fv enc S Sp keep w)
  (I : List Nat → List α → World → Prop) (Ix : Code → List Nat → List α → World → Prop) (hI : ∀ pre, Stab w (fun O => I O pre)) (hIx : ∀ c pre, Stab w (fun O => Ix c O pre))
  (h0 : ∀ O W, Chg [] w W → InO w O W → I O [] W) (hkeep : ∀ i ∈ keep, i < w.heap.size)
  (hround : ∀ (l : Nat) (O : List Nat) (pre : List α) (x : α) (W : World), InO w O W → l ∈ O → Sp (pre ++ [x]) → I O pre W →
   CW (some l) P N [] assign (Exit.then (BeginK P l keep O I Ix pre x body W) (fun _ _ _ => False)) (envPs ps.toList (enc x).toList E) W)
  (hdone : ∀ (d : Nat) (O : List Nat) (xs : List α) (W : World), InO w O W → d ∈ O → W.heap[d]? = some (.deferred (some [])) → S xs → I O xs W → NW N (mk d :: D) Q E W)
  (hstop : ∀ (d : Nat) (c : Code) (O : List Nat) (pre : List α) (W : World), InO w O W → d ∈ O → W.heap[d]? = some (.deferred (some [])) → Sp pre → Ix c O pre W → X.CW P N (mk d :: D) c Q E W) :
  X.CW P N D (.rangeFunc g ps assign body) Q E w := by
 obtain ⟨gf, fn, lb, rfl, h1, h2, h3⟩ := hf
 exact (CW.rangeFunc hg h1 h2 h3 hps hpN hseq I Ix hI hIx h0 hkeep hround hdone (fun d c O pre W a b e f g' => (hstop d c O pre W a b e f g').plain')).un
theorem _root_.Go.X.Boxes.stab {w A B : World} {l l0 : List (Nat × List Value × TypeId)} {O : List Nat} (h : Boxes A l) (h0 : Boxes w l0) (hn : l.map (·.1) = l0.map (·.1)) (hO : InO w O A) (hc : Chg O A B) : Boxes B l :=
 h.chg hc fun x hx hm => by
  have h1 := (hO _ hm).1
  have : x.1 ∈ l0.map (·.1) := hn ▸ List.mem_map.2 ⟨x, hx, rfl⟩
  obtain ⟨y, hy, e⟩ := List.mem_map.1 this
  have := lt_of_heap (h0.heap y hy)
  omega
theorem _root_.Go.X.Boxes.notloop {A B : World} {l : Nat} {bs : List (Nat × List Value × TypeId)} (h : Boxes A bs) (hl : ∃ r, A.heap[l]? = some (.loop r)) (hc : Chg [l] A B) : Boxes B bs :=
 h.chg hc fun x hx hm => by
  simp at hm
  obtain ⟨r, hr⟩ := hl
  have := h.heap x hx
  rw [hm, hr] at this; cases this
theorem _root_.Go.X.Boxes.sameS {w w1 : World} {l : List (Nat × List Value × TypeId)} {ns : List Nat} (h : Boxes w l) (hs : Same w w1 ns) (hl : ∀ x ∈ l, x.1 ∈ ns) : Boxes w1 l := ⟨fun x hx => (hs _ (hl x hx)).trans (h.heap x hx), h.nodup⟩
/-! ### A function with such a statement -/
def Marks (w : World) (ms : List Nat) : Prop := ms.Nodup ∧ ∀ m ∈ ms, w.heap[m]? = some (.deferred (some []))
theorem enterM {f : Nat} {fn : Func} {c : Code} {args : Array Value} {R : Ending → World → Prop} (hf : P.funcs[f]? = some fn) (hb : fn.body = some c) (hN : fn.ntmps = N)
  (h : X.CW P N [] c (bodyPostM Fence.wide 0 P fn R) (envOf 0 args.toList) w) : Calls P f args w R := by
 refine callsIn_wide.1 (callsIn_of_wp_marks (n := 0) hf hb trivial (wpIn_wide.2 (h _ ⟨?_, rfl, fun t v hg => ?_⟩)))
 ·rw [← hN]; simp; omega
 ·obtain ⟨_, h2⟩ := envOf_get _ _ _ _ hg
  have h3 : args[t]? = some v := by simpa using h2
  obtain ⟨hlt, h4⟩ := Array.getElem?_eq_some_iff.1 h3
  show (args ++ _).getD t undef = v
  simp [Array.getElem?_append_left hlt, h3]
theorem leavesM {fn : Func} {tmps : Array Value} {R : Ending → World → Prop} : ∀ (ms : List Nat) (w : World), Marks w ms → (∀ w', Chg ms w w' → ∃ v, (results fn tmps).run P w' = .ok v w' ∧ R (.returned v) w') →
  LeavesInM Fence.wide 0 P fn tmps R (ms.map mk) .returning w
 | [], w, _, h => by
  obtain ⟨v, h1, h2⟩ := h w (Chg.refl _ _)
  exact ⟨v, h1, h2⟩
 | m :: ms, w, hm, h => by
  obtain ⟨hnd, hall⟩ := hm
  have h1 := hall m (.head _)
  refine ⟨by simp, .inl ⟨m, _, rfl, run_takeDeferred h1, leavesM ms _ ⟨(List.nodup_cons.1 hnd).2, fun k hk => ?_⟩ fun w' hc => h w' ?_⟩⟩
  ·have hne : k ≠ m := fun e => (List.nodup_cons.1 hnd).1 (e ▸ hk)
   exact (World.putObj_heap_other hne).trans (hall k (.tail _ hk))
  ·exact ((Chg.putObj _).mono (fun i hi _ => by simp at hi; simp [hi])).trans hc (fun i hi _ => List.mem_cons_of_mem _ hi)
theorem resM {fn : Func} {R : Ending → World → Prop} {ms : List Nat} {vs : List Value} {x : Value} (hm : Marks w ms) (hx : x = match vs with | [v] => v | _ => .tuple vs.toArray) (h : ∀ w', Chg ms w w' → ResOK P E w' fn.results.toList vs ∧ R (.returned x) w')
  (a : Act) (ha : Sat N (ms.map mk) E a) : bodyPostM Fence.wide 0 P fn R .ret a w := by
 show LeavesInM Fence.wide 0 P fn a.tmps R a.defers .returning w
 rw [ha.defers]
 refine leavesM ms w hm fun w' hc => ?_
 obtain ⟨h1, hR⟩ := h w' hc
 refine ⟨x, ?_, hR⟩
 have h2 := ResOK.run ha _ _ h1
 change (do let vs ← fn.results.mapM (resF a); pure (if h : vs.size = 1 then vs[0] else .tuple vs) : Sem Value).run P w' = .ok x w'
 rw [Array.mapM_eq_mapM_toList]
 simp only [Sem.run_bind, Sem.run_map, h2, Result.andThen_ok, Sem.run_pure]
 subst hx
 match vs with
 | [] => simp
 | [v] => simp
 | v :: u :: r => simp
theorem res0M {fn : Func} {R : Ending → World → Prop} {vs : List Value} {x : Value} (h : ResOK P E w fn.results.toList vs) (hx : x = match vs with | [v] => v | _ => .tuple vs.toArray) (hR : R (.returned x) w)
  (a : Act) (ha : Sat N [] E a) : bodyPostM Fence.wide 0 P fn R .ret a w := by
 have h0 : bodyPost P fn R .ret a w := resN h hx hR a ha
 obtain ⟨hd, v, h1, h2⟩ := h0
 show LeavesInM Fence.wide 0 P fn a.tmps R a.defers .returning w
 rw [hd]
 exact ⟨v, h1, h2⟩
theorem Marks.stab {w A B : World} {ms O : List Nat} (h : Marks A ms) (h0 : Marks w ms) (hO : InO w O A) (hc : Chg O A B) : Marks B ms :=
 ⟨h.1, fun m hm => hc.obj (fun hm' => by have := (hO _ hm').1; have := lt_of_heap (h0.2 m hm); omega) (h.2 m hm)⟩
theorem Marks.notloop {A B : World} {l : Nat} {ms : List Nat} (h : Marks A ms) (hl : ∃ r, A.heap[l]? = some (.loop r)) (hc : Chg [l] A B) : Marks B ms :=
 ⟨h.1, fun m hm => hc.obj (fun hm' => by
  simp at hm'
  obtain ⟨r, hr⟩ := hl
  have := h.2 m hm
  rw [hm', hr] at this; cases this) (h.2 m hm)⟩
theorem _root_.Go.X.Boxes.marks {w w' : World} {ms : List Nat} {l : List (Nat × List Value × TypeId)} (h : Boxes w l) (hK : Marks w ms) (hc : Chg ms w w') : Boxes w' l :=
 h.chg hc fun x hx hm => by
  have h1 := hK.2 _ hm
  rw [h.heap x hx] at h1; cases h1
theorem Marks.nil (w : World) : Marks w [] := ⟨by simp, by simp⟩
theorem Marks.chg {f ms : List Nat} {w w' : World} (h : Marks w ms) (hc : Chg f w w') (hf : ∀ m ∈ ms, m ∉ f) : Marks w' ms := ⟨h.1, fun m hm => hc.obj (hf m hm) (h.2 m hm)⟩
theorem Marks.same {ms l : List Nat} {w w' : World} (h : Marks w ms) (hs : Same w w' l) (hl : ∀ m ∈ ms, m ∈ l) : Marks w' ms := ⟨h.1, fun m hm => (hs m (hl m hm)).trans (h.2 m hm)⟩
theorem Marks.grow {ms : List Nat} {w w' : World} {o : Obj} (h : Marks w ms) (hw : w' = World.alloc w o) : Marks w' ms := h.chg (f := []) (by subst hw; exact Chg.alloc _ _) (by simp)
theorem Marks.drew {ms : List Nat} {w w' : World} (h : Marks w ms) (hw : w' = World.drew w) : Marks w' ms := h.chg (f := []) (by subst hw; exact Chg.drew _) (by simp)
theorem Marks.set {ms : List Nat} {w w' : World} {b : Nat} {cs : Array Value} {T : TypeId} {fr : Nat × Nat} (h : Marks w ms) (hb : w.heap[b]? = some (.cells cs T fr)) (hc : Chg [b] w w') : Marks w' ms := h.chg hc fun m hm hm' => by
 simp at hm'; subst hm'
 have := h.2 _ hm
 rw [hb] at this; cases this
theorem Marks.cons {ms : List Nat} {w : World} {d : Nat} (h : Marks w ms) (hd : w.heap[d]? = some (.deferred (some []))) (hn : d ∉ ms) : Marks w (d :: ms) := ⟨List.nodup_cons.2 ⟨hn, h.1⟩, fun m hm => by
 rcases List.mem_cons.1 hm with rfl | hm
 ·exact hd
 ·exact h.2 m hm⟩
theorem Marks.cons2 {ms : List Nat} {w W : World} {d : Nat} (h : Marks W ms) (h0 : Marks w ms) (hd : w.heap.size ≤ d) (hdh : W.heap[d]? = some (.deferred (some []))) : Marks W (d :: ms) :=
 h.cons hdh fun hm => by have := lt_of_heap (h0.2 _ hm); omega
end
end Go.XR
/-! ### Ways that meet, and loops, where ranges over functions were begun: the frame's deferred ones are of the state -/
namespace Go.X
open Go
section
variable {P : Program} {N : Nat} {D : List Deferred} {Q : Exit → Act → World → Prop} {E : Env} {w : World}
end
end Go.X
end
section
namespace Go.Proofs.YtfcfkhbkkfpehaaGreatDoor
open Go Go.X
def z155_XG3 : List Value := List.replicate 1 (Value.int .i64 0) ++ List.replicate 64 (Value.int .u32 0)
/- (*pomander/shadow.Shadow).Copy -/
def W_shadow_Shadow_Copy (s1 : Option Addr) (w : World) (R : (Option Addr) → World → Prop) : Prop :=
 Calls Tryz.prog 70 #[.pointer s1] w fun e w1 => ∃ (r2 : Bool), e = .returned (.bool r2) ∧ ((r2 = true → R none w1) ∧ (r2 = false → ∃ a1 : Addr, s1 = some a1 ∧ (∃ (t1 : Int), w1.cell? a1 = some (.int .i64 t1) ∧ (∀ b1 : Nat, b1 = World.size w1 → ∀ w2 : World, w2 = World.alloc w1 (.map #[] 0) → (∀ b2 : Nat, b2 = World.size w2 → ∀ w3 : World, w3 = World.alloc w2 (.cells #[.int .i64 t1, .map (some b1)] 133) → (∀ b3 : Nat, b3 = World.size w3 → ∀ w4 : World, w4 = World.alloc w3 (.cells #[.pointer none] 96) → ((∃ o : Value, w4.cell? (⟨b3, 0, none⟩ : Addr) = some o) ∧ w4.frozen? (⟨b3, 0, none⟩ : Addr) = false ∧ ∀ w5 : World, w5 = World.setCell w4 (⟨b3, 0, none⟩ : Addr) (.pointer (some (⟨b2, 0, none⟩ : Addr))) → (∃ (t2 : Option Nat), w5.cell? (a1.add 1) = some (.map t2) ∧ (Calls Tryz.prog 71 #[.map t2] w5 fun e w6 => ∃ (r3 : Value), e = .returned (r3) ∧ (∃ (S1 Sp1 : List (Int × (Option Addr)) → Prop) (keep1 : List Nat), XR.IsFn Tryz.prog r3 ∧ XR.Iterates Tryz.prog r3 (fun x : Int × (Option Addr) => #[.int .i64 x.1, .pointer x.2]) S1 Sp1 keep1 w6 ∧ (∀ i_ ∈ keep1, i_ < w6.heap.size) ∧ ∃ (I1 : List Nat → List (Int × (Option Addr)) → World → Prop), (∀ (pre_ : List (Int × (Option Addr))), XR.Stab w6 (fun O_ w_ => I1 O_ pre_ w_)) ∧ (∀ (O1 : List Nat) (w7 : World), Chg [] w6 w7 → XR.InO w6 O1 w7 → I1 O1 ([]) w7) ∧ (∀ (l1 : Nat) (O1 : List Nat) (pre1 : List (Int × (Option Addr))) (x1 : Int) (x2 : Option Addr) (w7 : World), XR.InO w6 O1 w7 → l1 ∈ O1 → Sp1 (pre1 ++ [(x1, x2)]) → I1 O1 pre1 w7 → (∀ (w8 : World), Chg [l1] w7 w8 → (∃ a2 : Addr, x2 = some a2 ∧ (∃ (t3 : List Value), t3.length = 65 ∧ CellsAt w8 a2 0 t3 ∧ (∀ b4 : Nat, b4 = World.size w8 → ∀ w9 : World, w9 = World.alloc w8 (.cells (z155_XG3).toArray 155) → ((∀ v ∈ t3, Value.oneCell' v = true) ∧ Has w9 (⟨b4, 0, none⟩ : Addr) 65 ∧ Free w9 (⟨b4, 0, none⟩ : Addr) 65 ∧ ∀ w10 : World, w10 = setCells w9 (⟨b4, 0, none⟩ : Addr) 0 t3 → (∃ (t4 : Option Addr), w10.cell? (⟨b3, 0, none⟩ : Addr) = some (.pointer t4) ∧ (∃ a3 : Addr, t4 = some a3 ∧ (∃ (t5 : Option Nat), w10.cell? (a3.add 1) = some (.map t5) ∧ (∃ w11 : World, (Instr.mapUpdate 131 (.map t5) (.int .i64 x1) (.pointer (some (⟨b4, 0, none⟩ : Addr)))).run Tryz.prog w10 = .ok () w11 ∧ ((w8.heap.size ≤ w11.heap.size ∧ I1 O1 (pre1 ++ [(x1, x2)]) w11 ∧ Same w8 w11 (keep1 ++ O1))))))))))))) ∧ (∀ (d1 : Nat) (O2 : List Nat) (xs1 : List (Int × (Option Addr))) (w12 : World), XR.InO w6 O2 w12 → d1 ∈ O2 → S1 xs1 → I1 O2 xs1 w12 → (∃ (t6 : Option Addr), w12.cell? (⟨b3, 0, none⟩ : Addr) = some (.pointer t6) ∧ (∀ w13 : World, Chg [d1] w12 w13 → (R t6 w13))))))))))))))
set_option maxRecDepth 100000 in
theorem go_shadow_Shadow_Copy (s1 : Option Addr) (w : World) (R : (Option Addr) → World → Prop) (h : W_shadow_Shadow_Copy s1 w R) : Calls Tryz.prog 48 #[.pointer s1] w (fun e w' => ∃ (r1 : Option Addr), e = .returned (.pointer r1) ∧ R r1 w') := by
 unfold W_shadow_Shadow_Copy at h
 refine XR.enterM (N := 32) Tryz.func48 rfl rfl ?_
 refine CW.seq ?_
 refine CW.region fun L hL => ?_
 refine LW.rd hL rfl (Wants.free rfl) rfl (Rd.assign (v := .pointer none) rfl) ?_
 refine LW.nil hL rfl ?_
 refine NW.then ?_
 refine CW.seq ?_
 refine CW.seq ?_
 refine CW.region fun L hL => ?_
 refine LW.rd hL rfl (Wants.free rfl) rfl (Rd.move (v := .pointer s1) rfl) ?_
 refine LW.call hL rfl (Wants.free rfl) rfl (Cl.fn (f := 70) rfl Tryz.func70 (by kernel_rfl) rfl) h (fun e w1 h_ => ?_)
 clear h
 obtain ⟨r2, rfl, h⟩ := h_
 refine ⟨_, rfl, ?_⟩
 refine LW.nil hL rfl ?_
 refine NW.then ?_
 refine CW.cond rfl (fun hb1 => ?_) (fun hb1 => ?_)
 ·replace h := h.1 hb1
  refine CW.seq ?_
  refine CW.region fun L hL => ?_
  refine LW.rd hL rfl (Wants.free rfl) rfl (Rd.assign (v := .pointer none) rfl) ?_
  refine LW.nil hL rfl ?_
  refine NW.then ?_
  refine CW.ret ?_
  refine RW.then ?_
  exact XR.res0M (vs := [.pointer none]) (by exact (ResOK.t rfl ResOK.nil)) rfl ⟨none, rfl, h⟩
 ·replace h := h.2 hb1
  refine CW.skip ?_
  refine NW.then ?_
  refine CW.seq ?_
  refine CW.region fun L hL => ?_
  refine LW.rd hL rfl (Wants.free rfl) rfl (Rd.move (v := .pointer s1) rfl) ?_
  obtain ⟨a1, ha1, h⟩ := h
  refine LW.rd hL rfl (Wants.free rfl) rfl (Rd.nil (q := a1) (by rw [← ha1]; rfl)) ?_
  refine LW.rd hL rfl (Wants.free rfl) rfl (Rd.fa (v := .pointer (some a1)) rfl (fun _ => by kernel_rfl)) ?_
  obtain ⟨t1, hc1, h⟩ := h
  refine LW.rd hL rfl (Wants.free rfl) rfl (Rd.ld (v := .int .i64 t1) rfl (by kernel_rfl) (eqs hc1)) ?_
  obtain ⟨b1, hb_b1⟩ : ∃ b1, b1 = World.size w1 := ⟨_, rfl⟩
  obtain ⟨w2, hw_w2⟩ : ∃ w2, w2 = World.alloc w1 (.map #[] 0) := ⟨_, rfl⟩
  replace h := h b1 hb_b1 w2 hw_w2
  refine LW.val hL rfl (Wants.free rfl) rfl (mapE hb_b1 hw_w2 Vl.makeMap) ?_
  refine LW.rd hL rfl (Wants.free rfl) rfl (Rd.build (v := .agg #[.int .i64 t1, .map (some b1)]) rfl (fun _ => by kernel_rfl)) ?_
  obtain ⟨b2, hb_b2⟩ : ∃ b2, b2 = World.size w2 := ⟨_, rfl⟩
  obtain ⟨w3, hw_w3⟩ : ∃ w3, w3 = World.alloc w2 (.cells #[.int .i64 t1, .map (some b1)] 133) := ⟨_, rfl⟩
  replace h := h b2 hb_b2 w3 hw_w3
  refine LW.val hL rfl (Wants.free rfl) rfl (boxE hb_b2 hw_w3 (Vl.box (v := .agg #[.int .i64 t1, .map (some b1)]) rfl)) ?_
  obtain ⟨b3, hb_b3⟩ : ∃ b3, b3 = World.size w3 := ⟨_, rfl⟩
  obtain ⟨w4, hw_w4⟩ : ∃ w4, w4 = World.alloc w3 (.cells #[.pointer none] 96) := ⟨_, rfl⟩
  replace h := h b3 hb_b3 w4 hw_w4
  refine LW.val hL rfl (Wants.free rfl) rfl (boxE hb_b3 hw_w4 (Vl.alloc (z := .pointer none) (by kernel_rfl))) ?_
  obtain ⟨⟨o_w5, ho1⟩, hf1, h⟩ := h
  obtain ⟨w5, hw_w5⟩ : ∃ w5, w5 = World.setCell w4 (⟨b3, 0, none⟩ : Addr) (.pointer (some (⟨b2, 0, none⟩ : Addr))) := ⟨_, rfl⟩
  replace h := h w5 hw_w5
  refine LW.eff hL rfl (Wants.free rfl) rfl (stE hw_w5 (Ef.st rfl rfl rfl (by kernel_rfl) ho1 hf1)) ?_
  refine LW.nil hL rfl ?_
  refine NW.then ?_
  refine CW.seq ?_
  refine CW.seq ?_
  refine CW.region fun L hL => ?_
  refine LW.rd hL rfl (Wants.free rfl) rfl (Rd.move (v := .pointer s1) rfl) ?_
  refine LW.rd hL rfl (Wants.free rfl) rfl (Rd.nil (q := a1) (by rw [← ha1]; rfl)) ?_
  refine LW.rd hL rfl (Wants.free rfl) rfl (Rd.fa (v := .pointer (some (a1.add 1))) rfl (fun _ => by kernel_rfl)) ?_
  obtain ⟨t2, hc2, h⟩ := h
  refine LW.rd hL rfl (Wants.free rfl) rfl (Rd.ld (v := .map t2) rfl (by kernel_rfl) (eqs hc2)) ?_
  refine LW.call hL rfl (Wants.free rfl) rfl (Cl.fn (f := 71) rfl Tryz.func71 (by kernel_rfl) rfl) h (fun e w6 h_ => ?_)
  clear h
  obtain ⟨r3, rfl, h⟩ := h_
  refine ⟨_, rfl, ?_⟩
  refine LW.nil hL rfl ?_
  refine NW.then ?_
  refine CW.block ?_
  obtain ⟨S1, Sp1, keep1, hfn_, hit_, hkp_, I1, hst_I1, h0_, hrd_, hdn_⟩ := h
  refine XR.CW.rangeV (α := Int × (Option Addr)) (enc := (fun x : Int × (Option Addr) => #[.int .i64 x.1, .pointer x.2])) (S := S1) (Sp := Sp1) (keep := keep1) rfl hfn_ (fun _ => rfl) (by decide) hit_ (fun (O_ : List Nat) (pre_ : List (Int × (Option Addr))) (w_ : World) => I1 O_ pre_ w_) (fun (c_ : Code) (O_ : List Nat) (pre_ : List (Int × (Option Addr))) (w_ : World) => False) ?_ ?_ ?_ hkp_ ?_ ?_ ?_
  ·intro pre_ O_ O2_ A_ B_ hi_ hO_ hc_ hO2_ hg_
   exact hst_I1  pre_ O_ O2_ A_ B_ hi_ hO_ hc_ hO2_ hg_
  ·intro c_ pre_ O_ O2_ A_ B_ hi_ hO_ hc_ hO2_ hg_
   exact hi_.elim
  ·intro O_ A_ hc_ hO_
   exact h0_ O_ A_ hc_ hO_
  ·intro l1 O1 pre1 x_ w7 hO_ hl_ hSp_ hi_
   obtain ⟨x1, x2⟩ := x_
   have h := hrd_ l1 O1 pre1 x1 x2 w7 hO_ hl_ hSp_ hi_
   refine XR.CW.seq ?_
   refine XR.CW.region fun L hL => ?_
   refine XR.LW.rd hL rfl (Wants.free rfl) rfl (Rd.assign (v := .int .i64 x1) rfl) ?_
   refine XR.LW.nil hL rfl ?_
   refine XR.NW.then ?_
   refine XR.CW.region fun L hL => ?_
   refine XR.LW.rd hL rfl (Wants.free rfl) rfl (Rd.assign (v := .pointer x2) rfl) ?_
   refine XR.LW.nil hL rfl ?_
   refine XR.NW.begin (Chg.refl [] w7) (fun w8 hcb_w8 hlp_ hib_ => ?_)
   have hc_w8 : Chg [l1] w7 w8 := sil_more (Chg.refl [] w7) hcb_w8
   replace h := h  w8  hc_w8
   refine XR.CW.block ?_
   refine XR.CW.seq ?_
   refine XR.CW.region fun L hL => ?_
   refine XR.LW.rd hL rfl (Wants.free rfl) rfl (Rd.move (v := .pointer x2) rfl) ?_
   obtain ⟨a2, ha2, h⟩ := h
   refine XR.LW.rd hL rfl (Wants.free rfl) rfl (Rd.nil (q := a2) (by rw [← ha2]; rfl)) ?_
   obtain ⟨t3, hl1, hc3, h⟩ := h
   refine XR.LW.rd hL rfl (Wants.free rfl) rfl (Rd.ldN (cs := t3) rfl (by kernel_rfl) (by rw [hl1]; kernel_rfl) (cellsS hc3)) ?_
   obtain ⟨b4, hb_b4⟩ : ∃ b4, b4 = World.size w8 := ⟨_, rfl⟩
   obtain ⟨w9, hw_w9⟩ : ∃ w9, w9 = World.alloc w8 (.cells (z155_XG3).toArray 155) := ⟨_, rfl⟩
   replace h := h b4 hb_b4 w9 hw_w9
   refine XR.LW.val hL rfl (Wants.free rfl) rfl (boxE hb_b4 hw_w9 (Vl.alloc (z := .agg ((z155_XG3)).toArray) (by kernel_rfl))) ?_
   obtain ⟨hv1, ho2, hf2, h⟩ := h
   obtain ⟨w10, hw_w10⟩ : ∃ w10, w10 = setCells w9 (⟨b4, 0, none⟩ : Addr) 0 t3 := ⟨_, rfl⟩
   replace h := h w10 hw_w10
   refine XR.LW.eff hL rfl (Wants.free rfl) rfl (stNE hw_w10 (Ef.stN (cs := t3) rfl rfl (by rw [hl1]; kernel_rfl) hv1 (hl1 ▸ ho2) (hl1 ▸ hf2))) ?_
   refine XR.LW.nil hL rfl ?_
   refine XR.NW.then ?_
   refine XR.CW.region fun L hL => ?_
   obtain ⟨t4, hc4, h⟩ := h
   refine XR.LW.rd hL rfl (Wants.free rfl) rfl (Rd.ld (v := .pointer t4) rfl (by kernel_rfl) (eqs hc4)) ?_
   obtain ⟨a3, ha3, h⟩ := h
   refine XR.LW.rd hL rfl (Wants.free rfl) rfl (Rd.nil (q := a3) (by rw [← ha3]; rfl)) ?_
   refine XR.LW.rd hL rfl (Wants.free rfl) rfl (Rd.fa (v := .pointer (some (a3.add 1))) rfl (fun _ => by kernel_rfl)) ?_
   obtain ⟨t5, hc5, h⟩ := h
   refine XR.LW.rd hL rfl (Wants.free rfl) rfl (Rd.ld (v := .map t5) rfl (by kernel_rfl) (eqs hc5)) ?_
   refine XR.LW.rd hL rfl (Wants.free rfl) rfl (Rd.move (v := .int .i64 x1) rfl) ?_
   obtain ⟨w11, hm1, h⟩ := h
   refine XR.LW.eff hL rfl (Wants.free rfl) rfl (Ef.mapUpdate rfl rfl rfl hm1) ?_
   refine XR.LW.nil hL rfl ?_
   refine NW.block ?_
   exact fun a_ ha_ => ⟨h.1, h.2.1, h.2.2⟩
  ·intro d1 O2 xs1 w12 hO_ hd_ hdh_ hS_ hi_
   have h := hdn_ d1 O2 xs1 w12 hO_ hd_ hS_ hi_
   have hK := XR.Marks.cons (XR.Marks.nil _) hdh_ (by simp)
   refine NW.block ?_
   refine NW.then ?_
   refine CW.seq ?_
   refine CW.region fun L hL => ?_
   obtain ⟨t6, hc6, h⟩ := h
   refine LW.rd hL rfl (Wants.free rfl) rfl (Rd.ld (v := .pointer t6) rfl (by kernel_rfl) (eqs hc6)) ?_
   refine LW.rd hL rfl (Wants.free rfl) rfl (Rd.assign (v := .pointer t6) rfl) ?_
   refine LW.nil hL rfl ?_
   refine NW.then ?_
   refine CW.ret ?_
   exact XR.resM (ms := [d1]) (vs := [.pointer t6]) hK rfl (fun w_ hc_ => ⟨(ResOK.t rfl ResOK.nil), t6, rfl, h w_ hc_⟩)
  ·intro d2 c_ O3 xs2 w14 hO_ hd_ hdh_ hS_ hi_
   exact hi_.elim
/- maps.All[map[int]*pomander/shadow.page,int,*pomander/shadow.page] -/
def W_maps_All_0 (m1 : Option Nat) (w : World) (R : Value → World → Prop) : Prop :=
 ∀ b1 : Nat, b1 = World.size w → ∀ w1 : World, w1 = World.alloc w (.cells #[.map m1] 131) → (R (.func (.func 89) #[] #[.pointer (some (⟨b1, 0, none⟩ : Addr))]) w1)
set_option maxRecDepth 100000 in
theorem go_maps_All_0 (m1 : Option Nat) (w : World) (R : Value → World → Prop) (h : W_maps_All_0 m1 w R) : Calls Tryz.prog 71 #[.map m1] w (fun e w' => ∃ (r1 : Value), e = .returned (r1) ∧ R r1 w') := by
 unfold W_maps_All_0 at h
 refine enter (N := 4) Tryz.func71 rfl rfl ?_
 refine CW.seq ?_
 refine CW.region fun L hL => ?_
 obtain ⟨b1, hb_b1⟩ : ∃ b1, b1 = World.size w := ⟨_, rfl⟩
 obtain ⟨w1, hw_w1⟩ : ∃ w1, w1 = World.alloc w (.cells #[.map m1] 131) := ⟨_, rfl⟩
 replace h := h b1 hb_b1 w1 hw_w1
 refine LW.val hL rfl (Wants.free rfl) rfl (boxE hb_b1 hw_w1 (Vl.box (v := .map m1) rfl)) ?_
 refine LW.rd hL rfl (Wants.free rfl) rfl (Rd.assign (v := .nilFunc) rfl) ?_
 refine LW.nil hL rfl ?_
 refine NW.then ?_
 refine CW.seq ?_
 refine CW.region fun L hL => ?_
 refine LW.rd hL rfl (Wants.free rfl) rfl (Rd.makeFunc rfl) ?_
 refine LW.rd hL rfl (Wants.free rfl) rfl (Rd.assign (v := .func (.func 89) #[] #[.pointer (some (⟨b1, 0, none⟩ : Addr))]) rfl) ?_
 refine LW.nil hL rfl ?_
 refine NW.then ?_
 refine CW.ret ?_
 exact res1 rfl rfl ⟨.func (.func 89) #[] #[.pointer (some (⟨b1, 0, none⟩ : Addr))], rfl, h⟩
/- maps.Keys[map[int]*pomander/shadow.page,int,*pomander/shadow.page]$1 -/
def W_maps_Keys_0_1 (yield1 : Value) (cap1 : Addr) (w : World) (R : World → Prop) : Prop :=
 ∃ (t1 : Option Nat), w.cell? cap1 = some (.map t1) ∧ (∃ (it1 : Option Addr) (w1 : World), (Instr.range 131 (.map t1)).run Tryz.prog w = .ok (.pointer it1) w1 ∧ (∃ (I1 : World → Prop) (m1 : World → Nat), I1 w1 ∧ ∀ (w2 : World), I1 w2 → ∃ (nx1 : Array Value) (ok1 : Bool) (w3 : World), (Instr.next (.pointer it1) false 0).run Tryz.prog w2 = .ok (.tuple nx1) w3 ∧ nx1[0]? = some (.bool ok1) ∧ ((ok1 = true → ∃ (k1 : Int) (v1 : Option Addr), (Instr.entry (.pointer it1)).run Tryz.prog w3 = .ok (.tuple #[.int .i64 k1, .pointer v1]) w3 ∧ (XR.CallsY Tryz.prog yield1 #[.int .i64 k1] w3 fun e w4 => ∃ (r1 : Bool), e = .returned (.bool r1) ∧ (((!r1) = true → R w4) ∧ ((!r1) = false → (I1 w4 ∧ m1 w4 < m1 w2))))) ∧ (ok1 = false → R w3))))
set_option maxRecDepth 100000 in
theorem go_maps_Keys_0_1 (yield1 : Value) (cap1 : Addr) (w : World) (R : World → Prop) (h : W_maps_Keys_0_1 yield1 cap1 w R) : Calls Tryz.prog 112 #[yield1, .pointer (some cap1)] w (fun e w' => e = .returned (.tuple #[]) ∧ R w') := by
 unfold W_maps_Keys_0_1 at h
 refine enter (N := 14) Tryz.func112 rfl rfl ?_
 refine CW.seq ?_
 refine CW.region fun L hL => ?_
 obtain ⟨t1, hc1, h⟩ := h
 refine LW.rd hL rfl (Wants.free rfl) rfl (Rd.ld (v := .map t1) rfl (by kernel_rfl) (eqs hc1)) ?_
 obtain ⟨it1, w1, hm1, h⟩ := h
 refine LW.val hL rfl (Wants.free rfl) rfl (Vl.range (v := .pointer it1) rfl hm1) ?_
 refine LW.nil hL rfl ?_
 refine NW.then ?_
 refine CW.block ?_
 obtain ⟨I1, m1, hI1, h⟩ := h
 refine CW.loop (S := Unit) (fun s1 => [(0, yield1), (5, .pointer it1)]) (fun s1 w2 => I1 w2) (fun s1 w2 => m1 w2) () (by exact ⟨rfl, rfl, trivial⟩) hI1 (fun s1 w2 hI1 => ?_)
 replace h := h w2 hI1
 refine CW.seq ?_
 refine CW.region fun L hL => ?_
 obtain ⟨nx1, ok1, w3, hm2, hk1, h⟩ := h
 refine LW.val hL rfl (Wants.free rfl) rfl (Vl.next (v := .tuple nx1) rfl hm2) ?_
 refine LW.rd hL rfl (Wants.free rfl) rfl (Rd.extract (v := .bool ok1) rfl hk1) ?_
 refine LW.nil hL rfl ?_
 refine NW.then ?_
 refine CW.seq ?_
 refine CW.cond rfl (fun hb1 => ?_) (fun hb1 => ?_)
 ·replace h := h.1 hb1
  refine CW.skip ?_
  refine NW.then ?_
  refine CW.block ?_
  refine CW.seq ?_
  refine CW.region fun L hL => ?_
  obtain ⟨k1, v1, hl1, h⟩ := h
  refine LW.rd hL rfl (Wants.free rfl) rfl (Rd.entry (v := .tuple #[.int .i64 k1, .pointer v1]) rfl (fun _ e => e ▸ hl1)) ?_
  refine LW.rd hL rfl (Wants.free rfl) rfl (Rd.extract (v := .int .i64 k1) rfl rfl) ?_
  refine LW.rd hL rfl (Wants.free rfl) rfl (Rd.assign (v := .int .i64 k1) rfl) ?_
  refine LW.nil hL rfl ?_
  refine NW.then ?_
  refine CW.seq ?_
  refine XR.CW.un ?_
  refine XR.CW.region fun L hL => ?_
  refine XR.LW.rd hL rfl (Wants.free rfl) rfl (Rd.move (v := yield1) rfl) ?_
  refine XR.LW.rd hL rfl (Wants.free rfl) rfl (Rd.move (v := .int .i64 k1) rfl) ?_
  refine XR.LW.callY hL rfl (Wants.free rfl) rfl rfl rfl h (fun e w4 h_ => ?_)
  clear h
  obtain ⟨r1, rfl, h⟩ := h_
  refine ⟨_, rfl, ?_⟩
  refine XR.LW.rd hL rfl (Wants.free rfl) rfl (Rd.un (v := .bool (!r1)) rfl (fun _ => by kernel_rfl)) ?_
  refine XR.LW.nil hL rfl ?_
  refine NW.then ?_
  refine CW.cond rfl (fun hb2 => ?_) (fun hb2 => ?_)
  ·replace h := h.1 hb2
   refine CW.ret ?_
   refine RW.block ?_
   refine RW.then ?_
   refine RW.block ?_
   exact res0 rfl ⟨rfl, h⟩
  ·replace h := h.2 hb2
   refine CW.skip ?_
   refine NW.block ?_
   exact NW.loop (S := Unit) (Ek := fun s1 => [(0, yield1), (5, .pointer it1)]) () (by exact ⟨rfl, rfl, trivial⟩) h
 ·replace h := h.2 hb1
  refine CW.exit ?_
  refine XW.then ?_
  refine XW.then ?_
  refine XW.hit ?_
  exact res0n rfl (by exact ⟨rfl, h⟩)
/- maps.All[map[int]*pomander/shadow.page,int,*pomander/shadow.page]$1 -/
def W_maps_All_0_1 (yield1 : Value) (cap1 : Addr) (w : World) (R : World → Prop) : Prop :=
 ∃ (t1 : Option Nat), w.cell? cap1 = some (.map t1) ∧ (∃ (it1 : Option Addr) (w1 : World), (Instr.range 131 (.map t1)).run Tryz.prog w = .ok (.pointer it1) w1 ∧ (∃ (I1 : World → Prop) (m1 : World → Nat), I1 w1 ∧ ∀ (w2 : World), I1 w2 → ∃ (nx1 : Array Value) (ok1 : Bool) (w3 : World), (Instr.next (.pointer it1) false 0).run Tryz.prog w2 = .ok (.tuple nx1) w3 ∧ nx1[0]? = some (.bool ok1) ∧ ((ok1 = true → ∃ (k1 : Int) (v1 : Option Addr), (Instr.entry (.pointer it1)).run Tryz.prog w3 = .ok (.tuple #[.int .i64 k1, .pointer v1]) w3 ∧ (XR.CallsY Tryz.prog yield1 #[.int .i64 k1, .pointer v1] w3 fun e w4 => ∃ (r1 : Bool), e = .returned (.bool r1) ∧ (((!r1) = true → R w4) ∧ ((!r1) = false → (I1 w4 ∧ m1 w4 < m1 w2))))) ∧ (ok1 = false → R w3))))
set_option maxRecDepth 100000 in
theorem go_maps_All_0_1 (yield1 : Value) (cap1 : Addr) (w : World) (R : World → Prop) (h : W_maps_All_0_1 yield1 cap1 w R) : Calls Tryz.prog 89 #[yield1, .pointer (some cap1)] w (fun e w' => e = .returned (.tuple #[]) ∧ R w') := by
 unfold W_maps_All_0_1 at h
 refine enter (N := 17) Tryz.func89 rfl rfl ?_
 refine CW.seq ?_
 refine CW.region fun L hL => ?_
 obtain ⟨t1, hc1, h⟩ := h
 refine LW.rd hL rfl (Wants.free rfl) rfl (Rd.ld (v := .map t1) rfl (by kernel_rfl) (eqs hc1)) ?_
 obtain ⟨it1, w1, hm1, h⟩ := h
 refine LW.val hL rfl (Wants.free rfl) rfl (Vl.range (v := .pointer it1) rfl hm1) ?_
 refine LW.nil hL rfl ?_
 refine NW.then ?_
 refine CW.block ?_
 obtain ⟨I1, m1, hI1, h⟩ := h
 refine CW.loop (S := Unit) (fun s1 => [(0, yield1), (6, .pointer it1)]) (fun s1 w2 => I1 w2) (fun s1 w2 => m1 w2) () (by exact ⟨rfl, rfl, trivial⟩) hI1 (fun s1 w2 hI1 => ?_)
 replace h := h w2 hI1
 refine CW.seq ?_
 refine CW.region fun L hL => ?_
 obtain ⟨nx1, ok1, w3, hm2, hk1, h⟩ := h
 refine LW.val hL rfl (Wants.free rfl) rfl (Vl.next (v := .tuple nx1) rfl hm2) ?_
 refine LW.rd hL rfl (Wants.free rfl) rfl (Rd.extract (v := .bool ok1) rfl hk1) ?_
 refine LW.nil hL rfl ?_
 refine NW.then ?_
 refine CW.seq ?_
 refine CW.cond rfl (fun hb1 => ?_) (fun hb1 => ?_)
 ·replace h := h.1 hb1
  refine CW.skip ?_
  refine NW.then ?_
  refine CW.block ?_
  refine CW.seq ?_
  refine CW.region fun L hL => ?_
  obtain ⟨k1, v1, hl1, h⟩ := h
  refine LW.rd hL rfl (Wants.free rfl) rfl (Rd.entry (v := .tuple #[.int .i64 k1, .pointer v1]) rfl (fun _ e => e ▸ hl1)) ?_
  refine LW.rd hL rfl (Wants.free rfl) rfl (Rd.extract (v := .int .i64 k1) rfl rfl) ?_
  refine LW.rd hL rfl (Wants.free rfl) rfl (Rd.extract (v := .pointer v1) rfl rfl) ?_
  refine LW.rd hL rfl (Wants.free rfl) rfl (Rd.assign (v := .int .i64 k1) rfl) ?_
  refine LW.rd hL rfl (Wants.free rfl) rfl (Rd.assign (v := .pointer v1) rfl) ?_
  refine LW.nil hL rfl ?_
  refine NW.then ?_
  refine CW.seq ?_
  refine XR.CW.un ?_
  refine XR.CW.region fun L hL => ?_
  refine XR.LW.rd hL rfl (Wants.free rfl) rfl (Rd.move (v := yield1) rfl) ?_
  refine XR.LW.rd hL rfl (Wants.free rfl) rfl (Rd.move (v := .int .i64 k1) rfl) ?_
  refine XR.LW.rd hL rfl (Wants.free rfl) rfl (Rd.move (v := .pointer v1) rfl) ?_
  refine XR.LW.callY hL rfl (Wants.free rfl) rfl rfl rfl h (fun e w4 h_ => ?_)
  clear h
  obtain ⟨r1, rfl, h⟩ := h_
  refine ⟨_, rfl, ?_⟩
  refine XR.LW.rd hL rfl (Wants.free rfl) rfl (Rd.un (v := .bool (!r1)) rfl (fun _ => by kernel_rfl)) ?_
  refine XR.LW.nil hL rfl ?_
  refine NW.then ?_
  refine CW.cond rfl (fun hb2 => ?_) (fun hb2 => ?_)
  ·replace h := h.1 hb2
   refine CW.ret ?_
   refine RW.block ?_
   refine RW.then ?_
   refine RW.block ?_
   exact res0 rfl ⟨rfl, h⟩
  ·replace h := h.2 hb2
   refine CW.skip ?_
   refine NW.block ?_
   exact NW.loop (S := Unit) (Ek := fun s1 => [(0, yield1), (6, .pointer it1)]) () (by exact ⟨rfl, rfl, trivial⟩) h
 ·replace h := h.2 hb1
  refine CW.exit ?_
  refine XW.then ?_
  refine XW.then ?_
  refine XW.hit ?_
  exact res0n rfl (by exact ⟨rfl, h⟩)
end Go.Proofs.YtfcfkhbkkfpehaaGreatDoor
end
section
/- Iterators over maps: maps.All, maps.Keys over the pages of a shadow. -/
namespace Go.Proofs.YtfcfkhbkkfpehaaGreatDoor
open Go Go.RowKit Go.X Go.XR
theorem _root_.Go.X.IterAt.eq {K V : Type} [DecidableEq K] {ke : K → Value} {ve : V → Value} {w w' : World} {it m : Nat} {l done : List (K × V)} (h : IterAt w it m ke ve l done) (h1 : w'.heap[it]? = w.heap[it]?) (h2 : w'.heap[m]? = w.heap[m]?) : IterAt w' it m ke ve l done := by
 obtain ⟨es, clk, since, c0, seen, ds, a, b, b', c, rest⟩ := h
 exact ⟨es, clk, since, c0, seen, ds, h1.trans a, b, b', h2.trans c, rest⟩
theorem _root_.Go.X.IterAt.lt {K V : Type} [DecidableEq K] {ke : K → Value} {ve : V → Value} {w : World} {it m : Nat} {l done : List (K × V)} (h : IterAt w it m ke ve l done) : it < w.heap.size := by
 obtain ⟨es, clk, since, c0, seen, ds, a, _⟩ := h
 exact lt_of_heap a
def allS {K V α : Type} (f : K × V → α) (l : List (K × V)) (xs : List α) : Prop := ∃ done : List (K × V), xs = done.map f ∧ (done.map Prod.fst).Nodup ∧ (∀ x ∈ done, x ∈ l) ∧ ∀ x ∈ l, x ∈ done
def allSp {K V α : Type} (f : K × V → α) (l : List (K × V)) (xs : List α) : Prop := ∃ done : List (K × V), xs = done.map f ∧ (done.map Prod.fst).Nodup ∧ ∀ x ∈ done, x ∈ l
def pgF (x : Int × Nat) : Int × Option Addr := (x.1, some ⟨x.2, 0, none⟩)
theorem isFn118 (cb : Nat) : IsFn Tryz.prog (.func (.func 89) #[] #[.pointer (some ⟨cb, 0, none⟩)]) := ⟨89, Tryz.f89, _, rfl, Tryz.func89, by kernel_rfl, by kernel_rfl⟩
theorem iterates_all {w : World} {cb m : Nat} {l : List (Int × Nat)} (hcb : w.heap[cb]? = some (.cells #[.map (some m)] 131 (0, 0))) (hm : MapIs w m (fun n : Int => .int .i64 n) encPg l) :
  Iterates Tryz.prog (.func (.func 89) #[] #[.pointer (some ⟨cb, 0, none⟩)]) (fun x : Int × Option Addr => #[.int .i64 x.1, .pointer x.2]) (allS pgF l) (allSp pgF l) [cb, m] w := by
 intro W yv I Ix hW hI hIx h0 hround
 refine ⟨89, #[.pointer (some ⟨cb, 0, none⟩)], Tryz.f89, rfl, Tryz.func89, by kernel_rfl, by kernel_rfl, ?_⟩
 have hcW := hW.obj (by simp) hcb
 have hmW := hm.chg hW (by simp)
 have hlm := hmW.lt
 refine (go_maps_All_0_1 yv ⟨cb, 0, none⟩ W (fun w' => ∃ Own, InO W Own w' ∧ ((∃ xs, allS pgF l xs ∧ I Own xs w') ∨ ∃ pre, allSp pgF l pre ∧ Ix Own pre w')) ?_).mono (fun e w' h => ⟨⟨_, h.1⟩, h.2⟩)
 unfold W_maps_All_0_1
 obtain ⟨it, w1, hrg, c1, hit, hI1⟩ := iter_range (P := Tryz.prog) (T := 131) hmW u173
 refine ⟨_, by rw [cell_of hcW]; rfl, _, w1, hrg, ?_⟩
 have hne : it ≠ m := by omega
 have s1 := c1.size
 have hitlt := hI1.lt
 refine ⟨fun w2 => ∃ done, I [it] (done.map pgF) w2 ∧ IterAt w2 it m (fun n : Int => .int .i64 n) encPg l done ∧ w1.heap.size ≤ w2.heap.size, fun w2 => l.length - seenN w2 it, ⟨[], ?_, hI1, Nat.le_refl _⟩, ?_⟩
 ·exact hI [] [] [it] W w1 h0 (by intro i hi; cases hi) c1 (by intro i hi; simp at hi; omega) (by intro i hi; simp at hi; omega)
 rintro w2 ⟨done, hi, hIt, s2⟩
 have hin : ∀ {A : World}, w1.heap.size ≤ A.heap.size → InO W [it] A := fun hA i hi => by simp at hi; omega
 rcases iter_next (P := Tryz.prog) hIt hne keyInt.inj 0 with ⟨hnx, hall⟩ | ⟨k, v, w3, hkl, hnew, hrun, c3, hI3, hent⟩
 ·exact ⟨_, false, w2, hnx, rfl, fun h => by simp at h, fun _ => ⟨[it], hin s2, .inl ⟨_, ⟨done, rfl, hIt.sub.2.1, hIt.sub.1, hall⟩, hi⟩⟩⟩
 ·have s3 := c3.size
  refine ⟨_, true, w3, hrun, rfl, fun _ => ⟨k, some ⟨v, 0, none⟩, hent, ?_⟩, fun h => by simp at h⟩
  have hi3 := hI (done.map pgF) [it] [it] w2 w3 hi (hin s2) c3 (hin (by omega)) (fun i h => .inl h)
  have e1 : done.map pgF ++ [(k, some ⟨v, 0, none⟩)] = (done ++ [(k, v)]).map pgF := by simp [pgF]
  refine (hround [it] (done.map pgF) (k, some ⟨v, 0, none⟩) w3 (hin (by omega)) ⟨done ++ [(k, v)], e1, hI3.sub.2.1, hI3.sub.1⟩ hi3).mono ?_
  rintro e w4 ⟨s4, ⟨rfl, hi4, hs4⟩ | ⟨rfl, hx4⟩⟩
  ·refine ⟨true, rfl, fun h => by simp at h, fun _ => ⟨⟨done ++ [(k, v)], by rw [← e1]; exact hi4, hI3.eq (hs4 it (by simp)) (hs4 m (by simp)), by omega⟩, ?_⟩⟩
   have a1 := hIt.count
   have a2 := hI3.count
   have a3 := hIt.more hkl hnew
   have a4 : seenN w4 it = seenN w3 it := by unfold seenN; rw [hs4 it (by simp)]
   simp at a2
   simp only []
   omega
  ·exact ⟨false, rfl, fun _ => ⟨[it], hin (by omega), .inr ⟨_, ⟨done ++ [(k, v)], e1, hI3.sub.2.1, hI3.sub.1⟩, hx4⟩⟩, fun h => by simp at h⟩
theorem isFn117 (cb : Nat) : IsFn Tryz.prog (.func (.func 112) #[] #[.pointer (some ⟨cb, 0, none⟩)]) := ⟨112, Tryz.f112, _, rfl, Tryz.func112, by kernel_rfl, by kernel_rfl⟩
theorem iterates_keys {w : World} {cb m : Nat} {l : List (Int × Nat)} (hcb : w.heap[cb]? = some (.cells #[.map (some m)] 131 (0, 0))) (hm : MapIs w m (fun n : Int => .int .i64 n) encPg l) :
  Iterates Tryz.prog (.func (.func 112) #[] #[.pointer (some ⟨cb, 0, none⟩)]) (fun x : Int => #[.int .i64 x]) (allS Prod.fst l) (allSp Prod.fst l) [cb, m] w := by
 intro W yv I Ix hW hI hIx h0 hround
 refine ⟨112, #[.pointer (some ⟨cb, 0, none⟩)], Tryz.f112, rfl, Tryz.func112, by kernel_rfl, by kernel_rfl, ?_⟩
 have hcW := hW.obj (by simp) hcb
 have hmW := hm.chg hW (by simp)
 have hlm := hmW.lt
 refine (go_maps_Keys_0_1 yv ⟨cb, 0, none⟩ W (fun w' => ∃ Own, InO W Own w' ∧ ((∃ xs, allS Prod.fst l xs ∧ I Own xs w') ∨ ∃ pre, allSp Prod.fst l pre ∧ Ix Own pre w')) ?_).mono (fun e w' h => ⟨⟨_, h.1⟩, h.2⟩)
 unfold W_maps_Keys_0_1
 obtain ⟨it, w1, hrg, c1, hit, hI1⟩ := iter_range (P := Tryz.prog) (T := 131) hmW u173
 refine ⟨_, by rw [cell_of hcW]; rfl, _, w1, hrg, ?_⟩
 have hne : it ≠ m := by omega
 have s1 := c1.size
 have hitlt := hI1.lt
 refine ⟨fun w2 => ∃ done, I [it] (done.map Prod.fst) w2 ∧ IterAt w2 it m (fun n : Int => .int .i64 n) encPg l done ∧ w1.heap.size ≤ w2.heap.size, fun w2 => l.length - seenN w2 it, ⟨[], ?_, hI1, Nat.le_refl _⟩, ?_⟩
 ·exact hI [] [] [it] W w1 h0 (by intro i hi; cases hi) c1 (by intro i hi; simp at hi; omega) (by intro i hi; simp at hi; omega)
 rintro w2 ⟨done, hi, hIt, s2⟩
 have hin : ∀ {A : World}, w1.heap.size ≤ A.heap.size → InO W [it] A := fun hA i hi => by simp at hi; omega
 rcases iter_next (P := Tryz.prog) hIt hne keyInt.inj 0 with ⟨hnx, hall⟩ | ⟨k, v, w3, hkl, hnew, hrun, c3, hI3, hent⟩
 ·exact ⟨_, false, w2, hnx, rfl, fun h => by simp at h, fun _ => ⟨[it], hin s2, .inl ⟨_, ⟨done, rfl, hIt.sub.2.1, hIt.sub.1, hall⟩, hi⟩⟩⟩
 ·have s3 := c3.size
  refine ⟨_, true, w3, hrun, rfl, fun _ => ⟨k, some ⟨v, 0, none⟩, hent, ?_⟩, fun h => by simp at h⟩
  have hi3 := hI (done.map Prod.fst) [it] [it] w2 w3 hi (hin s2) c3 (hin (by omega)) (fun i h => .inl h)
  have e1 : done.map Prod.fst ++ [k] = (done ++ [(k, v)]).map Prod.fst := by simp
  refine (hround [it] (done.map Prod.fst) k w3 (hin (by omega)) ⟨done ++ [(k, v)], e1, hI3.sub.2.1, hI3.sub.1⟩ hi3).mono ?_
  rintro e w4 ⟨s4, ⟨rfl, hi4, hs4⟩ | ⟨rfl, hx4⟩⟩
  ·refine ⟨true, rfl, fun h => by simp at h, fun _ => ⟨⟨done ++ [(k, v)], by rw [← e1]; exact hi4, hI3.eq (hs4 it (by simp)) (hs4 m (by simp)), by omega⟩, ?_⟩⟩
   have a1 := hIt.count
   have a2 := hI3.count
   have a3 := hIt.more hkl hnew
   have a4 : seenN w4 it = seenN w3 it := by unfold seenN; rw [hs4 it (by simp)]
   simp at a2
   simp only []
   omega
  ·exact ⟨false, rfl, fun _ => ⟨[it], hin (by omega), .inr ⟨_, ⟨done ++ [(k, v)], e1, hI3.sub.2.1, hI3.sub.1⟩, hx4⟩⟩, fun h => by simp at h⟩
end Go.Proofs.YtfcfkhbkkfpehaaGreatDoor
end
section
namespace Go.Proofs.YtfcfkhbkkfpehaaGreatDoor
open Go Go.X
/- maps.Keys[map[pomander/api.Place]uint32,pomander/api.Place,uint32] -/
def W_maps_Keys_134 (m1 : Option Nat) (w : World) (R : Value → World → Prop) : Prop :=
 ∀ b1 : Nat, b1 = World.size w → ∀ w1 : World, w1 = World.alloc w (.cells #[.map m1] 99) → (R (.func (.func 74) #[] #[.pointer (some (⟨b1, 0, none⟩ : Addr))]) w1)
set_option maxRecDepth 100000 in
theorem go_maps_Keys_134 (m1 : Option Nat) (w : World) (R : Value → World → Prop) (h : W_maps_Keys_134 m1 w R) : Calls Tryz.prog 52 #[.map m1] w (fun e w' => ∃ (r1 : Value), e = .returned (r1) ∧ R r1 w') := by
 unfold W_maps_Keys_134 at h
 refine enter (N := 4) Tryz.func52 rfl rfl ?_
 refine CW.seq ?_
 refine CW.region fun L hL => ?_
 obtain ⟨b1, hb_b1⟩ : ∃ b1, b1 = World.size w := ⟨_, rfl⟩
 obtain ⟨w1, hw_w1⟩ : ∃ w1, w1 = World.alloc w (.cells #[.map m1] 99) := ⟨_, rfl⟩
 replace h := h b1 hb_b1 w1 hw_w1
 refine LW.val hL rfl (Wants.free rfl) rfl (boxE hb_b1 hw_w1 (Vl.box (v := .map m1) rfl)) ?_
 refine LW.rd hL rfl (Wants.free rfl) rfl (Rd.assign (v := .nilFunc) rfl) ?_
 refine LW.nil hL rfl ?_
 refine NW.then ?_
 refine CW.seq ?_
 refine CW.region fun L hL => ?_
 refine LW.rd hL rfl (Wants.free rfl) rfl (Rd.makeFunc rfl) ?_
 refine LW.rd hL rfl (Wants.free rfl) rfl (Rd.assign (v := .func (.func 74) #[] #[.pointer (some (⟨b1, 0, none⟩ : Addr))]) rfl) ?_
 refine LW.nil hL rfl ?_
 refine NW.then ?_
 refine CW.ret ?_
 exact res1 rfl rfl ⟨.func (.func 74) #[] #[.pointer (some (⟨b1, 0, none⟩ : Addr))], rfl, h⟩
/- maps.Keys[map[pomander/api.Place]uint32,pomander/api.Place,uint32]$1 -/
def W_maps_Keys_134_1 (yield1 : Value) (cap1 : Addr) (w : World) (R : World → Prop) : Prop :=
 ∃ (t1 : Option Nat), w.cell? cap1 = some (.map t1) ∧ (∃ (it1 : Option Addr) (w1 : World), (Instr.range 99 (.map t1)).run Tryz.prog w = .ok (.pointer it1) w1 ∧ (∃ (I1 : World → Prop) (m1 : World → Nat), I1 w1 ∧ ∀ (w2 : World), I1 w2 → ∃ (nx1 : Array Value) (ok1 : Bool) (w3 : World), (Instr.next (.pointer it1) false 0).run Tryz.prog w2 = .ok (.tuple nx1) w3 ∧ nx1[0]? = some (.bool ok1) ∧ ((ok1 = true → ∃ (k1 : Int) (k2 : Int) (v1 : Int), (Instr.entry (.pointer it1)).run Tryz.prog w3 = .ok (.tuple #[.agg #[.int .i64 k1, .int .i64 k2], .int .u32 v1]) w3 ∧ (∀ (b1 : Nat) (w5 : World), (w3.heap.size ≤ b1 ∧ b1 < w5.heap.size) → Chg [] w3 w5 → (XR.CallsY Tryz.prog yield1 #[.agg #[.int .i64 k1, .int .i64 k2]] w5 fun e w6 => ∃ (r1 : Bool), e = .returned (.bool r1) ∧ (((!r1) = true → R w6) ∧ ((!r1) = false → (I1 w6 ∧ m1 w6 < m1 w2)))))) ∧ (ok1 = false → R w3))))
set_option maxRecDepth 100000 in
theorem go_maps_Keys_134_1 (yield1 : Value) (cap1 : Addr) (w : World) (R : World → Prop) (h : W_maps_Keys_134_1 yield1 cap1 w R) : Calls Tryz.prog 74 #[yield1, .pointer (some cap1)] w (fun e w' => e = .returned (.tuple #[]) ∧ R w') := by
 unfold W_maps_Keys_134_1 at h
 refine enter (N := 14) Tryz.func74 rfl rfl ?_
 refine CW.seq ?_
 refine CW.region fun L hL => ?_
 obtain ⟨t1, hc1, h⟩ := h
 refine LW.rd hL rfl (Wants.free rfl) rfl (Rd.ld (v := .map t1) rfl (by kernel_rfl) (eqs hc1)) ?_
 obtain ⟨it1, w1, hm1, h⟩ := h
 refine LW.val hL rfl (Wants.free rfl) rfl (Vl.range (v := .pointer it1) rfl hm1) ?_
 refine LW.nil hL rfl ?_
 refine NW.then ?_
 refine CW.block ?_
 obtain ⟨I1, m1, hI1, h⟩ := h
 refine CW.loop (S := Unit) (fun s1 => [(0, yield1), (5, .pointer it1)]) (fun s1 w2 => I1 w2) (fun s1 w2 => m1 w2) () (by exact ⟨rfl, rfl, trivial⟩) hI1 (fun s1 w2 hI1 => ?_)
 replace h := h w2 hI1
 refine CW.seq ?_
 refine CW.region fun L hL => ?_
 obtain ⟨nx1, ok1, w3, hm2, hk1, h⟩ := h
 refine LW.val hL rfl (Wants.free rfl) rfl (Vl.next (v := .tuple nx1) rfl hm2) ?_
 refine LW.rd hL rfl (Wants.free rfl) rfl (Rd.extract (v := .bool ok1) rfl hk1) ?_
 refine LW.nil hL rfl ?_
 refine NW.then ?_
 refine CW.seq ?_
 refine CW.cond rfl (fun hb1 => ?_) (fun hb1 => ?_)
 ·replace h := h.1 hb1
  refine CW.skip ?_
  refine NW.then ?_
  refine CW.block ?_
  refine CW.seq ?_
  refine CW.region fun L hL => ?_
  obtain ⟨k1, k2, v1, hl1, h⟩ := h
  refine LW.rd hL rfl (Wants.free rfl) rfl (Rd.entry (v := .tuple #[.agg #[.int .i64 k1, .int .i64 k2], .int .u32 v1]) rfl (fun _ e => e ▸ hl1)) ?_
  refine LW.rd hL rfl (Wants.free rfl) rfl (Rd.extract (v := .agg #[.int .i64 k1, .int .i64 k2]) rfl rfl) ?_
  obtain ⟨b1, hb_b1⟩ : ∃ b1, b1 = World.size w3 := ⟨_, rfl⟩
  obtain ⟨w4, hw_w4⟩ : ∃ w4, w4 = World.alloc w3 (.cells #[.int .i64 0, .int .i64 0] 25) := ⟨_, rfl⟩
  refine LW.val hL rfl (Wants.free rfl) rfl (boxE hb_b1 hw_w4 (Vl.alloc (z := .agg #[.int .i64 0, .int .i64 0]) (by kernel_rfl))) ?_
  have hB := Boxes.alloc (cs := [.int .i64 0, .int .i64 0]) (T := 25) (Boxes.nil w3) hb_b1 hw_w4
  have hlo_b1 := sil_lo (Chg.refl [] w3) hb_b1
  have hc_w4 := sil_alloc (Chg.refl [] w3) hw_w4
  obtain ⟨w5, hw_w5⟩ : ∃ x, x = setCells w4 (⟨b1, 0, none⟩ : Addr) 0 [.int .i64 k1, .int .i64 k2] := ⟨_, rfl⟩
  refine LW.eff hL rfl (Wants.free rfl) rfl (stNE hw_w5 (Ef.stN (cs := [.int .i64 k1, .int .i64 k2]) rfl rfl (by kernel_rfl) (List.forall_mem_cons.2 ⟨rfl, (List.forall_mem_cons.2 ⟨rfl, (List.forall_mem_nil _)⟩)⟩) (has_of (hB.at (i := 0) rfl) (by simp)) (free_of' (hB.at (i := 0) rfl)))) ?_
  replace hB : Boxes w5 [(b1, [.int .i64 k1, .int .i64 k2], 25)] := Boxes.store (vs := [.int .i64 k1, .int .i64 k2]) (i := 0) (o := 0) hB rfl rfl rfl rfl hw_w5
  have hc_w5 := sil_new hc_w4 (sil_cN hw_w5) hlo_b1
  refine LW.nil hL rfl ?_
  refine NW.then ?_
  refine CW.seq ?_
  refine XR.CW.un ?_
  refine XR.CW.region fun L hL => ?_
  refine XR.LW.rd hL rfl (Wants.free rfl) rfl (Rd.move (v := yield1) rfl) ?_
  refine XR.LW.rd hL rfl (Wants.free rfl) rfl (Rd.ldN (cs := [.int .i64 k1, .int .i64 k2]) rfl (by kernel_rfl) (by kernel_rfl) (cellsS (box_cells (hB.at (i := 0) rfl) rfl))) ?_
  replace h := h b1 w5 ⟨hlo_b1, lt_of_heap (hB.at (i := 0) rfl)⟩ hc_w5
  refine XR.LW.callY hL rfl (Wants.free rfl) rfl rfl rfl h (fun e w6 h_ => ?_)
  clear h
  obtain ⟨r1, rfl, h⟩ := h_
  refine ⟨_, rfl, ?_⟩
  refine XR.LW.rd hL rfl (Wants.free rfl) rfl (Rd.un (v := .bool (!r1)) rfl (fun _ => by kernel_rfl)) ?_
  refine XR.LW.nil hL rfl ?_
  refine NW.then ?_
  refine CW.cond rfl (fun hb2 => ?_) (fun hb2 => ?_)
  ·replace h := h.1 hb2
   refine CW.ret ?_
   refine RW.block ?_
   refine RW.then ?_
   refine RW.block ?_
   exact res0 rfl ⟨rfl, h⟩
  ·replace h := h.2 hb2
   refine CW.skip ?_
   refine NW.block ?_
   exact NW.loop (S := Unit) (Ek := fun s1 => [(0, yield1), (5, .pointer it1)]) () (by exact ⟨rfl, rfl, trivial⟩) h
 ·replace h := h.2 hb1
  refine CW.exit ?_
  refine XW.then ?_
  refine XW.then ?_
  refine XW.hit ?_
  exact res0n rfl (by exact ⟨rfl, h⟩)
/- slices.AppendSeq[[]pomander/api.Place,pomander/api.Place] -/
def W_slices_AppendSeq_194 (s1 : Option Addr) (s1n : Nat) (s1c : Nat) (seq1 : Value) (w : World) (R : (Option Addr) → Nat → Nat → World → Prop) : Prop :=
 ∀ (b1 : Nat) (w1 : World), (w.heap.size ≤ b1 ∧ b1 < w1.heap.size) → Chg [] w w1 → (∃ (S1 Sp1 : List (Int × Int) → Prop) (keep1 : List Nat), XR.IsFn Tryz.prog seq1 ∧ XR.Iterates Tryz.prog seq1 (fun x : Int × Int => #[.agg #[.int .i64 x.1, .int .i64 x.2]]) S1 Sp1 keep1 w1 ∧ (∀ i_ ∈ keep1, i_ < w1.heap.size) ∧ ∃ (I1 : (Option Addr) → Nat → Nat → List Nat → List (Int × Int) → World → Prop), (∀ (c1 : Option Addr) (c1n : Nat) (c1c : Nat) (pre_ : List (Int × Int)), XR.Stab w1 (fun O_ w_ => I1 c1 c1n c1c O_ pre_ w_)) ∧ (∀ (O1 : List Nat) (w2 : World), Chg [] w1 w2 → XR.InO w1 O1 w2 → I1 s1 s1n s1c O1 ([]) w2) ∧ (∀ (l1 : Nat) (O1 : List Nat) (pre1 : List (Int × Int)) (x1 : Int) (x2 : Int) (c1 : Option Addr) (c1n : Nat) (c1c : Nat) (w2 : World), XR.InO w1 O1 w2 → l1 ∈ O1 → Sp1 (pre1 ++ [(x1, x2)]) → I1 c1 c1n c1c O1 pre1 w2 → (∀ (b2 : Nat) (w5 : World), (w2.heap.size ≤ b2 ∧ b2 < w5.heap.size) → Chg [l1] w2 w5 → (∀ b3 : Nat, b3 = World.size w5 → ∀ w6 : World, w6 = World.alloc w5 (.cells #[.int .i64 x1, .int .i64 x2] 25) → (∃ (l2 : Option Addr) (l2n : Nat) (l2c : Nat) (w7 : World), (Builtin.append_ #[34, 34] 34 #[.slice c1 c1n c1c, .slice (some (⟨b3, 0, none⟩ : Addr)) 1 1]).run Tryz.prog w6 = .ok (.slice l2 l2n l2c) w7 ∧ (Same w6 w7 [b1] ∧ (∀ (w8 : World), Chg [b1] w7 w8 → ((w5.heap.size ≤ w8.heap.size ∧ I1 l2 l2n l2c O1 (pre1 ++ [(x1, x2)]) w8 ∧ Same w5 w8 (keep1 ++ O1))))))))) ∧ (∀ (d1 : Nat) (O2 : List Nat) (xs1 : List (Int × Int)) (c1 : Option Addr) (c1n : Nat) (c1c : Nat) (w9 : World), XR.InO w1 O2 w9 → d1 ∈ O2 → S1 xs1 → I1 c1 c1n c1c O2 xs1 w9 → (∀ w10 : World, Chg [d1] w9 w10 → (R c1 c1n c1c w10))))
set_option maxRecDepth 100000 in
theorem go_slices_AppendSeq_194 (s1 : Option Addr) (s1n : Nat) (s1c : Nat) (seq1 : Value) (w : World) (R : (Option Addr) → Nat → Nat → World → Prop) (h : W_slices_AppendSeq_194 s1 s1n s1c seq1 w R) : Calls Tryz.prog 75 #[.slice s1 s1n s1c, seq1] w (fun e w' => ∃ (r1 : Option Addr) (r1n : Nat) (r1c : Nat), e = .returned (.slice r1 r1n r1c) ∧ R r1 r1n r1c w') := by
 unfold W_slices_AppendSeq_194 at h
 refine XR.enterM (N := 13) Tryz.func75 rfl rfl ?_
 refine CW.seq ?_
 refine CW.region fun L hL => ?_
 obtain ⟨b1, hb_b1⟩ : ∃ b1, b1 = World.size w := ⟨_, rfl⟩
 obtain ⟨w1, hw_w1⟩ : ∃ w1, w1 = World.alloc w (.cells #[.slice s1 s1n s1c] 34) := ⟨_, rfl⟩
 refine LW.val hL rfl (Wants.free rfl) rfl (boxE hb_b1 hw_w1 (Vl.box (v := .slice s1 s1n s1c) rfl)) ?_
 have hB := Boxes.alloc (cs := [.slice s1 s1n s1c]) (T := 34) (Boxes.nil w) hb_b1 hw_w1
 have hlo_b1 := sil_lo (Chg.refl [] w) hb_b1
 have hc_w1 := sil_alloc (Chg.refl [] w) hw_w1
 refine LW.rd hL rfl (Wants.free rfl) rfl (Rd.assign (v := .slice none 0 0) rfl) ?_
 refine LW.nil hL rfl ?_
 refine NW.then ?_
 refine CW.seq ?_
 refine CW.seq ?_
 refine CW.region fun L hL => ?_
 refine LW.rd hL rfl (Wants.free rfl) rfl (Rd.move (v := seq1) rfl) ?_
 refine LW.nil hL rfl ?_
 refine NW.then ?_
 refine CW.block ?_
 replace h := h b1 w1 ⟨hlo_b1, lt_of_heap (hB.at (i := 0) rfl)⟩ hc_w1
 obtain ⟨S1, Sp1, keep1, hfn_, hit_, hkp_, I1, hst_I1, h0_, hrd_, hdn_⟩ := h
 refine XR.CW.rangeV (α := Int × Int) (enc := (fun x : Int × Int => #[.agg #[.int .i64 x.1, .int .i64 x.2]])) (S := S1) (Sp := Sp1) (keep := keep1) rfl hfn_ (fun _ => rfl) (by decide) hit_ (fun (O_ : List Nat) (pre_ : List (Int × Int)) (w_ : World) => ∃ (c1 : Option Addr) (c1n : Nat) (c1c : Nat), I1 c1 c1n c1c O_ pre_ w_ ∧ Boxes w_ [(b1, [.slice c1 c1n c1c], 34)]) (fun (c_ : Code) (O_ : List Nat) (pre_ : List (Int × Int)) (w_ : World) => False) ?_ ?_ ?_ hkp_ ?_ ?_ ?_
 ·intro pre_ O_ O2_ A_ B_ hi_ hO_ hc_ hO2_ hg_
  have hB0_ := hB
  obtain ⟨c1, c1n, c1c, hi_, hB⟩ := hi_
  exact ⟨c1, c1n, c1c, hst_I1 c1 c1n c1c pre_ O_ O2_ A_ B_ hi_ hO_ hc_ hO2_ hg_, hB.stab hB0_ rfl hO_ hc_⟩
 ·intro c_ pre_ O_ O2_ A_ B_ hi_ hO_ hc_ hO2_ hg_
  exact hi_.elim
 ·intro O_ A_ hc_ hO_
  exact ⟨s1, s1n, s1c, h0_ O_ A_ hc_ hO_, Boxes.chg hB hc_ (by simp)⟩
 ·intro l1 O1 pre1 x_ w2 hO_ hl_ hSp_ hi_
  obtain ⟨x1, x2⟩ := x_
  obtain ⟨c1, c1n, c1c, hi_, hB⟩ := hi_
  have h := hrd_ l1 O1 pre1 x1 x2 c1 c1n c1c w2 hO_ hl_ hSp_ hi_
  refine XR.CW.region fun L hL => ?_
  obtain ⟨b2, hb_b2⟩ : ∃ b2, b2 = World.size w2 := ⟨_, rfl⟩
  obtain ⟨w3, hw_w3⟩ : ∃ w3, w3 = World.alloc w2 (.cells #[.int .i64 0, .int .i64 0] 25) := ⟨_, rfl⟩
  refine XR.LW.val hL rfl (Wants.free rfl) rfl (boxE hb_b2 hw_w3 (Vl.alloc (z := .agg #[.int .i64 0, .int .i64 0]) (by kernel_rfl))) ?_
  replace hB := Boxes.alloc (cs := [.int .i64 0, .int .i64 0]) (T := 25) hB hb_b2 hw_w3
  have hlo_b2 := sil_lo (Chg.refl [] w2) hb_b2
  have hc_w3 := sil_alloc (Chg.refl [] w2) hw_w3
  obtain ⟨w4, hw_w4⟩ : ∃ x, x = setCells w3 (⟨b2, 0, none⟩ : Addr) 0 [.int .i64 x1, .int .i64 x2] := ⟨_, rfl⟩
  refine XR.LW.eff hL rfl (Wants.free rfl) rfl (stNE hw_w4 (Ef.stN (cs := [.int .i64 x1, .int .i64 x2]) rfl rfl (by kernel_rfl) (List.forall_mem_cons.2 ⟨rfl, (List.forall_mem_cons.2 ⟨rfl, (List.forall_mem_nil _)⟩)⟩) (has_of (hB.at (i := 0) rfl) (by simp)) (free_of' (hB.at (i := 0) rfl)))) ?_
  replace hB : Boxes w4 [(b2, [.int .i64 x1, .int .i64 x2], 25), (b1, [.slice c1 c1n c1c], 34)] := Boxes.store (vs := [.int .i64 x1, .int .i64 x2]) (i := 0) (o := 0) hB rfl rfl rfl rfl hw_w4
  have hc_w4 := sil_new hc_w3 (sil_cN hw_w4) hlo_b2
  refine XR.LW.nil hL rfl ?_
  refine XR.NW.begin hc_w4 (fun w5 hcb_w5 hlp_ hib_ => ?_)
  have hc_w5 : Chg [l1] w2 w5 := sil_more hc_w4 hcb_w5
  replace hB := hB.notloop hlp_ hcb_w5
  replace h := h b2 w5 ⟨hlo_b2, lt_of_heap (hB.at (i := 0) rfl)⟩ hc_w5
  refine XR.CW.block ?_
  refine XR.CW.region fun L hL => ?_
  refine XR.LW.rd hL rfl (Wants.free rfl) rfl (Rd.ld (v := .slice c1 c1n c1c) rfl (by kernel_rfl) (eqs (box_cell (hB.at (i := 1) rfl) rfl))) ?_
  refine XR.LW.rd hL rfl (Wants.free rfl) rfl (Rd.ldN (cs := [.int .i64 x1, .int .i64 x2]) rfl (by kernel_rfl) (by kernel_rfl) (cellsS (box_cells (hB.at (i := 0) rfl) rfl))) ?_
  obtain ⟨b3, hb_b3⟩ : ∃ b3, b3 = World.size w5 := ⟨_, rfl⟩
  obtain ⟨w6, hw_w6⟩ : ∃ w6, w6 = World.alloc w5 (.cells #[.int .i64 x1, .int .i64 x2] 25) := ⟨_, rfl⟩
  replace h := h b3 hb_b3 w6 hw_w6
  refine XR.LW.val hL rfl (Wants.free rfl) rfl (sliceE (n := 1) hb_b3 hw_w6 (fun w => Vl.buildSlice (vs := [(0, .agg #[.int .i64 x1, .int .i64 x2])]) rfl (by kernel_rfl))) ?_
  replace hB := hB.grow hw_w6
  obtain ⟨l2, l2n, l2c, w7, ha1, h⟩ := h
  refine XR.LW.val hL rfl (Wants.free rfl) rfl (Vl.builtin (v := .slice l2 l2n l2c) rfl (valB ha1)) ?_
  obtain ⟨hsm1, h⟩ := h
  replace hB := Boxes.sameS (hB.sel [1] (by decide) rfl) hsm1 (by simp)
  obtain ⟨w8, hw_w8⟩ : ∃ x, x = World.setCell w7 (⟨b1, 0, none⟩ : Addr) (.slice l2 l2n l2c) := ⟨_, rfl⟩
  refine XR.LW.eff hL rfl (Wants.free rfl) rfl (stE hw_w8 (Ef.st rfl rfl rfl (by kernel_rfl) (box_cell (v := .slice c1 c1n c1c) (hB.at (i := 0) rfl) rfl) (free_of (hB.at (i := 0) rfl) 0))) ?_
  replace hB : Boxes w8 [(b1, [.slice l2 l2n l2c], 34)] := Boxes.store1  (i := 0) (o := 0) hB rfl rfl rfl rfl hw_w8
  have hc_w8 : Chg [b1] w7 w8 := sil_more (Chg.refl [] w7) (sil_c1 hw_w8)
  refine XR.LW.nil hL rfl ?_
  refine NW.block ?_
  replace h := h  w8  hc_w8
  exact fun a_ ha_ => ⟨h.1, ⟨l2, l2n, l2c, h.2.1, hB⟩, h.2.2⟩
 ·intro d1 O2 xs1 w9 hO_ hd_ hdh_ hS_ hi_
  obtain ⟨c1, c1n, c1c, hi_, hB⟩ := hi_
  have h := hdn_ d1 O2 xs1 c1 c1n c1c w9 hO_ hd_ hS_ hi_
  have hK := XR.Marks.cons (XR.Marks.nil _) hdh_ (by simp)
  refine NW.block ?_
  refine NW.then ?_
  refine CW.seq ?_
  refine CW.region fun L hL => ?_
  refine LW.rd hL rfl (Wants.free rfl) rfl (Rd.ld (v := .slice c1 c1n c1c) rfl (by kernel_rfl) (eqs (box_cell (hB.at (i := 0) rfl) rfl))) ?_
  refine LW.rd hL rfl (Wants.free rfl) rfl (Rd.assign (v := .slice c1 c1n c1c) rfl) ?_
  refine LW.nil hL rfl ?_
  refine NW.then ?_
  refine CW.ret ?_
  exact XR.resM (ms := [d1]) (vs := [.slice c1 c1n c1c]) hK rfl (fun w_ hc_ => ⟨(ResOK.t rfl ResOK.nil), c1, c1n, c1c, rfl, h w_ hc_⟩)
 ·intro d2 c_ O3 xs2 w11 hO_ hd_ hdh_ hS_ hi_
  exact hi_.elim
/- slices.Collect[pomander/api.Place] -/
def W_slices_Collect_841 (seq1 : Value) (w : World) (R : (Option Addr) → Nat → Nat → World → Prop) : Prop :=
 Calls Tryz.prog 75 #[.slice none 0 0, seq1] w fun e w1 => ∃ (r2 : Option Addr) (r2n : Nat) (r2c : Nat), e = .returned (.slice r2 r2n r2c) ∧ (R r2 r2n r2c w1)
set_option maxRecDepth 100000 in
theorem go_slices_Collect_841 (seq1 : Value) (w : World) (R : (Option Addr) → Nat → Nat → World → Prop) (h : W_slices_Collect_841 seq1 w R) : Calls Tryz.prog 54 #[seq1] w (fun e w' => ∃ (r1 : Option Addr) (r1n : Nat) (r1c : Nat), e = .returned (.slice r1 r1n r1c) ∧ R r1 r1n r1c w') := by
 unfold W_slices_Collect_841 at h
 refine enter (N := 5) Tryz.func54 rfl rfl ?_
 refine CW.seq ?_
 refine CW.region fun L hL => ?_
 refine LW.rd hL rfl (Wants.free rfl) rfl (Rd.assign (v := .slice none 0 0) rfl) ?_
 refine LW.nil hL rfl ?_
 refine NW.then ?_
 refine CW.seq ?_
 refine CW.region fun L hL => ?_
 refine LW.rd hL rfl (Wants.free rfl) rfl (Rd.move (v := seq1) rfl) ?_
 refine LW.call hL rfl (Wants.free rfl) rfl (Cl.fn (f := 75) rfl Tryz.func75 (by kernel_rfl) rfl) h (fun e w1 h_ => ?_)
 clear h
 obtain ⟨r2, r2n, r2c, rfl, h⟩ := h_
 refine ⟨_, rfl, ?_⟩
 refine LW.rd hL rfl (Wants.free rfl) rfl (Rd.assign (v := .slice r2 r2n r2c) rfl) ?_
 refine LW.nil hL rfl ?_
 refine NW.then ?_
 refine CW.ret ?_
 exact res1 rfl rfl ⟨r2, r2n, r2c, rfl, h⟩
/- slices.SortedFunc[pomander/api.Place] -/
def W_slices_SortedFunc_841 (seq1 : Value) (cmp1 : Value) (w : World) (R : (Option Addr) → Nat → Nat → World → Prop) : Prop :=
 Calls Tryz.prog 54 #[seq1] w fun e w1 => ∃ (r2 : Option Addr) (r2n : Nat) (r2c : Nat), e = .returned (.slice r2 r2n r2c) ∧ (Calls Tryz.prog 55 #[.slice r2 r2n r2c, cmp1] w1 fun e w2 => e = .returned (.tuple #[]) ∧ (R r2 r2n r2c w2))
set_option maxRecDepth 100000 in
theorem go_slices_SortedFunc_841 (seq1 : Value) (cmp1 : Value) (w : World) (R : (Option Addr) → Nat → Nat → World → Prop) (h : W_slices_SortedFunc_841 seq1 cmp1 w R) : Calls Tryz.prog 30 #[seq1, cmp1] w (fun e w' => ∃ (r1 : Option Addr) (r1n : Nat) (r1c : Nat), e = .returned (.slice r1 r1n r1c) ∧ R r1 r1n r1c w') := by
 unfold W_slices_SortedFunc_841 at h
 refine enter (N := 12) Tryz.func30 rfl rfl ?_
 refine CW.seq ?_
 refine CW.region fun L hL => ?_
 refine LW.rd hL rfl (Wants.free rfl) rfl (Rd.assign (v := .slice none 0 0) rfl) ?_
 refine LW.nil hL rfl ?_
 refine NW.then ?_
 refine CW.seq ?_
 refine CW.region fun L hL => ?_
 refine LW.rd hL rfl (Wants.free rfl) rfl (Rd.move (v := seq1) rfl) ?_
 refine LW.call hL rfl (Wants.free rfl) rfl (Cl.fn (f := 54) rfl Tryz.func54 (by kernel_rfl) rfl) h (fun e w1 h_ => ?_)
 clear h
 obtain ⟨r2, r2n, r2c, rfl, h⟩ := h_
 refine ⟨_, rfl, ?_⟩
 refine LW.rd hL rfl (Wants.free rfl) rfl (Rd.assign (v := .slice r2 r2n r2c) rfl) ?_
 refine LW.nil hL rfl ?_
 refine NW.then ?_
 refine CW.seq ?_
 refine CW.region fun L hL => ?_
 refine LW.rd hL rfl (Wants.free rfl) rfl (Rd.move (v := .slice r2 r2n r2c) rfl) ?_
 refine LW.rd hL rfl (Wants.free rfl) rfl (Rd.move (v := cmp1) rfl) ?_
 refine LW.call hL rfl (Wants.free rfl) rfl (Cl.fn (f := 55) rfl Tryz.func55 (by kernel_rfl) rfl) h (fun e w2 h_ => ?_)
 clear h
 obtain ⟨rfl, h⟩ := h_
 refine ⟨_, rfl, ?_⟩
 refine LW.nil hL rfl ?_
 refine NW.then ?_
 refine CW.seq ?_
 refine CW.region fun L hL => ?_
 refine LW.rd hL rfl (Wants.free rfl) rfl (Rd.move (v := .slice r2 r2n r2c) rfl) ?_
 refine LW.rd hL rfl (Wants.free rfl) rfl (Rd.assign (v := .slice r2 r2n r2c) rfl) ?_
 refine LW.nil hL rfl ?_
 refine NW.then ?_
 refine CW.ret ?_
 exact res1 rfl rfl ⟨r2, r2n, r2c, rfl, h⟩
/- cmp.Compare[pomander/api.PlaceKind] -/
def W_cmp_Compare_942 (x1 : Int) (y1 : Int) (w : World) (R : Int → World → Prop) : Prop :=
 Calls Tryz.prog 78 #[.int .i64 x1] w fun e w1 => ∃ (r2 : Bool), e = .returned (.bool r2) ∧ (Calls Tryz.prog 78 #[.int .i64 y1] w1 fun e w2 => ∃ (r3 : Bool), e = .returned (.bool r3) ∧ ((r2 = true → (r3 = true → R 0 w2) ∧ (r3 = false → R (-1) w2)) ∧ (r2 = false → (r3 = true → R 1 w2) ∧ (r3 = false → ((decide (x1 < y1)) = true → R (-1) w2) ∧ ((decide (x1 < y1)) = false → ((decide (x1 > y1)) = true → R 1 w2) ∧ ((decide (x1 > y1)) = false → R 0 w2))))))
set_option maxRecDepth 100000 in
theorem go_cmp_Compare_942 (x1 : Int) (y1 : Int) (w : World) (R : Int → World → Prop) (h : W_cmp_Compare_942 x1 y1 w R) : Calls Tryz.prog 57 #[.int .i64 x1, .int .i64 y1] w (fun e w' => ∃ (r1 : Int), e = .returned (.int .i64 r1) ∧ R r1 w') := by
 unfold W_cmp_Compare_942 at h
 refine enter (N := 20) Tryz.func57 rfl rfl ?_
 refine CW.seq ?_
 refine CW.region fun L hL => ?_
 refine LW.rd hL rfl (Wants.free rfl) rfl (Rd.assign (v := .int .i64 0) rfl) ?_
 refine LW.nil hL rfl ?_
 refine NW.then ?_
 refine CW.seq ?_
 refine CW.region fun L hL => ?_
 refine LW.rd hL rfl (Wants.free rfl) rfl (Rd.move (v := .int .i64 x1) rfl) ?_
 refine LW.call hL rfl (Wants.free rfl) rfl (Cl.fn (f := 78) rfl Tryz.func78 (by kernel_rfl) rfl) h (fun e w1 h_ => ?_)
 clear h
 obtain ⟨r2, rfl, h⟩ := h_
 refine ⟨_, rfl, ?_⟩
 refine LW.rd hL rfl (Wants.free rfl) rfl (Rd.assign (v := .bool r2) rfl) ?_
 refine LW.nil hL rfl ?_
 refine NW.then ?_
 refine CW.seq ?_
 refine CW.region fun L hL => ?_
 refine LW.rd hL rfl (Wants.free rfl) rfl (Rd.move (v := .int .i64 y1) rfl) ?_
 refine LW.call hL rfl (Wants.free rfl) rfl (Cl.fn (f := 78) rfl Tryz.func78 (by kernel_rfl) rfl) h (fun e w2 h_ => ?_)
 clear h
 obtain ⟨r3, rfl, h⟩ := h_
 refine ⟨_, rfl, ?_⟩
 refine LW.rd hL rfl (Wants.free rfl) rfl (Rd.assign (v := .bool r3) rfl) ?_
 refine LW.nil hL rfl ?_
 refine NW.then ?_
 refine CW.seq ?_
 refine CW.seq ?_
 refine CW.region fun L hL => ?_
 refine LW.rd hL rfl (Wants.free rfl) rfl (Rd.move (v := .bool r2) rfl) ?_
 refine LW.nil hL rfl ?_
 refine NW.then ?_
 refine CW.cond rfl (fun hb1 => ?_) (fun hb1 => ?_)
 ·replace h := h.1 hb1
  refine CW.seq ?_
  refine CW.seq ?_
  refine CW.region fun L hL => ?_
  refine LW.rd hL rfl (Wants.free rfl) rfl (Rd.move (v := .bool r3) rfl) ?_
  refine LW.nil hL rfl ?_
  refine NW.then ?_
  refine CW.cond rfl (fun hb2 => ?_) (fun hb2 => ?_)
  ·replace h := h.1 hb2
   refine CW.seq ?_
   refine CW.region fun L hL => ?_
   refine LW.rd hL rfl (Wants.free rfl) rfl (Rd.assign (v := .int .i64 0) rfl) ?_
   refine LW.nil hL rfl ?_
   refine NW.then ?_
   refine CW.ret ?_
   refine RW.then ?_
   refine RW.then ?_
   exact res1 rfl rfl ⟨0, rfl, h⟩
  ·replace h := h.2 hb2
   refine CW.skip ?_
   refine NW.then ?_
   refine CW.seq ?_
   refine CW.region fun L hL => ?_
   refine LW.rd hL rfl (Wants.free rfl) rfl (Rd.assign (v := .int .i64 (-1)) rfl) ?_
   refine LW.nil hL rfl ?_
   refine NW.then ?_
   refine CW.ret ?_
   refine RW.then ?_
   exact res1 rfl rfl ⟨(-1), rfl, h⟩
 ·replace h := h.2 hb1
  refine CW.skip ?_
  refine NW.then ?_
  refine CW.seq ?_
  refine CW.seq ?_
  refine CW.region fun L hL => ?_
  refine LW.rd hL rfl (Wants.free rfl) rfl (Rd.move (v := .bool r3) rfl) ?_
  refine LW.nil hL rfl ?_
  refine NW.then ?_
  refine CW.cond rfl (fun hb3 => ?_) (fun hb3 => ?_)
  ·replace h := h.1 hb3
   refine CW.seq ?_
   refine CW.region fun L hL => ?_
   refine LW.rd hL rfl (Wants.free rfl) rfl (Rd.assign (v := .int .i64 1) rfl) ?_
   refine LW.nil hL rfl ?_
   refine NW.then ?_
   refine CW.ret ?_
   refine RW.then ?_
   exact res1 rfl rfl ⟨1, rfl, h⟩
  ·replace h := h.2 hb3
   refine CW.skip ?_
   refine NW.then ?_
   refine CW.seq ?_
   refine CW.seq ?_
   refine CW.region fun L hL => ?_
   refine LW.rd hL rfl (Wants.free rfl) rfl (Rd.move (v := .int .i64 x1) rfl) ?_
   refine LW.rd hL rfl (Wants.free rfl) rfl (Rd.move (v := .int .i64 y1) rfl) ?_
   refine LW.rd hL rfl (Wants.free rfl) rfl (Rd.bin (v := .bool (decide (x1 < y1))) rfl rfl (fun w => by kernel_rfl)) ?_
   refine LW.nil hL rfl ?_
   refine NW.then ?_
   refine CW.cond rfl (fun hb4 => ?_) (fun hb4 => ?_)
   ·replace h := h.1 hb4
    refine CW.seq ?_
    refine CW.region fun L hL => ?_
    refine LW.rd hL rfl (Wants.free rfl) rfl (Rd.assign (v := .int .i64 (-1)) rfl) ?_
    refine LW.nil hL rfl ?_
    refine NW.then ?_
    refine CW.ret ?_
    refine RW.then ?_
    exact res1 rfl rfl ⟨(-1), rfl, h⟩
   ·replace h := h.2 hb4
    refine CW.skip ?_
    refine NW.then ?_
    refine CW.seq ?_
    refine CW.seq ?_
    refine CW.region fun L hL => ?_
    refine LW.rd hL rfl (Wants.free rfl) rfl (Rd.move (v := .int .i64 x1) rfl) ?_
    refine LW.rd hL rfl (Wants.free rfl) rfl (Rd.move (v := .int .i64 y1) rfl) ?_
    refine LW.rd hL rfl (Wants.free rfl) rfl (Rd.bin (v := .bool (decide (x1 > y1))) rfl rfl (fun w => by kernel_rfl)) ?_
    refine LW.nil hL rfl ?_
    refine NW.then ?_
    refine CW.cond rfl (fun hb5 => ?_) (fun hb5 => ?_)
    ·replace h := h.1 hb5
     refine CW.seq ?_
     refine CW.region fun L hL => ?_
     refine LW.rd hL rfl (Wants.free rfl) rfl (Rd.assign (v := .int .i64 1) rfl) ?_
     refine LW.nil hL rfl ?_
     refine NW.then ?_
     refine CW.ret ?_
     refine RW.then ?_
     exact res1 rfl rfl ⟨1, rfl, h⟩
    ·replace h := h.2 hb5
     refine CW.skip ?_
     refine NW.then ?_
     refine CW.seq ?_
     refine CW.region fun L hL => ?_
     refine LW.rd hL rfl (Wants.free rfl) rfl (Rd.assign (v := .int .i64 0) rfl) ?_
     refine LW.nil hL rfl ?_
     refine NW.then ?_
     refine CW.ret ?_
     exact res1 rfl rfl ⟨0, rfl, h⟩
/- cmp.Compare[int] -/
def W_cmp_Compare_61 (x1 : Int) (y1 : Int) (w : World) (R : Int → World → Prop) : Prop :=
 Calls Tryz.prog 79 #[.int .i64 x1] w fun e w1 => ∃ (r2 : Bool), e = .returned (.bool r2) ∧ (Calls Tryz.prog 79 #[.int .i64 y1] w1 fun e w2 => ∃ (r3 : Bool), e = .returned (.bool r3) ∧ ((r2 = true → (r3 = true → R 0 w2) ∧ (r3 = false → R (-1) w2)) ∧ (r2 = false → (r3 = true → R 1 w2) ∧ (r3 = false → ((decide (x1 < y1)) = true → R (-1) w2) ∧ ((decide (x1 < y1)) = false → ((decide (x1 > y1)) = true → R 1 w2) ∧ ((decide (x1 > y1)) = false → R 0 w2))))))
set_option maxRecDepth 100000 in
theorem go_cmp_Compare_61 (x1 : Int) (y1 : Int) (w : World) (R : Int → World → Prop) (h : W_cmp_Compare_61 x1 y1 w R) : Calls Tryz.prog 58 #[.int .i64 x1, .int .i64 y1] w (fun e w' => ∃ (r1 : Int), e = .returned (.int .i64 r1) ∧ R r1 w') := by
 unfold W_cmp_Compare_61 at h
 refine enter (N := 20) Tryz.func58 rfl rfl ?_
 refine CW.seq ?_
 refine CW.region fun L hL => ?_
 refine LW.rd hL rfl (Wants.free rfl) rfl (Rd.assign (v := .int .i64 0) rfl) ?_
 refine LW.nil hL rfl ?_
 refine NW.then ?_
 refine CW.seq ?_
 refine CW.region fun L hL => ?_
 refine LW.rd hL rfl (Wants.free rfl) rfl (Rd.move (v := .int .i64 x1) rfl) ?_
 refine LW.call hL rfl (Wants.free rfl) rfl (Cl.fn (f := 79) rfl Tryz.func79 (by kernel_rfl) rfl) h (fun e w1 h_ => ?_)
 clear h
 obtain ⟨r2, rfl, h⟩ := h_
 refine ⟨_, rfl, ?_⟩
 refine LW.rd hL rfl (Wants.free rfl) rfl (Rd.assign (v := .bool r2) rfl) ?_
 refine LW.nil hL rfl ?_
 refine NW.then ?_
 refine CW.seq ?_
 refine CW.region fun L hL => ?_
 refine LW.rd hL rfl (Wants.free rfl) rfl (Rd.move (v := .int .i64 y1) rfl) ?_
 refine LW.call hL rfl (Wants.free rfl) rfl (Cl.fn (f := 79) rfl Tryz.func79 (by kernel_rfl) rfl) h (fun e w2 h_ => ?_)
 clear h
 obtain ⟨r3, rfl, h⟩ := h_
 refine ⟨_, rfl, ?_⟩
 refine LW.rd hL rfl (Wants.free rfl) rfl (Rd.assign (v := .bool r3) rfl) ?_
 refine LW.nil hL rfl ?_
 refine NW.then ?_
 refine CW.seq ?_
 refine CW.seq ?_
 refine CW.region fun L hL => ?_
 refine LW.rd hL rfl (Wants.free rfl) rfl (Rd.move (v := .bool r2) rfl) ?_
 refine LW.nil hL rfl ?_
 refine NW.then ?_
 refine CW.cond rfl (fun hb1 => ?_) (fun hb1 => ?_)
 ·replace h := h.1 hb1
  refine CW.seq ?_
  refine CW.seq ?_
  refine CW.region fun L hL => ?_
  refine LW.rd hL rfl (Wants.free rfl) rfl (Rd.move (v := .bool r3) rfl) ?_
  refine LW.nil hL rfl ?_
  refine NW.then ?_
  refine CW.cond rfl (fun hb2 => ?_) (fun hb2 => ?_)
  ·replace h := h.1 hb2
   refine CW.seq ?_
   refine CW.region fun L hL => ?_
   refine LW.rd hL rfl (Wants.free rfl) rfl (Rd.assign (v := .int .i64 0) rfl) ?_
   refine LW.nil hL rfl ?_
   refine NW.then ?_
   refine CW.ret ?_
   refine RW.then ?_
   refine RW.then ?_
   exact res1 rfl rfl ⟨0, rfl, h⟩
  ·replace h := h.2 hb2
   refine CW.skip ?_
   refine NW.then ?_
   refine CW.seq ?_
   refine CW.region fun L hL => ?_
   refine LW.rd hL rfl (Wants.free rfl) rfl (Rd.assign (v := .int .i64 (-1)) rfl) ?_
   refine LW.nil hL rfl ?_
   refine NW.then ?_
   refine CW.ret ?_
   refine RW.then ?_
   exact res1 rfl rfl ⟨(-1), rfl, h⟩
 ·replace h := h.2 hb1
  refine CW.skip ?_
  refine NW.then ?_
  refine CW.seq ?_
  refine CW.seq ?_
  refine CW.region fun L hL => ?_
  refine LW.rd hL rfl (Wants.free rfl) rfl (Rd.move (v := .bool r3) rfl) ?_
  refine LW.nil hL rfl ?_
  refine NW.then ?_
  refine CW.cond rfl (fun hb3 => ?_) (fun hb3 => ?_)
  ·replace h := h.1 hb3
   refine CW.seq ?_
   refine CW.region fun L hL => ?_
   refine LW.rd hL rfl (Wants.free rfl) rfl (Rd.assign (v := .int .i64 1) rfl) ?_
   refine LW.nil hL rfl ?_
   refine NW.then ?_
   refine CW.ret ?_
   refine RW.then ?_
   exact res1 rfl rfl ⟨1, rfl, h⟩
  ·replace h := h.2 hb3
   refine CW.skip ?_
   refine NW.then ?_
   refine CW.seq ?_
   refine CW.seq ?_
   refine CW.region fun L hL => ?_
   refine LW.rd hL rfl (Wants.free rfl) rfl (Rd.move (v := .int .i64 x1) rfl) ?_
   refine LW.rd hL rfl (Wants.free rfl) rfl (Rd.move (v := .int .i64 y1) rfl) ?_
   refine LW.rd hL rfl (Wants.free rfl) rfl (Rd.bin (v := .bool (decide (x1 < y1))) rfl rfl (fun w => by kernel_rfl)) ?_
   refine LW.nil hL rfl ?_
   refine NW.then ?_
   refine CW.cond rfl (fun hb4 => ?_) (fun hb4 => ?_)
   ·replace h := h.1 hb4
    refine CW.seq ?_
    refine CW.region fun L hL => ?_
    refine LW.rd hL rfl (Wants.free rfl) rfl (Rd.assign (v := .int .i64 (-1)) rfl) ?_
    refine LW.nil hL rfl ?_
    refine NW.then ?_
    refine CW.ret ?_
    refine RW.then ?_
    exact res1 rfl rfl ⟨(-1), rfl, h⟩
   ·replace h := h.2 hb4
    refine CW.skip ?_
    refine NW.then ?_
    refine CW.seq ?_
    refine CW.seq ?_
    refine CW.region fun L hL => ?_
    refine LW.rd hL rfl (Wants.free rfl) rfl (Rd.move (v := .int .i64 x1) rfl) ?_
    refine LW.rd hL rfl (Wants.free rfl) rfl (Rd.move (v := .int .i64 y1) rfl) ?_
    refine LW.rd hL rfl (Wants.free rfl) rfl (Rd.bin (v := .bool (decide (x1 > y1))) rfl rfl (fun w => by kernel_rfl)) ?_
    refine LW.nil hL rfl ?_
    refine NW.then ?_
    refine CW.cond rfl (fun hb5 => ?_) (fun hb5 => ?_)
    ·replace h := h.1 hb5
     refine CW.seq ?_
     refine CW.region fun L hL => ?_
     refine LW.rd hL rfl (Wants.free rfl) rfl (Rd.assign (v := .int .i64 1) rfl) ?_
     refine LW.nil hL rfl ?_
     refine NW.then ?_
     refine CW.ret ?_
     refine RW.then ?_
     exact res1 rfl rfl ⟨1, rfl, h⟩
    ·replace h := h.2 hb5
     refine CW.skip ?_
     refine NW.then ?_
     refine CW.seq ?_
     refine CW.region fun L hL => ?_
     refine LW.rd hL rfl (Wants.free rfl) rfl (Rd.assign (v := .int .i64 0) rfl) ?_
     refine LW.nil hL rfl ?_
     refine NW.then ?_
     refine CW.ret ?_
     exact res1 rfl rfl ⟨0, rfl, h⟩
/- cmp.isNaN[pomander/api.PlaceKind] -/
def W_cmp_isNaN_942 (x1 : Int) (w : World) (R : Bool → World → Prop) : Prop :=
 R (!(x1 == x1)) w
set_option maxRecDepth 100000 in
theorem go_cmp_isNaN_942 (x1 : Int) (w : World) (R : Bool → World → Prop) (h : W_cmp_isNaN_942 x1 w R) : Calls Tryz.prog 78 #[.int .i64 x1] w (fun e w' => ∃ (r1 : Bool), e = .returned (.bool r1) ∧ R r1 w') := by
 unfold W_cmp_isNaN_942 at h
 refine enter (N := 6) Tryz.func78 rfl rfl ?_
 refine CW.seq ?_
 refine CW.region fun L hL => ?_
 refine LW.rd hL rfl (Wants.free rfl) rfl (Rd.assign (v := .bool false) rfl) ?_
 refine LW.nil hL rfl ?_
 refine NW.then ?_
 refine CW.seq ?_
 refine CW.region fun L hL => ?_
 refine LW.rd hL rfl (Wants.free rfl) rfl (Rd.move (v := .int .i64 x1) rfl) ?_
 refine LW.rd hL rfl (Wants.free rfl) rfl (Rd.move (v := .int .i64 x1) rfl) ?_
 refine LW.rd hL rfl (Wants.free rfl) rfl (Rd.bin (v := .bool (!(x1 == x1))) rfl rfl (fun w => by kernel_rfl)) ?_
 refine LW.rd hL rfl (Wants.free rfl) rfl (Rd.assign (v := .bool (!(x1 == x1))) rfl) ?_
 refine LW.nil hL rfl ?_
 refine NW.then ?_
 refine CW.ret ?_
 exact res1 rfl rfl ⟨!(x1 == x1), rfl, h⟩
/- cmp.isNaN[int] -/
def W_cmp_isNaN_61 (x1 : Int) (w : World) (R : Bool → World → Prop) : Prop :=
 R (!(x1 == x1)) w
set_option maxRecDepth 100000 in
theorem go_cmp_isNaN_61 (x1 : Int) (w : World) (R : Bool → World → Prop) (h : W_cmp_isNaN_61 x1 w R) : Calls Tryz.prog 79 #[.int .i64 x1] w (fun e w' => ∃ (r1 : Bool), e = .returned (.bool r1) ∧ R r1 w') := by
 unfold W_cmp_isNaN_61 at h
 refine enter (N := 6) Tryz.func79 rfl rfl ?_
 refine CW.seq ?_
 refine CW.region fun L hL => ?_
 refine LW.rd hL rfl (Wants.free rfl) rfl (Rd.assign (v := .bool false) rfl) ?_
 refine LW.nil hL rfl ?_
 refine NW.then ?_
 refine CW.seq ?_
 refine CW.region fun L hL => ?_
 refine LW.rd hL rfl (Wants.free rfl) rfl (Rd.move (v := .int .i64 x1) rfl) ?_
 refine LW.rd hL rfl (Wants.free rfl) rfl (Rd.move (v := .int .i64 x1) rfl) ?_
 refine LW.rd hL rfl (Wants.free rfl) rfl (Rd.bin (v := .bool (!(x1 == x1))) rfl rfl (fun w => by kernel_rfl)) ?_
 refine LW.rd hL rfl (Wants.free rfl) rfl (Rd.assign (v := .bool (!(x1 == x1))) rfl) ?_
 refine LW.nil hL rfl ?_
 refine NW.then ?_
 refine CW.ret ?_
 exact res1 rfl rfl ⟨!(x1 == x1), rfl, h⟩
/- (*pomander/flow.Flow).All -/
def W_flow_Flow_All (f1 : Option Addr) (w : World) (R : Value → World → Prop) : Prop :=
 ∀ b1 : Nat, b1 = World.size w → ∀ w1 : World, w1 = World.alloc w (.map #[] 0) → (∀ b2 : Nat, b2 = World.size w1 → ∀ w2 : World, w2 = World.alloc w1 (.cells #[.map none] 99) → ((∃ o : Value, w2.cell? (⟨b2, 0, none⟩ : Addr) = some o) ∧ w2.frozen? (⟨b2, 0, none⟩ : Addr) = false ∧ ∀ w3 : World, w3 = World.setCell w2 (⟨b2, 0, none⟩ : Addr) (.map (some b1)) → (∃ J1 : World → Prop, (∀ (w4 : World), J1 w4 → R (.func (.func 51) #[] #[.pointer (some (⟨b2, 0, none⟩ : Addr))]) w4) ∧ (Calls Tryz.prog 36 #[.pointer f1] w3 fun e w5 => ∃ (r2 : Bool), e = .returned (.bool r2) ∧ (((!r2) = true → Calls Tryz.prog 50 #[.pointer f1] w5 fun e w6 => ∃ (r3 : Option Nat), e = .returned (.map r3) ∧ ((∃ o : Value, w6.cell? (⟨b2, 0, none⟩ : Addr) = some o) ∧ w6.frozen? (⟨b2, 0, none⟩ : Addr) = false ∧ ∀ w7 : World, w7 = World.setCell w6 (⟨b2, 0, none⟩ : Addr) (.map r3) → (J1 w7))) ∧ ((!r2) = false → J1 w5))))))
set_option maxRecDepth 100000 in
theorem go_flow_Flow_All (f1 : Option Addr) (w : World) (R : Value → World → Prop) (h : W_flow_Flow_All f1 w R) : Calls Tryz.prog 28 #[.pointer f1] w (fun e w' => ∃ (r1 : Value), e = .returned (r1) ∧ R r1 w') := by
 unfold W_flow_Flow_All at h
 refine enter (N := 11) Tryz.func28 rfl rfl ?_
 refine CW.seq ?_
 refine CW.region fun L hL => ?_
 refine LW.rd hL rfl (Wants.free rfl) rfl (Rd.assign (v := .nilFunc) rfl) ?_
 refine LW.nil hL rfl ?_
 refine NW.then ?_
 refine CW.seq ?_
 refine CW.region fun L hL => ?_
 obtain ⟨b1, hb_b1⟩ : ∃ b1, b1 = World.size w := ⟨_, rfl⟩
 obtain ⟨w1, hw_w1⟩ : ∃ w1, w1 = World.alloc w (.map #[] 0) := ⟨_, rfl⟩
 replace h := h b1 hb_b1 w1 hw_w1
 refine LW.val hL rfl (Wants.free rfl) rfl (mapE hb_b1 hw_w1 Vl.makeMap) ?_
 obtain ⟨b2, hb_b2⟩ : ∃ b2, b2 = World.size w1 := ⟨_, rfl⟩
 obtain ⟨w2, hw_w2⟩ : ∃ w2, w2 = World.alloc w1 (.cells #[.map none] 99) := ⟨_, rfl⟩
 replace h := h b2 hb_b2 w2 hw_w2
 refine LW.val hL rfl (Wants.free rfl) rfl (boxE hb_b2 hw_w2 (Vl.alloc (z := .map none) (by kernel_rfl))) ?_
 obtain ⟨⟨o_w3, ho1⟩, hf1, h⟩ := h
 obtain ⟨w3, hw_w3⟩ : ∃ w3, w3 = World.setCell w2 (⟨b2, 0, none⟩ : Addr) (.map (some b1)) := ⟨_, rfl⟩
 replace h := h w3 hw_w3
 refine LW.eff hL rfl (Wants.free rfl) rfl (stE hw_w3 (Ef.st rfl rfl rfl (by kernel_rfl) ho1 hf1)) ?_
 refine LW.nil hL rfl ?_
 refine NW.then ?_
 obtain ⟨J1, hJ1, h⟩ := h
 refine CW.cut (S := Unit) (fun s1 => [(2, .nilFunc), (3, .pointer (some (⟨b2, 0, none⟩ : Addr)))]) (fun s1 w4 => J1 w4) (fun s1 w4 h_ => ?_) ?_
 ·replace h := hJ1 w4 h_; clear h_
  refine CW.seq ?_
  refine CW.region fun L hL => ?_
  refine LW.rd hL rfl (Wants.free rfl) rfl (Rd.makeFunc rfl) ?_
  refine LW.rd hL rfl (Wants.free rfl) rfl (Rd.assign (v := .func (.func 51) #[] #[.pointer (some (⟨b2, 0, none⟩ : Addr))]) rfl) ?_
  refine LW.nil hL rfl ?_
  refine NW.then ?_
  refine CW.ret ?_
  exact res1 rfl rfl ⟨.func (.func 51) #[] #[.pointer (some (⟨b2, 0, none⟩ : Addr))], rfl, h⟩
 ·skip
  refine CW.seq ?_
  refine CW.region fun L hL => ?_
  refine LW.rd hL rfl (Wants.free rfl) rfl (Rd.move (v := .pointer f1) rfl) ?_
  refine LW.call hL rfl (Wants.free rfl) rfl (Cl.fn (f := 36) rfl Tryz.func36 (by kernel_rfl) rfl) h (fun e w5 h_ => ?_)
  clear h
  obtain ⟨r2, rfl, h⟩ := h_
  refine ⟨_, rfl, ?_⟩
  refine LW.rd hL rfl (Wants.free rfl) rfl (Rd.un (v := .bool (!r2)) rfl (fun _ => by kernel_rfl)) ?_
  refine LW.nil hL rfl ?_
  refine NW.then ?_
  refine CW.cond rfl (fun hb1 => ?_) (fun hb1 => ?_)
  ·replace h := h.1 hb1
   refine CW.region fun L hL => ?_
   refine LW.rd hL rfl (Wants.free rfl) rfl (Rd.move (v := .pointer f1) rfl) ?_
   refine LW.call hL rfl (Wants.free rfl) rfl (Cl.fn (f := 50) rfl Tryz.func50 (by kernel_rfl) rfl) h (fun e w6 h_ => ?_)
   clear h
   obtain ⟨r3, rfl, h⟩ := h_
   refine ⟨_, rfl, ?_⟩
   obtain ⟨⟨o_w7, ho2⟩, hf2, h⟩ := h
   obtain ⟨w7, hw_w7⟩ : ∃ w7, w7 = World.setCell w6 (⟨b2, 0, none⟩ : Addr) (.map r3) := ⟨_, rfl⟩
   replace h := h w7 hw_w7
   refine LW.eff hL rfl (Wants.free rfl) rfl (stE hw_w7 (Ef.st rfl rfl rfl (by kernel_rfl) ho2 hf2)) ?_
   refine LW.nil hL rfl ?_
   exact NW.cut (S := Unit) (Ek := fun s1 => [(2, .nilFunc), (3, .pointer (some (⟨b2, 0, none⟩ : Addr)))]) () (by exact ⟨rfl, rfl, trivial⟩) h
  ·replace h := h.2 hb1
   refine CW.skip ?_
   exact NW.cut (S := Unit) (Ek := fun s1 => [(2, .nilFunc), (3, .pointer (some (⟨b2, 0, none⟩ : Addr)))]) () (by exact ⟨rfl, rfl, trivial⟩) h
end Go.Proofs.YtfcfkhbkkfpehaaGreatDoor
end
section
/- flow.order: which place is ahead; as slices.SortFunc asks it. -/
namespace Go.Proofs.YtfcfkhbkkfpehaaGreatDoor
open Go Go.RowKit Go.X Go.Shelf Go.Sort
def cmpI (x y : Int) : Int := if x < y then -1 else if y < x then 1 else 0
def cmpP (x y : Int × Int) : Int := if cmpI x.1 y.1 = 0 then cmpI x.2 y.2 else cmpI x.1 y.1
theorem isNaN139 (w : World) (x : Int) : Calls Tryz.prog 78 #[.int .i64 x] w fun e w' => ∃ r : Bool, e = .returned (.bool r) ∧ (r = false ∧ w' = w) := by
 refine go_cmp_isNaN_942 _ _ _ ?_
 unfold W_cmp_isNaN_942
 exact ⟨by simp, rfl⟩
theorem isNaN140 (w : World) (x : Int) : Calls Tryz.prog 79 #[.int .i64 x] w fun e w' => ∃ r : Bool, e = .returned (.bool r) ∧ (r = false ∧ w' = w) := by
 refine go_cmp_isNaN_61 _ _ _ ?_
 unfold W_cmp_isNaN_61
 exact ⟨by simp, rfl⟩
theorem cmp122 (w : World) (x y : Int) : Calls Tryz.prog 57 #[.int .i64 x, .int .i64 y] w fun e w' => ∃ r : Int, e = .returned (.int .i64 r) ∧ (r = cmpI x y ∧ w' = w) := by
 refine go_cmp_Compare_942 _ _ _ _ ?_
 unfold W_cmp_Compare_942
 refine (isNaN139 w x).mono ?_
 rintro _ w1 ⟨_, rfl, rfl, hw⟩
 subst w1
 refine ⟨_, rfl, ?_⟩
 refine (isNaN139 w y).mono ?_
 rintro _ w1 ⟨_, rfl, rfl, hw⟩
 subst w1
 refine ⟨_, rfl, fun h => by simp at h, fun _ => ⟨fun h => by simp at h, fun _ => ⟨fun h => ?_, fun h => ⟨fun h' => ?_, fun h' => ?_⟩⟩⟩⟩
 ·have := of_decide_eq_true h
  exact ⟨by unfold cmpI; rw [if_pos this], rfl⟩
 ·have h1 := of_decide_eq_false h
  have h2 := of_decide_eq_true h'
  exact ⟨by unfold cmpI; rw [if_neg h1, if_pos h2], rfl⟩
 ·have h1 := of_decide_eq_false h
  have h2 := of_decide_eq_false h'
  exact ⟨by unfold cmpI; rw [if_neg h1, if_neg h2], rfl⟩
theorem cmp123 (w : World) (x y : Int) : Calls Tryz.prog 58 #[.int .i64 x, .int .i64 y] w fun e w' => ∃ r : Int, e = .returned (.int .i64 r) ∧ (r = cmpI x y ∧ w' = w) := by
 refine go_cmp_Compare_61 _ _ _ _ ?_
 unfold W_cmp_Compare_61
 refine (isNaN140 w x).mono ?_
 rintro _ w1 ⟨_, rfl, rfl, hw⟩
 subst w1
 refine ⟨_, rfl, ?_⟩
 refine (isNaN140 w y).mono ?_
 rintro _ w1 ⟨_, rfl, rfl, hw⟩
 subst w1
 refine ⟨_, rfl, fun h => by simp at h, fun _ => ⟨fun h => by simp at h, fun _ => ⟨fun h => ?_, fun h => ⟨fun h' => ?_, fun h' => ?_⟩⟩⟩⟩
 ·have := of_decide_eq_true h
  exact ⟨by unfold cmpI; rw [if_pos this], rfl⟩
 ·have h1 := of_decide_eq_false h
  have h2 := of_decide_eq_true h'
  exact ⟨by unfold cmpI; rw [if_neg h1, if_pos h2], rfl⟩
 ·have h1 := of_decide_eq_false h
  have h2 := of_decide_eq_false h'
  exact ⟨by unfold cmpI; rw [if_neg h1, if_neg h2], rfl⟩
set_option maxHeartbeats 1000000 in
theorem order103 (x y : Int × Int) (W : World) : Calls Tryz.prog 53 #[.agg #[.int .i64 x.1, .int .i64 x.2], .agg #[.int .i64 y.1, .int .i64 y.2]] W fun e w' => e = .returned (.int .i64 (cmpP x y)) ∧ ∃ q os', w' = grow (W.drewN q) os' := by
 have h1 := fun W' => cmp122 W' x.1 y.1
 have h2 := fun W' => cmp123 W' x.2 y.2
 unfold cmpP
 generalize cmpI x.1 y.1 = r1 at h1 ⊢
 generalize cmpI x.2 y.2 = r2 at h2 ⊢
 go_enter Tryz.func53, Tryz.ntmps53
 go_wp2_with (first
  | (go_at_call 57; refine (h1 _).mono ?_; rintro e w' ⟨_, rfl, rfl, rfl⟩)
  | (go_at_call 58; refine (h2 _).mono ?_; rintro e w' ⟨_, rfl, rfl, rfl⟩))
 all_goals first
  | (exfalso; simp_all; done)
  | (go_ret; exact ⟨by simp_all, 0, _, by rw [alloc_eq_grow, alloc_eq_grow, grow_grow]; rfl⟩)
end Go.Proofs.YtfcfkhbkkfpehaaGreatDoor
end
section
/- slices.SortFunc over places (by the shelf's contract). -/
namespace Go.Proofs.YtfcfkhbkkfpehaaGreatDoor
open Go Go.RowKit Go.X Go.Shelf Go.Sort
/-! The shelf's laying of slices.SortFunc (written by the kit's lay-plain) -/
def sortP_ren : Go.Shelf.Ren := ⟨fun | 6 => 55 | 15 => 77 | 14 => 76 | 28 => 101 | 29 => 102 | 20 => 93 | 21 => 94 | 22 => 95 | 23 => 96 | 24 => 97 | 25 => 98 | 26 => 99 | 27 => 100 | 46 => 113 | 47 => 114 | 48 => 115 | 49 => 116 | 50 => 117 | 57 => 125 | n => n, fun | 22 => 34 | 24 => 25 | 25 => 92 | 3 => 3 | 39 => 163 | 0 => 0 | 53 => 43 | 55 => 184 | 4 => 4 | 46 => 178 | 45 => 177 | 50 => 166 | 5 => 5 | 9 => 9 | 66 => 194 | 70 => 198 | 76 => 207 | 77 => 208 | n => n, fun | n => n⟩
theorem sortP : Go.Proofs.SlLaysF0.n6 Tryz.prog sortP_ren := {
 mixed := by kernel_rfl
 f6 := ⟨Tryz.f55.name, by decide, Tryz.func55.trans (congrArg some (by kernel_rfl))⟩
 f14 := ⟨Tryz.f76.name, by decide, Tryz.func76.trans (congrArg some (by kernel_rfl))⟩
 f15 := Tryz.func77.trans (congrArg some (by kernel_rfl))
 f20 := ⟨Tryz.f93.name, by decide, Tryz.func93.trans (congrArg some (by kernel_rfl))⟩
 f21 := ⟨Tryz.f94.name, by decide, Tryz.func94.trans (congrArg some (by kernel_rfl))⟩
 f22 := ⟨Tryz.f95.name, by decide, Tryz.func95.trans (congrArg some (by kernel_rfl))⟩
 f23 := ⟨Tryz.f96.name, by decide, Tryz.func96.trans (congrArg some (by kernel_rfl))⟩
 f24 := ⟨Tryz.f97.name, by decide, Tryz.func97.trans (congrArg some (by kernel_rfl))⟩
 f25 := ⟨Tryz.f98.name, by decide, Tryz.func98.trans (congrArg some (by kernel_rfl))⟩
 f26 := ⟨Tryz.f99.name, by decide, Tryz.func99.trans (congrArg some (by kernel_rfl))⟩
 f27 := ⟨Tryz.f100.name, by decide, Tryz.func100.trans (congrArg some (by kernel_rfl))⟩
 f28 := Tryz.func101.trans (congrArg some (by kernel_rfl))
 f29 := Tryz.func102.trans (congrArg some (by kernel_rfl))
 f46 := ⟨Tryz.f113.name, by decide, Tryz.func113.trans (congrArg some (by kernel_rfl))⟩
 f47 := Tryz.func114.trans (congrArg some (by kernel_rfl))
 f48 := Tryz.func115.trans (congrArg some (by kernel_rfl))
 f49 := ⟨Tryz.f116.name, by decide, Tryz.func116.trans (congrArg some (by kernel_rfl))⟩
 f50 := ⟨Tryz.f117.name, by decide, Tryz.func117.trans (congrArg some (by kernel_rfl))⟩
 f57 := ⟨Tryz.f125.name, by decide, Tryz.func125.trans (congrArg some (by kernel_rfl))⟩
 t0 := Tryz.underlying0
 a0 := Tryz.isAgg0
 z0 := Tryz.sizeOf0
 v0 := Tryz.zeroValue0
 t3 := Tryz.underlying3
 a3 := Tryz.isAgg3
 z3 := Tryz.sizeOf3
 v3 := Tryz.zeroValue3
 t4 := Tryz.underlying4
 a4 := Tryz.isAgg4
 z4 := Tryz.sizeOf4
 v4 := Tryz.zeroValue4
 t5 := Tryz.underlying5
 a5 := Tryz.isAgg5
 z5 := Tryz.sizeOf5
 v5 := Tryz.zeroValue5
 t9 := Tryz.underlying9
 a9 := Tryz.isAgg9
 z9 := Tryz.sizeOf9
 v9 := Tryz.zeroValue9
 t22 := Tryz.underlying34
 a22 := Tryz.isAgg34
 z22 := Tryz.sizeOf34
 v22 := Tryz.zeroValue34
 t25 := Tryz.underlying92
 a25 := Tryz.isAgg92
 z25 := Tryz.sizeOf92
 v25 := Tryz.zeroValue92
 t39 := Tryz.underlying163
 a39 := Tryz.isAgg163
 z39 := Tryz.sizeOf163
 v39 := Tryz.zeroValue163
 t45 := Tryz.underlying177
 a45 := Tryz.isAgg177
 z45 := Tryz.sizeOf177
 v45 := Tryz.zeroValue177
 t46 := Tryz.underlying178
 a46 := Tryz.isAgg178
 z46 := Tryz.sizeOf178
 v46 := Tryz.zeroValue178
 t50 := Tryz.underlying166
 a50 := Tryz.isAgg166
 z50 := Tryz.sizeOf166
 v50 := Tryz.zeroValue166
 t53 := Tryz.underlying43
 a53 := Tryz.isAgg43
 z53 := Tryz.sizeOf43
 v53 := Tryz.zeroValue43
 t55 := Tryz.underlying184
 a55 := Tryz.isAgg184
 z55 := Tryz.sizeOf184
 v55 := Tryz.zeroValue184
 t66 := Tryz.underlying194
 a66 := Tryz.isAgg194
 z66 := Tryz.sizeOf194
 v66 := Tryz.zeroValue194
 t70 := Tryz.underlying198
 a70 := Tryz.isAgg198
 z70 := Tryz.sizeOf198
 v70 := Tryz.zeroValue198
 t76 := Tryz.underlying207
 a76 := Tryz.isAgg207
 z76 := Tryz.sizeOf207
 v76 := Tryz.zeroValue207
 t77 := Tryz.underlying208
 a77 := Tryz.isAgg208
 z77 := Tryz.sizeOf208
 v77 := Tryz.zeroValue208 }
def encPl (x : Int × Int) : List Value := [.int .i64 x.1, .int .i64 x.2]
def ltPl (x y : Int × Int) : Prop := x.1 < y.1 ∨ (x.1 = y.1 ∧ x.2 < y.2)
instance (x y : Int × Int) : Decidable (ltPl x y) := by unfold ltPl; exact inferInstance
theorem lt_cmpP (x y : Int × Int) : ltOf cmpP x y = decide (ltPl x y) := by
 unfold ltOf cmpP cmpI ltPl
 refine decide_eq_decide.2 ?_
 by_cases h1 : x.1 < y.1
 ·simp [h1]
 ·by_cases h2 : y.1 < x.1
  ·simp [h1, h2]; omega
  ·by_cases h3 : x.2 < y.2
   ·simp [h1, h2, h3]; omega
   ·by_cases h4 : y.2 < x.2
    ·simp [h1, h2, h3, h4]
    ·simp [h1, h2, h3, h4]
theorem swoP : SWO (ltOf cmpP) where
 irrefl x := by rw [lt_cmpP]; exact decide_eq_false (by unfold ltPl; omega)
 trans x y z h1 h2 := by rw [lt_cmpP] at *; have a := of_decide_eq_true h1; have b := of_decide_eq_true h2; exact decide_eq_true (by unfold ltPl at *; omega)
 ntrans x y z h1 h2 := by rw [lt_cmpP] at *; have a := of_decide_eq_false h1; have b := of_decide_eq_false h2; exact decide_eq_false (by unfold ltPl at *; omega)
theorem cmpLays103 (blk off size : Nat) (w : World) : CmpLays Tryz.prog 53 #[] encPl 2 cmpP blk off size w :=
 fun _ _ _ _ x y => order103 x y _
theorem flat_length2 (xs : List (Int × Int)) : (xs.flatMap encPl).length = xs.length * 2 := by
 induction xs with
 | nil => rfl
 | cons a l ih => rw [List.flatMap_cons, List.length_append, ih]; simp [encPl]; omega
theorem flat_get2 : ∀ (xs : List (Int × Int)) (j : Nat) (x : Int × Int), xs[j]? = some x → (xs.flatMap encPl)[j * 2]? = some (.int .i64 x.1) ∧ (xs.flatMap encPl)[j * 2 + 1]? = some (.int .i64 x.2)
 | [], j, x, h => by simp at h
 | a :: l, 0, x, h => by simp at h; subst h; simp [encPl]
 | a :: l, j + 1, x, h => by
  have := flat_get2 l j x (by simpa using h)
  simp only [List.flatMap_cons, encPl, List.cons_append, List.nil_append]
  rw [show (j + 1) * 2 = j * 2 + 1 + 1 by omega]
  simpa using this
theorem flatK_eq (xs : List (Int × Int)) : flatK encPl 2 xs.toArray = (xs.flatMap encPl).toArray := by
 refine ext_get! (by rw [size_flatK, List.size_toArray, List.size_toArray, flat_length2]) fun t ht => ?_
 have ht' : t < xs.length * 2 := by simpa using ht
 rw [get_flatK _ _ _ t (by simpa using ht')]
 have hj : t / 2 < xs.length := by omega
 have hx : xs[t / 2]? = some xs[t / 2] := List.getElem?_eq_getElem hj
 obtain ⟨g0, g1⟩ := flat_get2 xs (t / 2) _ hx
 have e1 : (xs.toArray[t / 2]!) = xs[t / 2] := by simp [hj]
 rw [e1]
 have hl : t < (xs.flatMap encPl).length := by rw [flat_length2]; exact ht'
 have e2 : (xs.flatMap encPl).toArray[t]! = (xs.flatMap encPl)[t] := by rw [getElem!_pos _ t (by simpa using hl)]; simp
 rw [e2]
 rcases Nat.mod_two_eq_zero_or_one t with h | h
 ·rw [h]
  have : t / 2 * 2 = t := by omega
  rw [this, List.getElem?_eq_getElem hl] at g0
  rw [Option.some.inj g0]; rfl
 ·rw [h]
  have : t / 2 * 2 + 1 = t := by omega
  rw [this, List.getElem?_eq_getElem hl] at g1
  rw [Option.some.inj g1]; rfl
theorem heap_sortedV {w : World} {g n : Nat} {os : Array Obj} {cur : Array Value} {e : TypeId} {fr : Nat × Nat} (F : Array Value) (hb : w.heap[g]? = some (.cells cur e fr)) :
  (grow (putRow id (Sort.ahead w n) g 0 F) os).heap[g]? = some (.cells (putCells id 0 F cur) e fr) := by
 have hg : g < w.heap.size := (Array.getElem?_eq_some_iff.1 hb).1
 rw [heap_grow_old _ _ (by simpa using hg)]
 simp [putRow, mapBlock, Sort.ahead, Array.getElem?_modify, hb, onCells]
theorem chg_sortedV {w : World} {g n : Nat} {os : Array Obj} (F : Array Value) : Chg [g] w (grow (putRow id (Sort.ahead w n) g 0 F) os) := by
 refine ⟨rfl, rfl, rfl, by simp, fun k hk hne => ?_⟩
 rw [heap_grow_old _ _ (by simpa using hk)]
 have : g ≠ k := fun e => hne (by simp [e])
 simp [putRow, mapBlock, Sort.ahead, Array.getElem?_modify, this]
theorem take_putCellsV (cur F : Array Value) (h : F.size ≤ cur.size) : (putCells id 0 F cur).toList.take F.size = F.toList := by
 apply List.ext_getElem?
 intro j
 by_cases hj : j < F.size
 ·rw [List.getElem?_take_of_lt hj, Array.getElem?_toList]
  simp [putCells, hj, show j < cur.size by omega]
 ·rw [List.getElem?_take_eq_none (by omega), List.getElem?_eq_none (by simp; omega)]
theorem sort_places {w : World} {p : Option Addr} {n c : Nat} {xs : List (Int × Int)} (h : RowAt w 25 2 p n c (xs.flatMap encPl)) (hn : n = xs.length) (hle : n ≤ 1000000000000) :
  Calls Tryz.prog 55 #[.slice p n c, .func (.func 53) #[] #[]] w fun e w' => e = .returned (.tuple #[]) ∧ ∃ ys : List (Int × Int), ys.Perm xs ∧ ys.Pairwise (fun a b => ¬ ltPl b a) ∧ RowAt w' 25 2 p n c (ys.flatMap encPl) ∧ Chg (rowB p) w w' := by
 subst hn
 rcases h.2 with ⟨hv, hz⟩ | ⟨g, cap, cur, hv, hb, hg, h1, h2, h3, h4⟩
 ·obtain rfl : xs = [] := List.eq_nil_of_length_eq_zero hz
  cases hv
  refine (AnyF.slices_SortFunc_none sortP none 0 _ w).mono ?_
  rintro e w' ⟨rfl, rfl⟩
  exact ⟨rfl, [], List.Perm.refl _, List.Pairwise.nil, h, Chg.refl _ _⟩
 ·cases hv
  have eg : ∀ args w, (callFunc 53 args).run Tryz.prog w = .ok (.enter 53 args) w := enters_of Tryz.func53 (by kernel_rfl) rfl
  have hH : HoldsK encPl 2 w g 0 xs.toArray := by
   unfold HoldsK
   rw [flatK_eq]
   intro j hj
   have hj' : j < (xs.flatMap encPl).length := by simpa using hj
   refine ⟨?_, by simp [World.frozen?, hg]⟩
   have e1 : cur.toList[j]? = (xs.flatMap encPl)[j]? := by
    rw [← h4, List.getElem?_take_of_lt (by rw [flat_length2] at hj'; omega)]
   simp only [World.cell?, hg, Nat.zero_add, Option.isSome_none, Bool.false_eq_true, if_false]
   rw [← Array.getElem?_toList, e1, List.getElem?_eq_getElem hj', getElem!_pos _ j (by simpa using hj')]
   simp
  have hcon := AnyQ.slices_SortFunc sortP 2 Tryz.isAgg25 Tryz.sizeOf25 encPl (fun _ => rfl) (fun x v hv => by simp [encPl] at hv; rcases hv with rfl | rfl <;> rfl) cmpP swoP 53 #[] g 0 c xs.toArray w eg (cmpLays103 g 0 _ w) hH (lt_of_heap hg) (by simp; omega)
  rw [List.size_toArray] at hcon
  refine Calls.mono hcon ?_
  rintro e w' ⟨rfl, d', nn, os, ⟨hs, _, hperm⟩, hsort, rfl⟩
  have hd : d'.toList.Perm xs := by
   have hs' : d'.size = xs.length := by simpa using hs
   have e1 : d'.extract 0 xs.length = d' := by rw [← hs']; simp
   have e2 : xs.toArray.extract 0 xs.length = xs.toArray := by simp
   rw [e1, e2] at hperm
   simpa using hperm
  have hlen : d'.toList.length = xs.length := hd.length_eq
  have hds : d' = d'.toList.toArray := by simp
  refine ⟨rfl, d'.toList, hd, ?_, ?_, ?_⟩
  ·rw [List.pairwise_iff_getElem]
   intro i j hi hj hij
   have := hsort i j (Nat.zero_le _) hij (by omega)
   rw [lt_cmpP] at this
   have := of_decide_eq_false this
   rw [getElem!_pos d' j (by simpa using hj), getElem!_pos d' i (by simpa using hi)] at this
   simpa using this
  ·unfold sortWorldK putRowK
   rw [hds, flatK_eq]
   have hF : ((d'.toList.flatMap encPl).toArray).size = xs.length * 2 := by rw [List.size_toArray, flat_length2, hlen]
   refine ⟨by rw [List.toList_toArray, flat_length2, hlen], .inr ⟨g, c, _, rfl, Nat.zero_le _, heap_sortedV _ hg, h1, h2, by simp [putCells, h3], ?_⟩⟩
   have := take_putCellsV cur (d'.toList.flatMap encPl).toArray (by rw [hF, h3]; exact Nat.mul_le_mul_right 2 h1)
   rw [hF] at this
   simpa using this
  ·unfold sortWorldK putRowK
   simpa [rowB] using chg_sortedV (w := w) (g := g) (n := nn) (os := os) (flatK encPl 2 d')
end Go.Proofs.YtfcfkhbkkfpehaaGreatDoor
end
section
/- maps.Keys over places; slices.Collect, slices.SortedFunc over them. -/
namespace Go.Proofs.YtfcfkhbkkfpehaaGreatDoor
open Go Go.RowKit Go.X Go.XR
theorem encP_inj : ∀ a b : Int × Int, encP a = encP b → a = b := fun a b h => by
 simp [encP] at h
 exact Prod.ext h.1 h.2
theorem maps_pkeys (w : World) (m : Option Nat) : Calls Tryz.prog 52 #[.map m] w fun e w' => ∃ r : Value, e = .returned r ∧ ∃ cb, r = .func (.func 74) #[] #[.pointer (some ⟨cb, 0, none⟩)] ∧ cb = w.heap.size ∧ w'.heap[cb]? = some (.cells #[.map m] 99 (0, 0)) ∧ Chg [] w w' := by
 refine go_maps_Keys_134 _ _ _ ?_
 unfold W_maps_Keys_134
 exact v_alloc fun b w1 e h c => ⟨b, rfl, e, h, c⟩
theorem isFn121 (cb : Nat) : IsFn Tryz.prog (.func (.func 74) #[] #[.pointer (some ⟨cb, 0, none⟩)]) := ⟨74, Tryz.f74, _, rfl, Tryz.func74, by kernel_rfl, by kernel_rfl⟩
theorem iterates_pkeys {w : World} {cb m : Nat} {l : List ((Int × Int) × Int)} (hcb : w.heap[cb]? = some (.cells #[.map (some m)] 99 (0, 0))) (hm : MapIs w m encP (fun n : Int => .int .u32 n) l) :
  Iterates Tryz.prog (.func (.func 74) #[] #[.pointer (some ⟨cb, 0, none⟩)]) (fun x : Int × Int => #[.agg #[.int .i64 x.1, .int .i64 x.2]]) (allS Prod.fst l) (allSp Prod.fst l) [cb, m] w := by
 intro W yv I Ix hW hI hIx h0 hround
 refine ⟨74, #[.pointer (some ⟨cb, 0, none⟩)], Tryz.f74, rfl, Tryz.func74, by kernel_rfl, by kernel_rfl, ?_⟩
 have hcW := hW.obj (by simp) hcb
 have hmW := hm.chg hW (by simp)
 have hlm := hmW.lt
 refine (go_maps_Keys_134_1 yv ⟨cb, 0, none⟩ W (fun w' => ∃ Own, InO W Own w' ∧ ((∃ xs, allS Prod.fst l xs ∧ I Own xs w') ∨ ∃ pre, allSp Prod.fst l pre ∧ Ix Own pre w')) ?_).mono (fun e w' h => ⟨⟨_, h.1⟩, h.2⟩)
 unfold W_maps_Keys_134_1
 obtain ⟨it, w1, hrg, c1, hit, hI1⟩ := iter_range (P := Tryz.prog) (T := 99) hmW u143
 refine ⟨_, by rw [cell_of hcW]; rfl, _, w1, hrg, ?_⟩
 have hne : it ≠ m := by omega
 have s1 := c1.size
 have hitlt := hI1.lt
 refine ⟨fun w2 => ∃ done, I [it] (done.map Prod.fst) w2 ∧ IterAt w2 it m encP (fun n : Int => .int .u32 n) l done ∧ w1.heap.size ≤ w2.heap.size, fun w2 => l.length - seenN w2 it, ⟨[], ?_, hI1, Nat.le_refl _⟩, ?_⟩
 ·exact hI [] [] [it] W w1 h0 (by intro i hi; cases hi) c1 (by intro i hi; simp at hi; omega) (by intro i hi; simp at hi; omega)
 rintro w2 ⟨done, hi, hIt, s2⟩
 have hin : ∀ {A : World}, w1.heap.size ≤ A.heap.size → InO W [it] A := fun hA i hi => by simp at hi; omega
 rcases iter_next (P := Tryz.prog) hIt hne encP_inj 0 with ⟨hnx, hall⟩ | ⟨k, v, w3, hkl, hnew, hrun, c3, hI3, hent⟩
 ·exact ⟨_, false, w2, hnx, rfl, fun h => by simp at h, fun _ => ⟨[it], hin s2, .inl ⟨_, ⟨done, rfl, hIt.sub.2.1, hIt.sub.1, hall⟩, hi⟩⟩⟩
 ·have s3 := c3.size
  refine ⟨_, true, w3, hrun, rfl, fun _ => ⟨k.1, k.2, v, hent, ?_⟩, fun h => by simp at h⟩
  rintro b1 w5 ⟨q1, q2⟩ c5
  have s5 := c5.size
  have hI5 := hI3.chg c5 (by simp) (by simp)
  have hi3 := hI (done.map Prod.fst) [it] [it] w2 w3 hi (hin s2) c3 (hin (by omega)) (fun i h => .inl h)
  have hi5 := hI (done.map Prod.fst) [it] [it] w3 w5 hi3 (hin (by omega)) c5.nil (hin (by omega)) (fun i h => .inl h)
  have e1 : done.map Prod.fst ++ [k] = (done ++ [(k, v)]).map Prod.fst := by simp
  refine (hround [it] (done.map Prod.fst) k w5 (hin (by omega)) ⟨done ++ [(k, v)], e1, hI3.sub.2.1, hI3.sub.1⟩ hi5).mono ?_
  rintro e w4 ⟨s4, ⟨rfl, hi4, hs4⟩ | ⟨rfl, hx4⟩⟩
  ·refine ⟨true, rfl, fun h => by simp at h, fun _ => ⟨⟨done ++ [(k, v)], by rw [← e1]; exact hi4, hI5.eq (hs4 it (by simp)) (hs4 m (by simp)), by omega⟩, ?_⟩⟩
   have a1 := hIt.count
   have a2 := hI5.count
   have a3 := hIt.more hkl hnew
   have a4 : seenN w4 it = seenN w5 it := by unfold seenN; rw [hs4 it (by simp)]
   simp at a2
   simp only []
   omega
  ·exact ⟨false, rfl, fun _ => ⟨[it], hin (by omega), .inr ⟨_, ⟨done ++ [(k, v)], e1, hI3.sub.2.1, hI3.sub.1⟩, hx4⟩⟩, fun h => by simp at h⟩
theorem Iterates_later {α : Type} {P : Program} {fv : Value} {enc : α → Array Value} {S Sp : List α → Prop} {keep : List Nat} {w w1 : World} (h : Iterates P fv enc S Sp keep w) (hc : Chg [] w w1) : Iterates P fv enc S Sp keep w1 :=
 fun W yv I Ix hW => h W yv I Ix (hc.trans0 hW)
theorem append_pseq {w : World} {fv : Value} {S Sp : List (Int × Int) → Prop} {keep : List Nat} (hf : IsFn Tryz.prog fv) (hi : Iterates Tryz.prog fv (fun x : Int × Int => #[.agg #[.int .i64 x.1, .int .i64 x.2]]) S Sp keep w) (hk : ∀ i ∈ keep, i < w.heap.size)
  (hle : ∀ pre, Sp pre → pre.length ≤ 1000000000000) :
  Calls Tryz.prog 75 #[.slice none 0 0, fv] w fun e w' => ∃ (p : Option Addr) (n c : Nat), e = .returned (.slice p n c) ∧ ∃ xs, S xs ∧ n = xs.length ∧ RowAt w' 25 2 p n c (xs.flatMap encPl) ∧ Chg [] w w' ∧ ∀ b ∈ rowB p, w.heap.size ≤ b := by
 refine go_slices_AppendSeq_194 _ _ _ _ _ _ ?_
 unfold W_slices_AppendSeq_194
 rintro b1 w1 ⟨hb1, hb2⟩ c1
 have s1 := c1.size
 refine ⟨S, Sp, keep, hf, Iterates_later hi c1, fun i h => Nat.lt_of_lt_of_le (hk i h) s1,
  fun p n c O pre w' => n = pre.length ∧ RowAt w' 25 2 p n c (pre.flatMap encPl) ∧ (∀ b ∈ rowB p, b ∉ O ∧ w1.heap.size ≤ b) ∧ Chg [] w w' ∧ w1.heap.size ≤ w'.heap.size, ?_, ?_, ?_, ?_⟩
 ·rintro p n c pre O O' A B ⟨k1, k2, k3, k4, k5⟩ hO hc hO' hg
  have hsz := hc.size
  refine ⟨k1, k2.chg hc (fun b hb => (k3 b hb).1), fun b hb => ⟨fun hm => ?_, (k3 b hb).2⟩, k4.trans hc (fun i hi hlt => by have := (hO i hi).1; omega), by omega⟩
  rcases hg _ hm with h | h
  ·exact (k3 b hb).1 h
  ·have := k2.lt b hb; omega
 ·intro O w2 c2 hO
  exact ⟨rfl, RowAt.nil, by simp [rowB], c1.trans0 c2, c2.size⟩
 ·rintro l1 O pre x1 x2 p n c w2 hO hl1 hsp ⟨k1, k2, k3, k4, k5⟩ b2 w3 ⟨q1, q2⟩ c3
  have s3 := c3.size
  have hl := hO l1 hl1
  have hlp : ∀ b ∈ rowB p, b ∉ [l1] := fun b hb hm => by simp at hm; subst hm; exact (k3 _ hb).1 hl1
  refine v_alloc fun b3 w4 e2 hb2' c4 => ?_
  have s4 := c4.size
  have hlen := hle _ hsp
  simp at hlen
  have hr4 : RowAt w4 25 2 p n c (pre.flatMap encPl) := (k2.chg c3 hlp).chg c4 (by simp)
  obtain ⟨p', c', w5, hrun, hr5, c5, hnew⟩ := hr4.append (P := Tryz.prog) (t := 34) (ty := 34) (i := Tryz.t25) (z := .agg #[.int .i64 0, .int .i64 0]) (bytes := 16) (by kernel_rfl) (by kernel_rfl) (by kernel_rfl) (by kernel_rfl) (by kernel_rfl) rfl (by omega) (a := ⟨b3, 0, none⟩) (m := 1) (mc := 1) (news := [Value.int .i64 x1, Value.int .i64 x2]) (by simp)
   (fun j u hj => by
    match j, hj with
    | 0, hj => simp at hj; subst hj; rw [add_at, cell_of hb2']; rfl
    | 1, hj => simp at hj; subst hj; rw [add_at, cell_of hb2']; rfl
    | j + 2, hj => simp at hj) (by simp; exact ⟨rfl, rfl⟩) (by subst k1; unfold maxLen; omega) (by omega)
  have s5 := c5.size
  refine ⟨p', n + 1, c', w5, hrun, Same.of c5 (fun b hb => ⟨by simp at hb; omega, fun hm => by simp at hb; have := (k3 _ hm).2; omega⟩), fun w6 c6 => ?_⟩
  have s6 := c6.size
  have hnew' : ∀ b ∈ rowB p', b ∉ O ∧ w1.heap.size ≤ b := fun b hb => by
   rcases hnew b hb with h | h
   ·exact k3 b h
   ·exact ⟨fun hm => by have := (hO _ hm).2; omega, by omega⟩
  have c46 : Chg (b1 :: rowB p) w4 w6 := (c5.mono (fun i hi _ => List.mem_cons_of_mem _ hi)).trans c6 (fun i hi _ => by simp at hi; simp [hi])
  have c36 : Chg (b1 :: rowB p) w3 w6 := (c4.nil (f := b1 :: rowB p)).trans c46 (fun i hi _ => hi)
  refine ⟨by omega, ⟨by simp [k1], ?_, hnew', ?_, by omega⟩, ?_⟩
  ·rw [List.flatMap_append]
   exact hr5.chg c6 (fun b hb hm => by simp at hm; have := (hnew' b hb).2; omega)
  ·have c03 : Chg [] w w3 := k4.trans c3 (fun i hi hlt => by simp at hi; omega)
   exact c03.trans c36 (fun i hi hlt => by
    rcases List.mem_cons.1 hi with h | h
    ·omega
    ·have := (k3 i h).2; omega)
  ·refine Same.of c36 (fun b hb => ?_)
   rcases List.mem_append.1 hb with h | h
   ·have := hk b h
    refine ⟨by omega, fun hm => ?_⟩
    rcases List.mem_cons.1 hm with h | h
    ·omega
    ·have := (k3 b h).2; omega
   ·have := hO b h
    refine ⟨by omega, fun hm => ?_⟩
    rcases List.mem_cons.1 hm with h' | h'
    ·omega
    ·exact (k3 b h').1 h
 ·rintro d O xs p n c w7 hO hd hS ⟨k1, k2, k3, k4, k5⟩ w8 c8
  exact ⟨xs, hS, k1, k2.chg c8 (fun b hb hm => by simp at hm; subst hm; exact (k3 _ hb).1 hd), k4.trans c8 (fun i hi hlt => by simp at hi; subst hi; have := (hO _ hd).1; omega), fun b hb => by have := (k3 b hb).2; omega⟩
theorem sorted_places {w : World} {fv : Value} {S Sp : List (Int × Int) → Prop} {keep : List Nat} (hf : IsFn Tryz.prog fv) (hi : Iterates Tryz.prog fv (fun x : Int × Int => #[.agg #[.int .i64 x.1, .int .i64 x.2]]) S Sp keep w) (hk : ∀ i ∈ keep, i < w.heap.size)
  (hle : ∀ pre, Sp pre → pre.length ≤ 1000000000000) (hSp : ∀ xs, S xs → Sp xs) :
  Calls Tryz.prog 30 #[fv, .func (.func 53) #[] #[]] w fun e w' => ∃ (p : Option Addr) (n c : Nat), e = .returned (.slice p n c) ∧ ∃ xs ys : List (Int × Int), S xs ∧ ys.Perm xs ∧ ys.Pairwise (fun a b => ¬ ltPl b a) ∧ n = ys.length ∧ RowAt w' 25 2 p n c (ys.flatMap encPl) ∧ Chg [] w w' ∧ ∀ b ∈ rowB p, w.heap.size ≤ b := by
 refine go_slices_SortedFunc_841 _ _ _ _ ?_
 unfold W_slices_SortedFunc_841
 refine (go_slices_Collect_841 _ _ (fun p n c w' => ∃ xs, S xs ∧ n = xs.length ∧ RowAt w' 25 2 p n c (xs.flatMap encPl) ∧ Chg [] w w' ∧ ∀ b ∈ rowB p, w.heap.size ≤ b) ?_).mono ?_
 ·unfold W_slices_Collect_841
  refine (append_pseq hf hi hk hle).mono ?_
  rintro _ w1 ⟨p, n, c, rfl, h⟩
  exact ⟨p, n, c, rfl, h⟩
 rintro _ w1 ⟨p, n, c, rfl, xs, hS, hn, hr, c1, hb⟩
 refine ⟨p, n, c, rfl, ?_⟩
 refine (sort_places hr hn (by have := hle _ (hSp _ hS); omega)).mono ?_
 rintro _ w2 ⟨rfl, ys, hp, hs, hr2, c2⟩
 exact ⟨rfl, xs, ys, hS, hp, hs, by rw [hp.length_eq]; exact hn, hr2, c1.trans c2 (fun i hi hlt => by have := hb i hi; omega), hb⟩
end Go.Proofs.YtfcfkhbkkfpehaaGreatDoor
end
section
namespace Go.Proofs.YtfcfkhbkkfpehaaGreatDoor
open Go Go.X
/- maps.Keys[map[pomander/api.Place]int,pomander/api.Place,int] -/
def W_maps_Keys_262 (m1 : Option Nat) (w : World) (R : Value → World → Prop) : Prop :=
 ∀ b1 : Nat, b1 = World.size w → ∀ w1 : World, w1 = World.alloc w (.cells #[.map m1] 84) → (R (.func (.func 56) #[] #[.pointer (some (⟨b1, 0, none⟩ : Addr))]) w1)
set_option maxRecDepth 100000 in
theorem go_maps_Keys_262 (m1 : Option Nat) (w : World) (R : Value → World → Prop) (h : W_maps_Keys_262 m1 w R) : Calls Tryz.prog 31 #[.map m1] w (fun e w' => ∃ (r1 : Value), e = .returned (r1) ∧ R r1 w') := by
 unfold W_maps_Keys_262 at h
 refine enter (N := 4) Tryz.func31 rfl rfl ?_
 refine CW.seq ?_
 refine CW.region fun L hL => ?_
 obtain ⟨b1, hb_b1⟩ : ∃ b1, b1 = World.size w := ⟨_, rfl⟩
 obtain ⟨w1, hw_w1⟩ : ∃ w1, w1 = World.alloc w (.cells #[.map m1] 84) := ⟨_, rfl⟩
 replace h := h b1 hb_b1 w1 hw_w1
 refine LW.val hL rfl (Wants.free rfl) rfl (boxE hb_b1 hw_w1 (Vl.box (v := .map m1) rfl)) ?_
 refine LW.rd hL rfl (Wants.free rfl) rfl (Rd.assign (v := .nilFunc) rfl) ?_
 refine LW.nil hL rfl ?_
 refine NW.then ?_
 refine CW.seq ?_
 refine CW.region fun L hL => ?_
 refine LW.rd hL rfl (Wants.free rfl) rfl (Rd.makeFunc rfl) ?_
 refine LW.rd hL rfl (Wants.free rfl) rfl (Rd.assign (v := .func (.func 56) #[] #[.pointer (some (⟨b1, 0, none⟩ : Addr))]) rfl) ?_
 refine LW.nil hL rfl ?_
 refine NW.then ?_
 refine CW.ret ?_
 exact res1 rfl rfl ⟨.func (.func 56) #[] #[.pointer (some (⟨b1, 0, none⟩ : Addr))], rfl, h⟩
/- maps.Keys[map[pomander/api.Place]int,pomander/api.Place,int]$1 -/
def W_maps_Keys_262_1 (yield1 : Value) (cap1 : Addr) (w : World) (R : World → Prop) : Prop :=
 ∃ (t1 : Option Nat), w.cell? cap1 = some (.map t1) ∧ (∃ (it1 : Option Addr) (w1 : World), (Instr.range 84 (.map t1)).run Tryz.prog w = .ok (.pointer it1) w1 ∧ (∃ (I1 : World → Prop) (m1 : World → Nat), I1 w1 ∧ ∀ (w2 : World), I1 w2 → ∃ (nx1 : Array Value) (ok1 : Bool) (w3 : World), (Instr.next (.pointer it1) false 0).run Tryz.prog w2 = .ok (.tuple nx1) w3 ∧ nx1[0]? = some (.bool ok1) ∧ ((ok1 = true → ∃ (k1 : Int) (k2 : Int) (v1 : Int), (Instr.entry (.pointer it1)).run Tryz.prog w3 = .ok (.tuple #[.agg #[.int .i64 k1, .int .i64 k2], .int .i64 v1]) w3 ∧ (∀ (b1 : Nat) (w5 : World), (w3.heap.size ≤ b1 ∧ b1 < w5.heap.size) → Chg [] w3 w5 → (XR.CallsY Tryz.prog yield1 #[.agg #[.int .i64 k1, .int .i64 k2]] w5 fun e w6 => ∃ (r1 : Bool), e = .returned (.bool r1) ∧ (((!r1) = true → R w6) ∧ ((!r1) = false → (I1 w6 ∧ m1 w6 < m1 w2)))))) ∧ (ok1 = false → R w3))))
set_option maxRecDepth 100000 in
theorem go_maps_Keys_262_1 (yield1 : Value) (cap1 : Addr) (w : World) (R : World → Prop) (h : W_maps_Keys_262_1 yield1 cap1 w R) : Calls Tryz.prog 56 #[yield1, .pointer (some cap1)] w (fun e w' => e = .returned (.tuple #[]) ∧ R w') := by
 unfold W_maps_Keys_262_1 at h
 refine enter (N := 14) Tryz.func56 rfl rfl ?_
 refine CW.seq ?_
 refine CW.region fun L hL => ?_
 obtain ⟨t1, hc1, h⟩ := h
 refine LW.rd hL rfl (Wants.free rfl) rfl (Rd.ld (v := .map t1) rfl (by kernel_rfl) (eqs hc1)) ?_
 obtain ⟨it1, w1, hm1, h⟩ := h
 refine LW.val hL rfl (Wants.free rfl) rfl (Vl.range (v := .pointer it1) rfl hm1) ?_
 refine LW.nil hL rfl ?_
 refine NW.then ?_
 refine CW.block ?_
 obtain ⟨I1, m1, hI1, h⟩ := h
 refine CW.loop (S := Unit) (fun s1 => [(0, yield1), (5, .pointer it1)]) (fun s1 w2 => I1 w2) (fun s1 w2 => m1 w2) () (by exact ⟨rfl, rfl, trivial⟩) hI1 (fun s1 w2 hI1 => ?_)
 replace h := h w2 hI1
 refine CW.seq ?_
 refine CW.region fun L hL => ?_
 obtain ⟨nx1, ok1, w3, hm2, hk1, h⟩ := h
 refine LW.val hL rfl (Wants.free rfl) rfl (Vl.next (v := .tuple nx1) rfl hm2) ?_
 refine LW.rd hL rfl (Wants.free rfl) rfl (Rd.extract (v := .bool ok1) rfl hk1) ?_
 refine LW.nil hL rfl ?_
 refine NW.then ?_
 refine CW.seq ?_
 refine CW.cond rfl (fun hb1 => ?_) (fun hb1 => ?_)
 ·replace h := h.1 hb1
  refine CW.skip ?_
  refine NW.then ?_
  refine CW.block ?_
  refine CW.seq ?_
  refine CW.region fun L hL => ?_
  obtain ⟨k1, k2, v1, hl1, h⟩ := h
  refine LW.rd hL rfl (Wants.free rfl) rfl (Rd.entry (v := .tuple #[.agg #[.int .i64 k1, .int .i64 k2], .int .i64 v1]) rfl (fun _ e => e ▸ hl1)) ?_
  refine LW.rd hL rfl (Wants.free rfl) rfl (Rd.extract (v := .agg #[.int .i64 k1, .int .i64 k2]) rfl rfl) ?_
  obtain ⟨b1, hb_b1⟩ : ∃ b1, b1 = World.size w3 := ⟨_, rfl⟩
  obtain ⟨w4, hw_w4⟩ : ∃ w4, w4 = World.alloc w3 (.cells #[.int .i64 0, .int .i64 0] 25) := ⟨_, rfl⟩
  refine LW.val hL rfl (Wants.free rfl) rfl (boxE hb_b1 hw_w4 (Vl.alloc (z := .agg #[.int .i64 0, .int .i64 0]) (by kernel_rfl))) ?_
  have hB := Boxes.alloc (cs := [.int .i64 0, .int .i64 0]) (T := 25) (Boxes.nil w3) hb_b1 hw_w4
  have hlo_b1 := sil_lo (Chg.refl [] w3) hb_b1
  have hc_w4 := sil_alloc (Chg.refl [] w3) hw_w4
  obtain ⟨w5, hw_w5⟩ : ∃ x, x = setCells w4 (⟨b1, 0, none⟩ : Addr) 0 [.int .i64 k1, .int .i64 k2] := ⟨_, rfl⟩
  refine LW.eff hL rfl (Wants.free rfl) rfl (stNE hw_w5 (Ef.stN (cs := [.int .i64 k1, .int .i64 k2]) rfl rfl (by kernel_rfl) (List.forall_mem_cons.2 ⟨rfl, (List.forall_mem_cons.2 ⟨rfl, (List.forall_mem_nil _)⟩)⟩) (has_of (hB.at (i := 0) rfl) (by simp)) (free_of' (hB.at (i := 0) rfl)))) ?_
  replace hB : Boxes w5 [(b1, [.int .i64 k1, .int .i64 k2], 25)] := Boxes.store (vs := [.int .i64 k1, .int .i64 k2]) (i := 0) (o := 0) hB rfl rfl rfl rfl hw_w5
  have hc_w5 := sil_new hc_w4 (sil_cN hw_w5) hlo_b1
  refine LW.nil hL rfl ?_
  refine NW.then ?_
  refine CW.seq ?_
  refine XR.CW.un ?_
  refine XR.CW.region fun L hL => ?_
  refine XR.LW.rd hL rfl (Wants.free rfl) rfl (Rd.move (v := yield1) rfl) ?_
  refine XR.LW.rd hL rfl (Wants.free rfl) rfl (Rd.ldN (cs := [.int .i64 k1, .int .i64 k2]) rfl (by kernel_rfl) (by kernel_rfl) (cellsS (box_cells (hB.at (i := 0) rfl) rfl))) ?_
  replace h := h b1 w5 ⟨hlo_b1, lt_of_heap (hB.at (i := 0) rfl)⟩ hc_w5
  refine XR.LW.callY hL rfl (Wants.free rfl) rfl rfl rfl h (fun e w6 h_ => ?_)
  clear h
  obtain ⟨r1, rfl, h⟩ := h_
  refine ⟨_, rfl, ?_⟩
  refine XR.LW.rd hL rfl (Wants.free rfl) rfl (Rd.un (v := .bool (!r1)) rfl (fun _ => by kernel_rfl)) ?_
  refine XR.LW.nil hL rfl ?_
  refine NW.then ?_
  refine CW.cond rfl (fun hb2 => ?_) (fun hb2 => ?_)
  ·replace h := h.1 hb2
   refine CW.ret ?_
   refine RW.block ?_
   refine RW.then ?_
   refine RW.block ?_
   exact res0 rfl ⟨rfl, h⟩
  ·replace h := h.2 hb2
   refine CW.skip ?_
   refine NW.block ?_
   exact NW.loop (S := Unit) (Ek := fun s1 => [(0, yield1), (5, .pointer it1)]) () (by exact ⟨rfl, rfl, trivial⟩) h
 ·replace h := h.2 hb1
  refine CW.exit ?_
  refine XW.then ?_
  refine XW.then ?_
  refine XW.hit ?_
  exact res0n rfl (by exact ⟨rfl, h⟩)
end Go.Proofs.YtfcfkhbkkfpehaaGreatDoor
end
section
/- query.order, slices.SortedFunc by it, maps.Keys over map[api.Place]int (the flow's texts, turned). -/
namespace Go.Proofs.YtfcfkhbkkfpehaaGreatDoor
open Go Go.RowKit Go.X Go.XR Go.Shelf Go.Sort
theorem uMQ : Tryz.prog.underlying 84 = some (.map 25 3) := by kernel_rfl
set_option maxHeartbeats 1000000 in
theorem orderQ (x y : Int × Int) (W : World) : Calls Tryz.prog 32 #[.agg #[.int .i64 x.1, .int .i64 x.2], .agg #[.int .i64 y.1, .int .i64 y.2]] W fun e w' => e = .returned (.int .i64 (cmpP x y)) ∧ ∃ q os', w' = grow (W.drewN q) os' := by
 have h1 := fun W' => cmp122 W' x.1 y.1
 have h2 := fun W' => cmp123 W' x.2 y.2
 unfold cmpP
 generalize cmpI x.1 y.1 = r1 at h1 ⊢
 generalize cmpI x.2 y.2 = r2 at h2 ⊢
 go_enter Tryz.func32, Tryz.ntmps32
 go_wp2_with (first
  | (go_at_call 57; refine (h1 _).mono ?_; rintro e w' ⟨_, rfl, rfl, rfl⟩)
  | (go_at_call 58; refine (h2 _).mono ?_; rintro e w' ⟨_, rfl, rfl, rfl⟩))
 all_goals first
  | (exfalso; simp_all; done)
  | (go_ret; exact ⟨by simp_all, 0, _, by rw [alloc_eq_grow, alloc_eq_grow, grow_grow]; rfl⟩)
theorem cmpLaysQ (blk off size : Nat) (w : World) : CmpLays Tryz.prog 32 #[] encPl 2 cmpP blk off size w :=
 fun _ _ _ _ x y => orderQ x y _
theorem sort_placesQ {w : World} {p : Option Addr} {n c : Nat} {xs : List (Int × Int)} (h : RowAt w 25 2 p n c (xs.flatMap encPl)) (hn : n = xs.length) (hle : n ≤ 1000000000000) :
  Calls Tryz.prog 55 #[.slice p n c, .func (.func 32) #[] #[]] w fun e w' => e = .returned (.tuple #[]) ∧ ∃ ys : List (Int × Int), ys.Perm xs ∧ ys.Pairwise (fun a b => ¬ ltPl b a) ∧ RowAt w' 25 2 p n c (ys.flatMap encPl) ∧ Chg (rowB p) w w' := by
 subst hn
 rcases h.2 with ⟨hv, hz⟩ | ⟨g, cap, cur, hv, hb, hg, h1, h2, h3, h4⟩
 ·obtain rfl : xs = [] := List.eq_nil_of_length_eq_zero hz
  cases hv
  refine (AnyF.slices_SortFunc_none sortP none 0 _ w).mono ?_
  rintro e w' ⟨rfl, rfl⟩
  exact ⟨rfl, [], List.Perm.refl _, List.Pairwise.nil, h, Chg.refl _ _⟩
 ·cases hv
  have eg : ∀ args w, (callFunc 32 args).run Tryz.prog w = .ok (.enter 32 args) w := enters_of Tryz.func32 (by kernel_rfl) rfl
  have hH : HoldsK encPl 2 w g 0 xs.toArray := by
   unfold HoldsK
   rw [flatK_eq]
   intro j hj
   have hj' : j < (xs.flatMap encPl).length := by simpa using hj
   refine ⟨?_, by simp [World.frozen?, hg]⟩
   have e1 : cur.toList[j]? = (xs.flatMap encPl)[j]? := by
    rw [← h4, List.getElem?_take_of_lt (by rw [flat_length2] at hj'; omega)]
   simp only [World.cell?, hg, Nat.zero_add, Option.isSome_none, Bool.false_eq_true, if_false]
   rw [← Array.getElem?_toList, e1, List.getElem?_eq_getElem hj', getElem!_pos _ j (by simpa using hj')]
   simp
  have hcon := AnyQ.slices_SortFunc sortP 2 Tryz.isAgg25 Tryz.sizeOf25 encPl (fun _ => rfl) (fun x v hv => by simp [encPl] at hv; rcases hv with rfl | rfl <;> rfl) cmpP swoP 32 #[] g 0 c xs.toArray w eg (cmpLaysQ g 0 _ w) hH (lt_of_heap hg) (by simp; omega)
  rw [List.size_toArray] at hcon
  refine Calls.mono hcon ?_
  rintro e w' ⟨rfl, d', nn, os, ⟨hs, _, hperm⟩, hsort, rfl⟩
  have hd : d'.toList.Perm xs := by
   have hs' : d'.size = xs.length := by simpa using hs
   have e1 : d'.extract 0 xs.length = d' := by rw [← hs']; simp
   have e2 : xs.toArray.extract 0 xs.length = xs.toArray := by simp
   rw [e1, e2] at hperm
   simpa using hperm
  have hlen : d'.toList.length = xs.length := hd.length_eq
  have hds : d' = d'.toList.toArray := by simp
  refine ⟨rfl, d'.toList, hd, ?_, ?_, ?_⟩
  ·rw [List.pairwise_iff_getElem]
   intro i j hi hj hij
   have := hsort i j (Nat.zero_le _) hij (by omega)
   rw [lt_cmpP] at this
   have := of_decide_eq_false this
   rw [getElem!_pos d' j (by simpa using hj), getElem!_pos d' i (by simpa using hi)] at this
   simpa using this
  ·unfold sortWorldK putRowK
   rw [hds, flatK_eq]
   have hF : ((d'.toList.flatMap encPl).toArray).size = xs.length * 2 := by rw [List.size_toArray, flat_length2, hlen]
   refine ⟨by rw [List.toList_toArray, flat_length2, hlen], .inr ⟨g, c, _, rfl, Nat.zero_le _, heap_sortedV _ hg, h1, h2, by simp [putCells, h3], ?_⟩⟩
   have := take_putCellsV cur (d'.toList.flatMap encPl).toArray (by rw [hF, h3]; exact Nat.mul_le_mul_right 2 h1)
   rw [hF] at this
   simpa using this
  ·unfold sortWorldK putRowK
   simpa [rowB] using chg_sortedV (w := w) (g := g) (n := nn) (os := os) (flatK encPl 2 d')
theorem maps_qkeys (w : World) (m : Option Nat) : Calls Tryz.prog 31 #[.map m] w fun e w' => ∃ r : Value, e = .returned r ∧ ∃ cb, r = .func (.func 56) #[] #[.pointer (some ⟨cb, 0, none⟩)] ∧ cb = w.heap.size ∧ w'.heap[cb]? = some (.cells #[.map m] 84 (0, 0)) ∧ Chg [] w w' := by
 refine go_maps_Keys_262 _ _ _ ?_
 unfold W_maps_Keys_262
 exact v_alloc fun b w1 e h c => ⟨b, rfl, e, h, c⟩
theorem isFnQ (cb : Nat) : IsFn Tryz.prog (.func (.func 56) #[] #[.pointer (some ⟨cb, 0, none⟩)]) := ⟨56, Tryz.f56, _, rfl, Tryz.func56, by kernel_rfl, by kernel_rfl⟩
theorem iterates_qkeys {w : World} {cb m : Nat} {l : List ((Int × Int) × Int)} (hcb : w.heap[cb]? = some (.cells #[.map (some m)] 84 (0, 0))) (hm : MapIs w m encP (fun n : Int => .int .i64 n) l) :
  Iterates Tryz.prog (.func (.func 56) #[] #[.pointer (some ⟨cb, 0, none⟩)]) (fun x : Int × Int => #[.agg #[.int .i64 x.1, .int .i64 x.2]]) (allS Prod.fst l) (allSp Prod.fst l) [cb, m] w := by
 intro W yv I Ix hW hI hIx h0 hround
 refine ⟨56, #[.pointer (some ⟨cb, 0, none⟩)], Tryz.f56, rfl, Tryz.func56, by kernel_rfl, by kernel_rfl, ?_⟩
 have hcW := hW.obj (by simp) hcb
 have hmW := hm.chg hW (by simp)
 have hlm := hmW.lt
 refine (go_maps_Keys_262_1 yv ⟨cb, 0, none⟩ W (fun w' => ∃ Own, InO W Own w' ∧ ((∃ xs, allS Prod.fst l xs ∧ I Own xs w') ∨ ∃ pre, allSp Prod.fst l pre ∧ Ix Own pre w')) ?_).mono (fun e w' h => ⟨⟨_, h.1⟩, h.2⟩)
 unfold W_maps_Keys_262_1
 obtain ⟨it, w1, hrg, c1, hit, hI1⟩ := iter_range (P := Tryz.prog) (T := 84) hmW uMQ
 refine ⟨_, by rw [cell_of hcW]; rfl, _, w1, hrg, ?_⟩
 have hne : it ≠ m := by omega
 have s1 := c1.size
 have hitlt := hI1.lt
 refine ⟨fun w2 => ∃ done, I [it] (done.map Prod.fst) w2 ∧ IterAt w2 it m encP (fun n : Int => .int .i64 n) l done ∧ w1.heap.size ≤ w2.heap.size, fun w2 => l.length - seenN w2 it, ⟨[], ?_, hI1, Nat.le_refl _⟩, ?_⟩
 ·exact hI [] [] [it] W w1 h0 (by intro i hi; cases hi) c1 (by intro i hi; simp at hi; omega) (by intro i hi; simp at hi; omega)
 rintro w2 ⟨done, hi, hIt, s2⟩
 have hin : ∀ {A : World}, w1.heap.size ≤ A.heap.size → InO W [it] A := fun hA i hi => by simp at hi; omega
 rcases iter_next (P := Tryz.prog) hIt hne encP_inj 0 with ⟨hnx, hall⟩ | ⟨k, v, w3, hkl, hnew, hrun, c3, hI3, hent⟩
 ·exact ⟨_, false, w2, hnx, rfl, fun h => by simp at h, fun _ => ⟨[it], hin s2, .inl ⟨_, ⟨done, rfl, hIt.sub.2.1, hIt.sub.1, hall⟩, hi⟩⟩⟩
 ·have s3 := c3.size
  refine ⟨_, true, w3, hrun, rfl, fun _ => ⟨k.1, k.2, v, hent, ?_⟩, fun h => by simp at h⟩
  rintro b1 w5 ⟨q1, q2⟩ c5
  have s5 := c5.size
  have hI5 := hI3.chg c5 (by simp) (by simp)
  have hi3 := hI (done.map Prod.fst) [it] [it] w2 w3 hi (hin s2) c3 (hin (by omega)) (fun i h => .inl h)
  have hi5 := hI (done.map Prod.fst) [it] [it] w3 w5 hi3 (hin (by omega)) c5.nil (hin (by omega)) (fun i h => .inl h)
  have e1 : done.map Prod.fst ++ [k] = (done ++ [(k, v)]).map Prod.fst := by simp
  refine (hround [it] (done.map Prod.fst) k w5 (hin (by omega)) ⟨done ++ [(k, v)], e1, hI3.sub.2.1, hI3.sub.1⟩ hi5).mono ?_
  rintro e w4 ⟨s4, ⟨rfl, hi4, hs4⟩ | ⟨rfl, hx4⟩⟩
  ·refine ⟨true, rfl, fun h => by simp at h, fun _ => ⟨⟨done ++ [(k, v)], by rw [← e1]; exact hi4, hI5.eq (hs4 it (by simp)) (hs4 m (by simp)), by omega⟩, ?_⟩⟩
   have a1 := hIt.count
   have a2 := hI5.count
   have a3 := hIt.more hkl hnew
   have a4 : seenN w4 it = seenN w5 it := by unfold seenN; rw [hs4 it (by simp)]
   simp at a2
   simp only []
   omega
  ·exact ⟨false, rfl, fun _ => ⟨[it], hin (by omega), .inr ⟨_, ⟨done ++ [(k, v)], e1, hI3.sub.2.1, hI3.sub.1⟩, hx4⟩⟩, fun h => by simp at h⟩
theorem sorted_placesQ {w : World} {fv : Value} {S Sp : List (Int × Int) → Prop} {keep : List Nat} (hf : IsFn Tryz.prog fv) (hi : Iterates Tryz.prog fv (fun x : Int × Int => #[.agg #[.int .i64 x.1, .int .i64 x.2]]) S Sp keep w) (hk : ∀ i ∈ keep, i < w.heap.size)
  (hle : ∀ pre, Sp pre → pre.length ≤ 1000000000000) (hSp : ∀ xs, S xs → Sp xs) :
  Calls Tryz.prog 30 #[fv, .func (.func 32) #[] #[]] w fun e w' => ∃ (p : Option Addr) (n c : Nat), e = .returned (.slice p n c) ∧ ∃ xs ys : List (Int × Int), S xs ∧ ys.Perm xs ∧ ys.Pairwise (fun a b => ¬ ltPl b a) ∧ n = ys.length ∧ RowAt w' 25 2 p n c (ys.flatMap encPl) ∧ Chg [] w w' ∧ ∀ b ∈ rowB p, w.heap.size ≤ b := by
 refine go_slices_SortedFunc_841 _ _ _ _ ?_
 unfold W_slices_SortedFunc_841
 refine (go_slices_Collect_841 _ _ (fun p n c w' => ∃ xs, S xs ∧ n = xs.length ∧ RowAt w' 25 2 p n c (xs.flatMap encPl) ∧ Chg [] w w' ∧ ∀ b ∈ rowB p, w.heap.size ≤ b) ?_).mono ?_
 ·unfold W_slices_Collect_841
  refine (append_pseq hf hi hk hle).mono ?_
  rintro _ w1 ⟨p, n, c, rfl, h⟩
  exact ⟨p, n, c, rfl, h⟩
 rintro _ w1 ⟨p, n, c, rfl, xs, hS, hn, hr, c1, hb⟩
 refine ⟨p, n, c, rfl, ?_⟩
 refine (sort_placesQ hr hn (by have := hle _ (hSp _ hS); omega)).mono ?_
 rintro _ w2 ⟨rfl, ys, hp, hs, hr2, c2⟩
 exact ⟨rfl, xs, ys, hS, hp, hs, by rw [hp.length_eq]; exact hn, hr2, c1.trans c2 (fun i hi hlt => by have := hb i hi; omega), hb⟩
end Go.Proofs.YtfcfkhbkkfpehaaGreatDoor
end
