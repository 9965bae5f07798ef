/- Flows: get, put, keep, Mark, New. -/
import Derived.Test.YtkfncibmfcdokaaXFlow1
import Derived.Test.YtkfncibmfcdokaaXFt1
set_option linter.unusedVariables false
set_option linter.unusedSimpArgs false
namespace Go.Proofs.Ytkfncibmfcdokaa
open Go Go.RowKit Go.X

def i64s (n : Int) : Prop := -9223372036854775808 ≤ n ∧ n ≤ 9223372036854775807

theorem nd_swap {A B B' C : List Nat} {n : Nat} (h : (A ++ (B ++ C)).Nodup) (hB' : B'.Nodup) (hs : ∀ i ∈ B', i ∈ B ∨ n ≤ i) (hA : ∀ i ∈ A, i < n) (hC : ∀ i ∈ C, i < n) : (A ++ (B' ++ C)).Nodup := by
  rw [List.nodup_append] at h ⊢
  obtain ⟨h1, h2, h3⟩ := h
  rw [List.nodup_append] at h2
  obtain ⟨h4, h5, h6⟩ := h2
  refine ⟨h1, ?_, ?_⟩
  · rw [List.nodup_append]
    refine ⟨hB', h5, fun a ha c hc e => ?_⟩
    rcases hs a ha with h | h
    · exact h6 a h c hc e
    · have := hC c hc; omega
  · intro a ha c hc e
    rcases List.mem_append.1 hc with hc | hc
    · rcases hs c hc with h | h
      · exact h3 a ha c (List.mem_append.2 (.inl h)) e
      · have := hA a ha; omega
    · exact h3 a ha c (List.mem_append.2 (.inr hc)) e

theorem flow_get {w : World} {b : Nat} {F : Fl} {fp : List Nat} (h : FlowAt w b F fp) {p1 p2 : Int} (hp : i64s p2) :
    Calls Try.prog 75 #[.pointer (some ⟨b, 0, none⟩), .agg #[.int .i64 p1, .int .i64 p2]] w fun e w' => ∃ r : Int, e = .returned (.int .u32 r) ∧ (r = F.g (p1, p2) ∧ Chg [] w w') := by
  obtain ⟨T, m, d, r, l, fpT, fpm, fpd, gm, gd, h1, h2, h3, h4, h5, h6, h7, h8, h9, rfl⟩ := h.there
  refine ok_flow_Flow_get _ _ _ _ _ ?_
  unfold V_flow_Flow_get
  refine v_alloc fun b1 w1 e1 hb1 c1 => ?_
  refine ⟨p1, by rw [cell_of hb1]; rfl, fun hk => ?_, fun hk => ⟨fun hk2 => ?_, fun hk2 => ?_⟩⟩
  · have hk' : p1 = 10 := by simpa using hk
    subst hk'
    refine v_drew fun w2 c2 => ?_
    have c02 := c1.trans0 c2
    refine ⟨_, rfl, _, by rw [add_at, cell_of (c02.obj (by simp) h1)]; rfl, p2, by rw [cell_of (c2.obj (by simp) hb1)]; rfl, ?_⟩
    refine (shadow_getp (h3.chg c02 (by simp)) hp).mono ?_
    rintro _ w3 ⟨r1, r2, rfl, c3, rfl, _⟩
    exact ⟨_, _, rfl, (h6 p2).symm, c02.trans0 c3⟩
  · have hk' : p1 = 12 := by simpa using hk2
    subst hk'
    refine v_drew fun w2 c2 => ?_
    have c02 := c1.trans0 c2
    refine ⟨_, rfl, _, by rw [add_at, cell_of (c02.obj (by simp) h1)]; rfl, p2, by rw [cell_of (c2.obj (by simp) hb1)]; rfl, ?_⟩
    refine (shadow_getp (h4.chg c02 (by simp)) hp).mono ?_
    rintro _ w3 ⟨r1, r2, rfl, c3, rfl, _⟩
    exact ⟨_, _, rfl, (h7 p2).symm, c02.trans0 c3⟩
  · have hk' : p1 ≠ 10 := by simpa using hk
    have hk2' : p1 ≠ 12 := by simpa using hk2
    refine v_drew fun w2 c2 => ?_
    have c02 := c1.trans0 c2
    refine ⟨_, rfl, _, by rw [add_at, cell_of (c02.obj (by simp) h1)]; rfl, p1, p2, cellsAt_of (c2.obj (by simp) hb1), ?_⟩
    have hl := (h5.chg c02 (by simp)).lookup (P := Try.prog) (T := 143) u143 keyPlace zero22 (p1, p2) false
    refine ⟨F.g (p1, p2), ?_, rfl, c02⟩
    rw [h8 _ hk' hk2']
    rw [show (Value.agg #[.int .i64 p1, .int .i64 p2]) = encP (p1, p2) from rfl, hl]
    cases lookK (p1, p2) l <;> rfl

def putP (g : Int × Int → Int) (p : Int × Int) (set : Int) : Int × Int → Int := fun q => if q = p then set else g q

theorem flow_put {w : World} {b : Nat} {F : Fl} {fp : List Nat} (h : FlowAt w b F fp) {p1 p2 set : Int} (hm : mayP F.fr F.se (p1, p2)) (hs0 : 0 ≤ set) (hs1 : set < 65536) :
    Calls Try.prog 78 #[.pointer (some ⟨b, 0, none⟩), .agg #[.int .i64 p1, .int .i64 p2], .int .u32 set] w fun e w' => e = .returned (.tuple #[]) ∧
      (∃ fp', FlowAt w' b { F with g := putP F.g (p1, p2) set } fp' ∧ Chg fp w w' ∧ ∀ i ∈ fp', i ∈ fp ∨ w.heap.size ≤ i) := by
  have hlt := h.lt
  have hnd := h.nodup
  have hw := h.wide
  obtain ⟨T, m, d, r, l, fpT, fpm, fpd, gm, gd, h1, h2, h3, h4, h5, h6, h7, h8, h9, rfl⟩ := h.there
  have hm' := hm
  unfold mayP boundP at hm'
  simp only [] at hm'
  have hnd0 := hnd
  simp only [List.nodup_cons, List.mem_cons, List.mem_append, not_or, List.nodup_append] at hnd
  obtain ⟨⟨nbr, nbT, nbm, nbd⟩, ⟨nrT, nrm, nrd⟩, ndT, ⟨ndm, ndd, nmd⟩, nTmd⟩ := hnd
  have hcase : ∀ {w1 : World}, Chg [] w w1 → w1.heap[b]? = some (.cells #[.int .i64 F.fr, .int .i64 F.se, .pointer (some ⟨T, 0, none⟩), .pointer (some ⟨m, 0, none⟩), .pointer (some ⟨d, 0, none⟩), .map (some r)] 145 (0, 0)) := fun c => c.obj (by simp) h1
  refine ok_flow_Flow_put _ _ _ _ _ _ ?_
  unfold V_flow_Flow_put
  refine v_alloc fun b1 w1 e1 hb1 c1 => ?_
  refine ⟨p1, by rw [cell_of hb1]; rfl, fun hk => ?_, fun hk => ⟨p1, by rw [cell_of hb1]; rfl, fun hk2 => ?_, fun hk2 => ?_⟩⟩
  · have hk' : p1 = 10 := by simpa using hk
    subst hk'
    simp at hm'
    refine v_drew fun w2 c2 => ?_
    have c02 := c1.trans0 c2
    refine ⟨_, rfl, _, by rw [add_at, cell_of (hcase c02)]; rfl, p2, by rw [cell_of (c2.obj (by simp) hb1)]; rfl, ?_⟩
    refine (shadow_setp (h3.chg c02 (by simp)) ⟨by omega, by omega⟩ hs0).mono ?_
    rintro _ w3 ⟨r1, rfl, hr⟩
    rw [if_neg (by omega), if_pos (by omega)] at hr
    obtain ⟨rfl, fpm', hS, c3, hf⟩ := hr
    have c03 : Chg fpm w w3 := c02.nil.trans c3 (fun _ h _ => h)
    have hf' : ∀ i ∈ fpm', i ∈ fpm ∨ w.heap.size ≤ i := fun i hi => (hf i hi).imp id (fun h => Nat.le_trans c02.size h)
    refine ⟨_, rfl, b :: r :: (fpT ++ (fpm' ++ fpd)), ⟨⟨T, m, d, r, l, fpT, fpm', fpd, putG gm p2 set, gd, c03.obj nbm h1, h2.chg c03 (fun i hi hm => nTmd i hi i (.inl hm) rfl), hS, h4.chg c03 (fun i hi hm => nmd i hm i hi rfl), h5.chg c03 nrm, ?_, ?_, ?_, h9, rfl⟩, ?_⟩, ?_, ?_⟩
    · intro n; simp only [putP, putG]
      by_cases e : n = p2 <;> simp [e, h6]
    · intro n; simp [putP, h7]
    · intro p hp1 hp2; simp only [putP]
      rw [if_neg (by intro e; rw [e] at hp1; exact hp1 rfl)]; exact h8 p hp1 hp2
    · have := nd_swap (A := b :: r :: fpT) (B := fpm) (B' := fpm') (C := fpd) (n := w.heap.size) (by simpa using hnd0) hS.nodup hf' (fun i hi => hlt i (by simp at hi ⊢; rcases hi with h | h | h <;> simp [h])) (fun i hi => hlt i (by simp [hi]))
      simpa using this
    · exact c03.mono (fun i hi _ => by simp [hi])
    · intro i hi
      simp only [List.mem_cons, List.mem_append] at hi ⊢
      rcases hi with h | h | h | h | h
      · simp [h]
      · simp [h]
      · simp [h]
      · rcases hf' i h with h | h <;> simp [h]
      · simp [h]
  · have hk' : p1 = 12 := by simpa using hk2
    subst hk'
    simp at hm'
    refine v_drew fun w2 c2 => ?_
    have c02 := c1.trans0 c2
    refine ⟨_, rfl, _, by rw [add_at, cell_of (hcase c02)]; rfl, p2, by rw [cell_of (c2.obj (by simp) hb1)]; rfl, ?_⟩
    refine (shadow_setp (h4.chg c02 (by simp)) ⟨by omega, by omega⟩ hs0).mono ?_
    rintro _ w3 ⟨r1, rfl, hr⟩
    rw [if_neg (by omega), if_pos (by omega)] at hr
    obtain ⟨rfl, fpd', hS, c3, hf⟩ := hr
    have c03 : Chg fpd w w3 := c02.nil.trans c3 (fun _ h _ => h)
    have hf' : ∀ i ∈ fpd', i ∈ fpd ∨ w.heap.size ≤ i := fun i hi => (hf i hi).imp id (fun h => Nat.le_trans c02.size h)
    refine ⟨_, rfl, b :: r :: (fpT ++ (fpm ++ fpd')), ⟨⟨T, m, d, r, l, fpT, fpm, fpd', gm, putG gd p2 set, c03.obj nbd h1, h2.chg c03 (fun i hi hm => nTmd i hi i (.inr hm) rfl), h3.chg c03 (fun i hi hm => nmd i hi i hm rfl), hS, h5.chg c03 nrd, ?_, ?_, ?_, h9, rfl⟩, ?_⟩, ?_, ?_⟩
    · intro n; simp [putP, h6]
    · intro n; simp only [putP, putG]
      by_cases e : n = p2 <;> simp [e, h7]
    · intro p hp1 hp2; simp only [putP]
      rw [if_neg (by intro e; rw [e] at hp2; exact hp2 rfl)]; exact h8 p hp1 hp2
    · have := nd_swap (A := b :: r :: (fpT ++ fpm)) (B := fpd) (B' := fpd') (C := []) (n := w.heap.size) (by simpa using hnd0) hS.nodup hf' (fun i hi => hlt i (by simp at hi ⊢; rcases hi with h | h | h | h <;> simp [h])) (by simp)
      simpa using this
    · exact c03.mono (fun i hi _ => by simp [hi])
    · intro i hi
      simp only [List.mem_cons, List.mem_append] at hi ⊢
      rcases hi with h | h | h | h | h
      · simp [h]
      · simp [h]
      · simp [h]
      · simp [h]
      · rcases hf' i h with h | h <;> simp [h]
  · have hk' : p1 ≠ 10 := by simpa using hk
    have hk2' : p1 ≠ 12 := by simpa using hk2
    refine ⟨fun hz => ?_, fun hz => ?_⟩
    · have hz' : set = 0 := by simpa using hz
      subst hz'
      refine v_drew fun w2 c2 => ?_
      have c02 := c1.trans0 c2
      obtain ⟨w3, hd, c3, _, hm3⟩ := (h5.chg c02 (by simp)).delete (P := Try.prog) (T := 143) u143 keyPlace (p1, p2) (ty := 0)
      have c03 : Chg [r] w w3 := c02.nil.trans c3 (fun _ h _ => h)
      refine ⟨_, rfl, _, by rw [add_at, cell_of (hcase c02)]; rfl, p1, p2, cellsAt_of (c2.obj (by simp) hb1), w3, hd, ?_⟩
      refine ⟨b :: r :: (fpT ++ (fpm ++ fpd)), ⟨⟨T, m, d, r, _, fpT, fpm, fpd, gm, gd, c03.obj (by simpa using nbr) h1, h2.chg c03 (fun i hi hm => nrT (by simp at hm; exact hm ▸ hi)), h3.chg c03 (fun i hi hm => nrm (by simp at hm; exact hm ▸ hi)), h4.chg c03 (fun i hi hm => nrd (by simp at hm; exact hm ▸ hi)), hm3, ?_, ?_, ?_, ?_, rfl⟩, hnd0⟩, ?_, fun i hi => .inl hi⟩
      · intro n; simp only [putP]; rw [if_neg (by intro e; exact hk' (congrArg Prod.fst e).symm)]; exact h6 n
      · intro n; simp only [putP]; rw [if_neg (by intro e; exact hk2' (congrArg Prod.fst e).symm)]; exact h7 n
      · intro p hp1 hp2; simp only [putP]
        simp only [lookK_del]
        by_cases e : p = (p1, p2)
        · simp [e]
        · simp [e, h8 p hp1 hp2]
      · intro x hx; exact h9 x (List.mem_filter.1 hx).1
      · exact c03.mono (by simp)
    · have hz' : set ≠ 0 := by simpa using hz
      refine v_drew fun w2 c2 => ?_
      have c02 := c1.trans0 c2
      obtain ⟨w3, hd, c3, _, hm3⟩ := (h5.chg c02 (by simp)).update (P := Try.prog) (T := 143) u143 keyPlace (p1, p2) set
      have c03 : Chg [r] w w3 := c02.nil.trans c3 (fun _ h _ => h)
      refine ⟨_, rfl, _, by rw [add_at, cell_of (hcase c02)]; rfl, p1, p2, cellsAt_of (c2.obj (by simp) hb1), w3, hd, ?_⟩
      refine ⟨b :: r :: (fpT ++ (fpm ++ fpd)), ⟨⟨T, m, d, r, _, fpT, fpm, fpd, gm, gd, c03.obj (by simpa using nbr) h1, h2.chg c03 (fun i hi hm => nrT (by simp at hm; exact hm ▸ hi)), h3.chg c03 (fun i hi hm => nrm (by simp at hm; exact hm ▸ hi)), h4.chg c03 (fun i hi hm => nrd (by simp at hm; exact hm ▸ hi)), hm3, ?_, ?_, ?_, ?_, rfl⟩, hnd0⟩, ?_, fun i hi => .inl hi⟩
      · intro n; simp only [putP]; rw [if_neg (by intro e; exact hk' (congrArg Prod.fst e).symm)]; exact h6 n
      · intro n; simp only [putP]; rw [if_neg (by intro e; exact hk2' (congrArg Prod.fst e).symm)]; exact h7 n
      · intro p hp1 hp2; simp only [putP]
        simp only [lookK_upd]
        by_cases e : p = (p1, p2)
        · simp [e]
        · simp [e, h8 p hp1 hp2]
      · intro x hx
        unfold upd at hx
        split at hx
        · obtain ⟨y, hy, rfl⟩ := List.mem_map.1 hx
          by_cases e : y.1 = (p1, p2)
          · rw [if_pos e]; exact ⟨hk', hk2', hm, by show 0 < set; omega, hs1⟩
          · rw [if_neg e]; exact h9 y hy
        · rcases List.mem_append.1 hx with hx | hx
          · exact h9 x hx
          · simp at hx; subst hx; exact ⟨hk', hk2', hm, by show 0 < set; omega, hs1⟩
      · exact c03.mono (by simp)

theorem flow_keep {w : World} {b : Nat} {F : Fl} {fp : List Nat} (h : FlowAt w b F fp) {set : Int} (hs0 : 0 ≤ set) :
    Calls Try.prog 77 #[.pointer (some ⟨b, 0, none⟩), .int .u32 set] w fun e w' => ∃ r : Int, e = .returned (.int .i64 r) ∧
      (r = keepE F.most F.sets set ∧ ∃ fp', FlowAt w' b { F with sets := keepS F.most F.sets set } fp' ∧ Chg fp w w' ∧ ∀ i ∈ fp', i ∈ fp ∨ w.heap.size ≤ i) := by
  have hlt := h.lt
  have hnd := h.nodup
  obtain ⟨T, m, d, r, l, fpT, fpm, fpd, gm, gd, h1, h2, h3, h4, h5, h6, h7, h8, h9, rfl⟩ := h.there
  have hnd0 := hnd
  simp only [List.nodup_cons, List.mem_cons, List.mem_append, not_or, List.nodup_append] at hnd
  obtain ⟨⟨nbr, nbT, nbm, nbd⟩, ⟨nrT, nrm, nrd⟩, ndT, ⟨ndm, ndd, nmd⟩, nTmd⟩ := hnd
  refine ok_flow_Flow_keep _ _ _ _ ?_
  unfold V_flow_Flow_keep
  refine ⟨_, rfl, _, by rw [add_at, cell_of h1]; rfl, ?_⟩
  refine (table_keep h2 hs0).mono ?_
  rintro _ w3 ⟨r1, r2, rfl, rfl, fpT', hT, c3, hf⟩
  refine ⟨_, _, rfl, rfl, b :: r :: (fpT' ++ (fpm ++ fpd)), ⟨⟨T, m, d, r, l, fpT', fpm, fpd, gm, gd, c3.obj nbT h1, hT, h3.chg c3 (fun i hi hm => nTmd i hm i (.inl hi) rfl), h4.chg c3 (fun i hi hm => nTmd i hm i (.inr hi) rfl), h5.chg c3 nrT, h6, h7, h8, h9, rfl⟩, ?_⟩, ?_, ?_⟩
  · have := nd_swap (A := [b, r]) (B := fpT) (B' := fpT') (C := fpm ++ fpd) (n := w.heap.size) (by simpa using hnd0) hT.nodup hf (fun i hi => hlt i (by simp at hi ⊢; rcases hi with h | h <;> simp [h])) (fun i hi => hlt i (by simp at hi ⊢; rcases hi with h | h <;> simp [h]))
    simpa using this
  · exact c3.mono (fun i hi _ => by simp [hi])
  · intro i hi
    simp only [List.mem_cons, List.mem_append] at hi ⊢
    rcases hi with h | h | h | h | h
    · simp [h]
    · simp [h]
    · rcases hf i h with h | h <;> simp [h]
    · simp [h]
    · simp [h]

def flowNew (fr se most : Int) : Fl := ⟨fr, se, most, [0], fun _ => 0⟩
def rightP (fr se most : Int) : Prop := 1 ≤ fr ∧ fr ≤ 32 ∧ 1 ≤ se ∧ se ≤ 32 ∧ 1 ≤ most ∧ most ≤ 65536
instance (fr se most : Int) : Decidable (rightP fr se most) := by unfold rightP; exact inferInstance

theorem flow_new (w : World) (fr se most : Int) :
    Calls Try.prog 25 #[.agg #[.int .i64 fr, .int .i64 se], .int .i64 most] w fun e w' => ∃ (r1 : Option Addr) (r2 : Int), e = .returned (.tuple #[.pointer r1, .int .i64 r2]) ∧
      (Chg [] w w' ∧ if rightP fr se most then r2 = 0 ∧ ∃ b fp, r1 = some ⟨b, 0, none⟩ ∧ FlowAt w' b (flowNew fr se most) fp ∧ ∀ i ∈ fp, w.heap.size ≤ i else r1 = none ∧ r2 = 2) := by
  refine ok_flow_New _ _ _ _ _ ?_
  unfold V_flow_New
  refine v_alloc fun b1 w1 e1 hb1 c1 => ?_
  refine (table_new w1 most).mono ?_
  rintro _ w2 ⟨r3, r4, rfl, c2, ht⟩
  have hb2 := c2.obj (by simp) hb1
  refine ⟨_, _, rfl, fr, by rw [cell_of hb2]; rfl, ?_⟩
  refine (shadow_new w2 fr).mono ?_
  rintro _ w3 ⟨r5, r6, rfl, c3, hm⟩
  have hb3 := c3.obj (by simp) hb2
  refine ⟨_, _, rfl, se, by rw [cell_of hb3]; rfl, ?_⟩
  refine (shadow_new w3 se).mono ?_
  rintro _ w4 ⟨r7, r8, rfl, c4, hd⟩
  have hb4 := c4.obj (by simp) hb3
  have c04 : Chg [] w w4 := ((c1.trans0 c2).trans0 c3).trans0 c4
  refine ⟨_, _, rfl, fun hbad => ?_, fun hgood => ?_⟩
  · refine ⟨c04, ?_⟩
    rw [if_neg]
    · exact ⟨rfl, rfl⟩
    · rintro ⟨k1, k2, k3, k4, k5, k6⟩
      rw [if_pos ⟨k5, k6⟩] at ht
      rw [if_pos ⟨k1, k2⟩] at hm
      rw [if_pos ⟨k3, k4⟩] at hd
      simp [ht.1, hm.1, hd.1] at hbad
  simp at hgood
  by_cases k1 : 1 ≤ most ∧ most ≤ 65536
  case neg => rw [if_neg k1] at ht; omega
  by_cases k2 : 1 ≤ fr ∧ fr ≤ 32
  case neg => rw [if_neg k2] at hm; omega
  by_cases k3 : 1 ≤ se ∧ se ≤ 32
  case neg => rw [if_neg k3] at hd; omega
  rw [if_pos k1] at ht
  rw [if_pos k2] at hm
  rw [if_pos k3] at hd
  obtain ⟨rfl, T, fpT, rfl, hT, fT⟩ := ht
  obtain ⟨rfl, m, fpm, rfl, hM, fM⟩ := hm
  obtain ⟨rfl, d, fpd, rfl, hD, fD⟩ := hd
  refine ⟨fr, se, cellsAt_of hb4, ?_⟩
  refine v_alloc fun b2 w5 e5 h5 c5 => ?_
  refine v_alloc fun b3 w6 e6 h6 c6 => ?_
  have c06 := (c04.trans0 c5).trans0 c6
  have l5 : b2 < w5.heap.size := lt_of_heap h5
  have s1 := c1.size
  have s2 := c2.size
  have s3 := c3.size
  have s4 := c4.size
  have s5 := c5.size
  have lT := hT.lt
  have lM := hM.lt
  have lD := hD.lt
  refine ⟨c06, ?_⟩
  rw [if_pos ⟨k2.1, k2.2, k3.1, k3.2, k1.1, k1.2⟩]
  have hmap : MapIs w5 b2 encP (fun n : Int => .int .u32 n) [] := ⟨#[], 0, h5, rfl, by simp, by simp, by simp⟩
  have c26 := ((c3.trans0 c4).trans0 c5).trans0 c6
  have c36 := (c4.trans0 c5).trans0 c6
  have c46 := c5.trans0 c6
  refine ⟨rfl, b3, b3 :: b2 :: (fpT ++ (fpm ++ fpd)), rfl, ⟨⟨T, m, d, b2, [], fpT, fpm, fpd, fun _ => 0, fun _ => 0, h6, hT.chg c26 (by simp), hM.chg c36 (by simp), hD.chg c46 (by simp), hmap.chg c6 (by simp), fun _ => rfl, fun _ => rfl, fun _ _ _ => rfl, by simp, rfl⟩, ?_⟩, ?_⟩
  · simp only [List.nodup_cons, List.mem_cons, List.mem_append, not_or, List.nodup_append]
    refine ⟨⟨by omega, fun h => ?_, fun h => ?_, fun h => ?_⟩, ⟨fun h => ?_, fun h => ?_, fun h => ?_⟩, hT.nodup, ⟨hM.nodup, hD.nodup, fun a ha c hc e => ?_⟩, fun a ha c hc e => ?_⟩
    · have := lT _ h; omega
    · have := lM _ h; omega
    · have := lD _ h; omega
    · have := lT _ h; omega
    · have := lM _ h; omega
    · have := lD _ h; omega
    · have := lM _ ha; have := fD _ hc; omega
    · have := lT _ ha
      rcases hc with hc | hc
      · have := fM _ hc; omega
      · have := fD _ hc; omega
  · intro i hi
    simp only [List.mem_cons, List.mem_append] at hi
    rcases hi with h | h | h | h | h
    · omega
    · omega
    · have := fT i h; omega
    · have := fM i h; omega
    · have := fD i h; omega
end Go.Proofs.Ytkfncibmfcdokaa
